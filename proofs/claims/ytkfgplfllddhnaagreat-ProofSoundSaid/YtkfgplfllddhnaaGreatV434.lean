/- package salvorlaw10: ProofSound. -/
import Derived.Test.YtkfgplfllddhnaaGreatV433
namespace Go.Proofs.YtkfgplfllddhnaaGreat
open Go.RowKit
theorem snd_push {B:Nat} {wr w2 wa w3:World} {dl:Bool} {id1:Int} {lv hv v':Value} {lits hs:List Int} {nn:Int} (hB:wr.heap.size≤B) (hx:w2.heap[B]? =some (.cells #[.bool dl,.int .i64 id1,lv,hv] 39 (0,0))) (ho:w2.ownsRow (B+1) 3 1 hv hs.length (hs.map (Value.int .i64))) (hl:IntsIn (fun g=>g<B) w2 lv lits) (hb:Below wr.heap.size wr w2) (ha:Below w2.heap.size w2 wa) (hg:wa.grownBy w3 hv.ownBlock) (hn:w3.ownsRow (B+1) 3 1 v' (hs.length+1) (hs.map (Value.int .i64)++ [.int .i64 nn])):
  w3.heap[B]? =some (.cells #[.bool dl,.int .i64 id1,lv,hv] 39 (0,0))∧Hid ((w3.setCell ⟨B,3,none⟩ v').heap[B]? =some (.cells #[.bool dl,.int .i64 id1,lv,v'] 39 (0,0)))∧Hid ((w3.setCell ⟨B,3,none⟩ v').ownsRow (B+1) 3 1 v' (hs++ [nn]).length ((hs++ [nn]).map (Value.int .i64)))∧Hid (IntsIn (fun g=>g<B) (w3.setCell ⟨B,3,none⟩ v') lv lits)∧Hid (Below wr.heap.size wr (w3.setCell ⟨B,3,none⟩ v')):=by
 have hBl:=heap_lt hx
 have hxa:=(ha.block _ hBl).trans hx
 have hoa:=own_below ho ha
 have hx3:w3.heap[B]? =some (.cells #[.bool dl,.int .i64 id1,lv,hv] 39 (0,0)):=(hg.block _ (heap_lt hxa) (fun e=>mx_not hoa hxa (by decide) e.symm)).trans hxa
 have hk:Kept (fun g=>g=B) w3 (w3.setCell ⟨B,3,none⟩ v'):=(Kept.refl (fun g=>g=B) w3).setCell ⟨B,3,none⟩ _ rfl
 have hlow: ∀g,hv.ownBlock=some g→B+1≤g:=fun g e=>(own_lt hoa g e).1
 have hb3:Below wr.heap.size wr w3:=(hb.trans (ha.mono hb.size)).grown hg (by have:=hb.size;have:=ha.size;omega) (fun g e=>by have:=hlow g e;omega)
 refine⟨hx3,Lib.hid (mx_set hx3 v' (j:=3)),Lib.hid ?_,Lib.hid ?_,Lib.hid (hb3.trans (hk.below (fun i e=>by rw[e];exact hB) hb3.size))⟩
 ·rw[List.length_append,List.map_append]
  exact own_kept hn hk (fun g e1 e2=>by have:=(own_lt hn g e1).1;omega)
 ·exact((hl.below ha).kept (Kept.grown hg) (fun g h1 h2=>by have:=hlow g h2.symm;omega)).kept hk (fun g h1 h2=>by omega)
set_option maxRecDepth 100000 in
set_option maxHeartbeats 8000000 in
theorem sound_any (l x y:Value) (xss sss hss:List (List Int)) (w:World) (hl:RowsAt .i8 w l xss) (hx:RowsAt .i8 w x sss) (hy:RowsAt .i8 w y hss):
  Calls Tryz.prog 3 #[l,x,y] w fun e w'=>e= .returned (.bool true)∧Below w.heap.size w w':=by
 obtain⟨cs,hcs⟩: ∃cs,(xss.take 14).map madeL=cs:=⟨_,rfl⟩
 obtain⟨ii,hii,iz0,iz1,iz2⟩:=info_parts jinfo_int
 have HAW:=Lib.hid (awake10_any w)
 have HMD:=Lib.hid (fun(X:World) (hX:Below w.heap.size w X)=>made10_any l xss X (hl.below hX) hcs rfl)
 have HX:=Lib.hid (fun(X:World) (hX:Below w.heap.size w X)=>hx.below hX)
 have HY:=Lib.hid (fun(X:World) (hX:Below w.heap.size w X)=>hy.below hX)
 have h6: ∀c∈cs,Lit6 c:=by rw[←hcs];exact made_six xss
 have hcn:cs.length≤14:=by rw[←hcs,List.length_map,List.length_take];omega
 have H6:=Lib.hid h6
 obtain⟨n,hn⟩: ∃n,cs.length=n:=⟨_,rfl⟩
 have HN:=Lib.hid hn
 obtain⟨sat,hsat⟩: ∃sat,holdsL cs=sat:=⟨_,rfl⟩
 have HSAT:=Lib.hid hsat
 have HALV:=Lib.hid (Alv.new h6 (by omega))
 rw[hsat]at HALV
 rw[hn]at HMD hcn
 clear hcs hl hx hy h6 hn hsat
 go_enter Tryz.func3,Tryz.ntmps3
 go_wp2_with fail
 refine HAW.out.mono ?_
 rintro e w1 ⟨rfl,hb1⟩
 have HB1:=Lib.hid hb1
 clear hb1 HAW
 go_wp2_with fail
 refine(HMD.out w1 HB1.out).mono ?_
 rintro e w2 ⟨A,k,rfl,hcl,hb2⟩
 obtain⟨W3,hW3,hb3,hc3,-⟩:=al_new w2 #[.int .i64 6,.slice A n k] 26
 have hC3:ClsIn (fun _=>True) W3 (.slice A n k) cs:=(hcl.clsIn.below hb3).mono fun _ _=>trivial
 have HC3:=Lib.hid hC3
 have HB3:=Lib.hid (HB1.out.trans ((hb2.trans (hb3.mono hb2.size)).mono HB1.out.size))
 have HW3:=Lib.hid hW3
 have HX3:=Lib.hid hc3
 have HXL:=Lib.hid (heap_lt hc3)
 have HNEW:=Lib.hid (ck_new 6 _ cs W3 hC3 (fun c hc=>(H6.out c hc).clause) (by rw[HN.out];omega) (lit6_fchk H6.out (by rw[HN.out];omega)))
 have c0:=mx_cell (j:=0) hc3
 have c1:=mx_cell (j:=1) hc3
 clear hW3 hb3 hc3 hcl hb2 HMD hC3
 go_upto_region 4 with fail
 rw[HW3.out]
 go_wp2_with fail
 refine HNEW.out.mono ?_
 rintro e w5 ⟨bk,rfl,hck,hb5⟩
 have HCK:=Lib.hid hck
 have HB5:=Lib.hid hb5
 have HHO:=Lib.hid (law_holds _ cs w5 (HC3.out.below hb5) (lit6_lits H6.out) (by rw[HN.out];omega))
 rw[HSAT.out]at HHO
 clear c0 c1
 have c0:=(hb5.cell (p:=⟨w2.heap.size,0,none⟩) HXL.out).trans (mx_cell (j:=0) HX3.out)
 have c1:=(hb5.cell (p:=⟨w2.heap.size,1,none⟩) HXL.out).trans (mx_cell (j:=1) HX3.out)
 clear hck hb5 HNEW HW3
 go_wp2_with fail
 refine HHO.out.mono ?_
 rintro e w6 ⟨rfl,hb6⟩
 have HCK6:=Lib.hid (HCK.out.below hb6)
 have HB6:=Lib.hid (HB5.out.trans (hb6.mono HB5.out.size))
 clear c0 c1
 have c0:=(HB6.out.cell (p:=⟨w2.heap.size,0,none⟩) HXL.out).trans (mx_cell (j:=0) HX3.out)
 have c1:=(HB6.out.cell (p:=⟨w2.heap.size,1,none⟩) HXL.out).trans (mx_cell (j:=1) HX3.out)
 have hX0:=HX.out w (Below.refl _ _)
 obtain⟨As,cS,rfl,hcS,hmS,-,-⟩:=hX0
 have hY0:=HY.out w (Below.refl _ _)
 obtain⟨Ay,cY,rfl,hcY,hmY,-,-⟩:=hY0
 unfold maxLen at hmS hmY
 obtain⟨Lh,hLh⟩: ∃Lh,hss.length=Lh:=⟨_,rfl⟩
 have HLh:=Lib.hid hLh
 rw[hLh]at hcY HY⊢
 clear hLh
 obtain⟨N,hN⟩: ∃N:Nat,min sss.length 20=N:=⟨_,rfl⟩
 have hNs:min (sss.length:Int) 20=(N:Int):=by omega
 have hN20:N≤20:=by omega
 have hNS:N≤sss.length:=by omega
 have hNc:(N:Int)≤(cS:Int):=by omega
 clear hb6 HHO HCK hN
 go_wp2_with fail
 clear c0 c1
 go_loopw [11,44] (fun idv iv wr=> ∃(i:Nat) (id:Int) (k:Ckr),i≤N∧idv= .int .i64 id∧iv= .int .i64 i∧(n:Int)≤id∧id≤n+i∧Hid (k.last≤id)∧Hid (Alv k (1000+i) sat)∧Hid (CkAt W3.heap.size wr bk k)∧Hid (Below W3.heap.size W3 wr)) (fun _ iv _=>N-(intOf iv).toNat)
 case atStart=>exact⟨0,n,ckrNew cs,Nat.zero_le _,rfl,rfl,Int.le_refl _,by omega,Lib.hid (by show(cs.length:Int)≤n;rw[HN.out];exact Int.le_refl _),HALV,HCK6,HB6⟩
 case round=>
  obtain⟨i,id,kk,hi,rfl,rfl,hid0,hid1,HLS,HAL,HCR,HBR⟩:=hrel
  by_cases hin:i<N
  ·obtain⟨xi,hxi⟩:=getElem_of (show i<sss.length by omega)
   have hbw:=HB3.out.trans (HBR.out.mono HB3.out.size)
   have HBw:=Lib.hid hbw
   have hrow: ∃g o u,As=some ⟨g,o,none⟩∧g<w.heap.size∧w.cell? ⟨g,o+i,none⟩=some u∧RowAt .i8 w u xi:=by
    obtain⟨A',c',hv,_,_,_,hx⟩:=HX.out w (Below.refl _ _)
    simp only[Value.slice.injEq]at hv
    obtain⟨rfl,_,rfl⟩:=hv
    exact hx i xi hxi
   obtain⟨g,o,u,rfl,hg,d0,hu⟩:=hrow
   have d1:=(hbw.cell (p:=⟨g,o+i,none⟩) hg).trans d0
   have HM:=Lib.hid (made_any u xi wr (hu.below hbw))
   have hqi:decide ((i:Int)<(N:Int))=true:=decide_eq_true (by omega)
   have hqi2:(i:Int)<(N:Int):=by omega
   have hwi:IntKind.i64.wrap (i:Int)=i:=IntWalk.i64_in _ (by omega)
   have hwid:IntKind.i64.wrap (id+1)=id+1:=IntWalk.i64_in _ (by omega)
   obtain⟨id1,hid1e⟩: ∃id1:Int,id+1=id1:=⟨_,rfl⟩
   obtain⟨r,hr⟩: ∃r:Int,(i:Int).tmod 5=r:=⟨_,rfl⟩
   obtain⟨dl,hdl⟩: ∃dl,(r==4)=dl:=⟨_,rfl⟩
   clear hxi hu hbw d0
   go_wp2_with fail
   refine HM.out.mono ?_
   rintro e w7 ⟨vm,rfl,hom,hb7⟩
   obtain⟨Am,cm,rfl,_⟩:=mx_slice hom
   obtain⟨W8,hW8,hb8,hc8,hz8⟩:=al_new w7 #[.bool dl,.int .i64 id1,.slice Am (madeL xi).length cm,.slice none 0 0] 39
   obtain⟨B,hB⟩: ∃B,w7.heap.size=B:=⟨_,rfl⟩
   have hlm:IntsIn (fun g=>g<B) W8 (.slice Am (madeL xi).length cm) (madeL xi):=(IntsIn.of_own hom).lt.below hb8 |>.mono fun g hg=>by rw[←hB];exact hg.2
   have HLM:=Lib.hid hlm
   have HB8:=Lib.hid (hb7.trans (hb8.mono hb7.size))
   rw[hB]at hc8 hz8
   have hBr:wr.heap.size≤B:=by rw[←hB];exact hb7.size
   have HC8:=Lib.hid hc8
   have b0:=mx_cell (j:=0) hc8
   have HW8:=Lib.hid hW8
   clear hom hb7 hlm hb8 hc8 hW8 d1 HM
   obtain⟨lits,hlits⟩: ∃c,(if dl=true then []else madeL xi)=c:=⟨_,rfl⟩
   have H7:=Lib.hid (show∀y∈lits,litV y<7 from fun y hy=>by
    rw[←hlits]at hy
    cases dl with
    | true=>cases hy
    | false=>exact((made_six [xi] (madeL xi) (by simp)).2 y hy).2)
   have HLEN:=Lib.hid (show lits.length≤6 from by
    rw[←hlits]
    cases dl with
    | true=>exact Nat.zero_le _
    | false=>show(madeL xi).length≤6;simp[madeL];omega)
   have HLI:=Lib.hid hlits
   clear hlits
   go_upto_region 14 with fail
   rw[HW8.out]
   go_upto_if 59 with fail
   go_cut [14] (fun p wx=>p= .pointer (some ⟨B,0,none⟩)∧∃lv,Hid (wx.heap[B]? =some (.cells #[.bool dl,.int .i64 id1,lv,.slice none 0 0] 39 (0,0)))∧Hid (IntsIn (fun g=>g<B) wx lv lits)∧Hid (Below wr.heap.size wr wx))
   case first=>
    cases dl with
    | true=>
     have b2:=mx_cell (j:=2) HC8.out
     have f2:=free_at (j:=2) HC8.out
     have hk:Kept (fun g=>g=B) W8 (W8.setCell ⟨B,2,none⟩ (.slice none 0 0)):=(Kept.refl (fun g=>g=B) W8).setCell ⟨B,2,none⟩ _ rfl
     have HN8:=Lib.hid (mx_set HC8.out (.slice none 0 0) (j:=2))
     have HBN:=Lib.hid (HB8.out.trans (hk.below (fun i e=>by rw[e];exact hBr) HB8.out.size))
     clear hk
     go_wp2_with fail
     go_meet
     exact⟨rfl,_,HN8,Lib.hid (by rw[←HLI.out];exact IntsIn.nil _ _),HBN⟩
    | false=>
     go_wp2_with fail
     go_meet
     exact⟨rfl,_,HC8,Lib.hid (by rw[←HLI.out];exact HLM.out),HB8⟩
   case rest=>
    obtain⟨rfl,lv,HC9,HL9,HB9⟩:=hcut
    have hl9:=HL9.out
    obtain⟨Al,cl,rfl,_⟩:=hl9
    clear b0 HC8 HLM HB8 HW8 HLI
    have hY:=HY.out w (Below.refl _ _)
    go_upto_if 64 with fail
    go_cut [14] (fun p wx=>p= .pointer (some ⟨B,0,none⟩)∧∃hv hs,Hid (hs.length≤8)∧Hid (wx.heap[B]? =some (.cells #[.bool dl,.int .i64 id1,.slice Al lits.length cl,hv] 39 (0,0)))∧Hid (IntsIn (fun g=>g<B) wx (.slice Al lits.length cl) lits)∧Hid (IntsIn (fun _=>True) wx hv hs)∧Hid (Below wr.heap.size wr wx))
    case first=>
     by_cases hih:i<Lh
     ·have q1:decide ((i:Int)<(Lh:Int))=true:=decide_eq_true (by omega)
      have q1':(i:Int)<(Lh:Int):=by omega
      obtain⟨yi,hyi⟩:=getElem_of (show i<hss.length by rw[HLh.out];exact hih)
      obtain⟨A',c',hv,_,_,_,hyy⟩:=hY
      simp only[Value.slice.injEq]at hv
      obtain⟨rfl,-,rfl⟩:=hv
      obtain⟨g2,o2,u2,rfl,hg2,e0,hu2⟩:=hyy i yi hyi
      have hbw9:=HBw.out.trans (HB9.out.mono HBw.out.size)
      have e0:=(hbw9.cell (p:=⟨g2,o2+i,none⟩) hg2).trans e0
      have hg2l:g2<wc.heap.size:=Nat.lt_of_lt_of_le hg2 hbw9.size
      have HU2:=Lib.hid hu2
      obtain⟨A2,c2,rfl,hc2,hm2,-,-⟩:=hu2
      unfold maxLen at hm2
      obtain⟨M,hM⟩: ∃M:Nat,min yi.length 8=M:=⟨_,rfl⟩
      have hMs:min (yi.length:Int) 8=(M:Int):=by omega
      have hM8:M≤8:=by omega
      have hMy:M≤yi.length:=by omega
      have hMc:(M:Int)≤(c2:Int):=by omega
      clear hM hyy hyi
      go_upto_region 17 with fail
      refine wp_region_held_drew (S:=fun w'=>Below wc.heap.size wc w') (by kernel_rfl) (mx_drew wc) (fun hS=>?_)
      obtain⟨xD,hxD⟩: ∃z,wc.drew=z:=⟨_,rfl⟩
      rw[hxD]at hS⊢
      clear hxD
      refine takeE 0 65 ?_
      refine takeE 1 66 ?_
      refine takeE 2 67 ?_
      refine takeF 3 68 (fun wq hSw=>(hSw.cell (p:=⟨g2,o2+i,none⟩) hg2l).trans e0) ?_
      refine takeE 4 69 ?_
      refine takeE 5 70 ?_
      refine takeE 6 71 ?_
      refine takeF 7 72 (fun wq hSw=>(hSw.cell (p:=⟨g2,o2+i,none⟩) hg2l).trans e0) ?_
      refine takeE 8 73 ?_
      refine takeE 9 74 ?_
      refine takeE 10 75 ?_
      refine takeE 11 76 ?_
      refine takeE 12 77 ?_
      refine wpAnyH_done (by kernel_rfl) ?_ _
      have HBX:=Lib.hid ((hS.block _ (heap_lt HC9.out)).trans HC9.out)
      have HLX:=Lib.hid (HL9.out.below hS)
      have HB9X:=Lib.hid (HB9.out.trans (hS.mono HB9.out.size))
      clear hS e0
      go_wp2_with fail
      go_loopw [77] (fun kv w2=> ∃(j:Nat) (hv:Value) (hs:List Int),j≤M∧kv= .int .i64 j∧hs.length≤j∧Hid (w2.heap[B]? =some (.cells #[.bool dl,.int .i64 id1,.slice Al lits.length cl,hv] 39 (0,0)))∧Hid (w2.ownsRow (B+1) 3 1 hv hs.length (hs.map (Value.int .i64)))∧Hid (IntsIn (fun g=>g<B) w2 (.slice Al lits.length cl) lits)∧Hid (Below wr.heap.size wr w2)) (fun kv _=>M-(intOf kv).toNat)
      case atStart=>exact⟨0,_,[],Nat.zero_le _,rfl,Nat.le_refl _,HBX,Lib.hid (World.ownsRow_nil _ _ _ _),HLX,HB9X⟩
      case round=>
       obtain⟨j,hv,hs,hj,rfl,hsj,HX2,HO2,HL2,HBb⟩:=hrel
       obtain⟨Av,cv,rfl,_⟩:=mx_slice HO2.out
       by_cases hjM:j<M
       ·obtain⟨z,hz⟩:=getElem_of (show j<yi.length by omega)
        obtain⟨A',c',hv',_,_,_,hwf,hzz⟩:=HU2.out
        simp only[Value.slice.injEq]at hv'
        obtain⟨rfl,-,rfl⟩:=hv'
        obtain⟨g3,o3,rfl,hg3,e3⟩:=hzz j z hz
        have hzw:=i8_rng (hwf z (List.mem_of_getElem? hz))
        have hbb:=HBw.out.trans (HBb.out.mono HBw.out.size)
        have e3:=(hbb.cell (p:=⟨g3,o3+j,none⟩) hg3).trans e3
        obtain⟨q,hq⟩: ∃q:Int,z.tmod 16=q:=⟨_,rfl⟩
        have hq1: -16<q∧q<16:=by
         rw[←hq]
         have h1:=Int.tmod_lt_of_pos z (show(0:Int)<16 by decide)
         have h2:=Int.lt_tmod_of_pos z (show(0:Int)<16 by decide)
         omega
        obtain⟨hqa,hqb⟩:=hq1
        have hw8:IntKind.i8.wrap q=q:=IntWalk.i8_in _ (by omega)
        have hw64:IntKind.i64.wrap q=q:=IntWalk.i64_in _ (by omega)
        have hwn:IntKind.i64.wrap (-q)= -q:=IntWalk.i64_in _ (by omega)
        have hBl:=heap_lt HX2.out
        have z0:=mx_cell (j:=0) HX2.out
        have z3:=mx_cell (j:=3) HX2.out
        have y3:=free_at (j:=3) HX2.out
        clear hwf hzz hz hbb
        cases dl with
        | true=>
         obtain⟨nn,hnn⟩: ∃nn:Int,max q (-q)=nn:=⟨_,rfl⟩
         by_cases hn0:nn=0
         ·subst hn0
          go_wp2_with fail
          go_roundw
          case rel=>exact⟨j+1,_,hs,by omega,by go_num,by omega,HX2,HO2,HL2,HBb⟩
          case measure=>simp[intOf];omega
         ·have hne:(nn != 0)=true:=bne_iff_ne.2 hn0
          have hne2:(nn==0)=false:=beq_eq_false_iff_ne.2 hn0
          have hHN:=Lib.hid (fun(v':Value) (wa w3:World) (ha:Below wr.heap.size wr wa) (hg:wa.grownBy w3 (Value.slice Av hs.length cv).ownBlock) (hn:w3.ownsRow (B+1) 3 1 v' (hs.length+1) (hs.map (Value.int .i64)++ [.int .i64 nn]))=>snd_push hBr HX2.out HO2.out HL2.out HBb.out ha hg hn)
          go_wp2_with (at_builtin;go_must (refine wpList_append_own_at _ rfl _ _ 37 rfl (B+1) 3 ii (.int .i64 0) 1 8 Tryz.underlying37 hii iz0 iz1 iz2 rfl (by decide) _ hs.length _ rfl (own_below HO2.out (mx_al wr _)) ⟨wr.heap.size,0,none⟩ 1 1 [.int .i64 nn] rfl rfl (cell_one_new' _ _ _) (by simp[Value.oneCell']) (by unfold maxLen;omega) (by omega) (by simp;omega) ?_;intro v' w3 hown hgrow hnl hat;obtain⟨hx3,n1,n2,n3,n4⟩:=hHN.out v' _ w3 (mx_al wr _) hgrow hown;obtain⟨Av',kv',rfl,_⟩:=mx_slice hown;have z0:=mx_cell (j:=0) hx3;have z3:=mx_cell (j:=3) hx3;have y3:=free_at (j:=3) hx3;clear hx3 hgrow hown hnl hat))
          go_roundw
          case rel=>exact⟨j+1,_,hs++ [nn],by omega,by go_num,by simp;omega,n1,n2,n3,n4⟩
          case measure=>simp[intOf];omega
        | false=>
         by_cases hn0:q=0
         ·subst hn0
          go_wp2_with fail
          go_roundw
          case rel=>exact⟨j+1,_,hs,by omega,by go_num,by omega,HX2,HO2,HL2,HBb⟩
          case measure=>simp[intOf];omega
         ·have hne:(q != 0)=true:=bne_iff_ne.2 hn0
          have hne2:(q==0)=false:=beq_eq_false_iff_ne.2 hn0
          have hHN:=Lib.hid (fun(v':Value) (wa w3:World) (ha:Below wr.heap.size wr wa) (hg:wa.grownBy w3 (Value.slice Av hs.length cv).ownBlock) (hn:w3.ownsRow (B+1) 3 1 v' (hs.length+1) (hs.map (Value.int .i64)++ [.int .i64 q]))=>snd_push hBr HX2.out HO2.out HL2.out HBb.out ha hg hn)
          go_wp2_with (at_builtin;go_must (refine wpList_append_own_at _ rfl _ _ 37 rfl (B+1) 3 ii (.int .i64 0) 1 8 Tryz.underlying37 hii iz0 iz1 iz2 rfl (by decide) _ hs.length _ rfl (own_below HO2.out (mx_al wr _)) ⟨wr.heap.size,0,none⟩ 1 1 [.int .i64 q] rfl rfl (cell_one_new' _ _ _) (by simp[Value.oneCell']) (by unfold maxLen;omega) (by omega) (by simp;omega) ?_;intro v' w3 hown hgrow hnl hat;obtain⟨hx3,n1,n2,n3,n4⟩:=hHN.out v' _ w3 (mx_al wr _) hgrow hown;obtain⟨Av',kv',rfl,_⟩:=mx_slice hown;have z0:=mx_cell (j:=0) hx3;have z3:=mx_cell (j:=3) hx3;have y3:=free_at (j:=3) hx3;clear hx3 hgrow hown hnl hat))
          go_roundw
          case rel=>exact⟨j+1,_,hs++ [q],by omega,by go_num,by simp;omega,n1,n2,n3,n4⟩
          case measure=>simp[intOf];omega
       ·obtain rfl:j=M:=by omega
        go_wp2_with fail
        go_meet
        exact⟨rfl,_,hs,Lib.hid (by omega),HX2,HL2,Lib.hid ((IntsIn.of_own HO2.out).mono fun _ _=>trivial),HBb⟩
     ·have q1:decide ((i:Int)<(Lh:Int))=false:=decide_eq_false (by omega)
      go_wp2_with fail
      go_meet
      exact⟨rfl,_,[],Lib.hid (Nat.zero_le _),HC9,HL9,Lib.hid (IntsIn.nil _ _),HB9⟩
    case rest=>
     obtain⟨rfl,hv,hs,HHL,HCX,HLX,HHX,HBX⟩:=hcut
     have hcr:=HCR.out.below HBX.out
     have hBX3:=HBR.out.trans (HBX.out.mono HBR.out.size)
     have HBX3:=Lib.hid hBX3
     have hdo:=ck_do_all (N:=1000+i) bk kk ⟨dl,id1,lits,hs⟩ (.slice Al lits.length cl) hv wc hcr hBX3.size HAL.out.ok (by omega) HLX.out HHX.out (by have:=HLEN.out;simp only;omega) (by have:=HHL.out;simp only;omega)
     obtain⟨S,hS⟩: ∃S:EStep,(⟨dl,id1,lits,hs⟩:EStep)=S:=⟨_,rfl⟩
     have hAN:=HAL.out.step (s:=S) (by rw[←hS];exact H7.out)
     have hLS:=do_last kk S
     have hBD:(kk.do_ S).2.2.2≠0→(kk.do_ S).1=kk:=do_bad
     rw[hS]at hdo
     have hSid:S.id=id1:=by rw[←hS]
     obtain⟨zk,hzk⟩: ∃zk,(kk.do_ S).2.1=zk:=⟨_,rfl⟩
     obtain⟨zi,hzi⟩: ∃zi,(kk.do_ S).2.2.1=zi:=⟨_,rfl⟩
     obtain⟨De,hDe⟩: ∃De,(kk.do_ S).2.2.2=De:=⟨_,rfl⟩
     obtain⟨Dk,hDk⟩: ∃Dk,(kk.do_ S).1=Dk:=⟨_,rfl⟩
     rw[hzk,hzi,hDe,hDk]at hdo
     rw[hDe,hDk]at hBD
     rw[hDk]at hAN hLS
     rw[hSid]at hLS
     have HDO:=Lib.hid (show Calls Tryz.prog 13 #[.pointer (some ⟨bk,0,none⟩),.agg #[.bool dl,.int .i64 id1,.slice Al lits.length cl,hv]] wc fun e w'=>e= .returned (.tuple #[.int .u8 (zk:Nat),.int .i64 zi,.int .i64 (De:Nat)])∧CkAt W3.heap.size w' bk Dk∧Below W3.heap.size wc w'∧CkF bk wc w' from by rw[←hS]at hdo;exact hdo)
     have HAN:=Lib.hid hAN
     have HLS2:=Lib.hid hLS
     have HBD:=Lib.hid hBD
     have hhv:=HHX.out
     obtain⟨Ah,ch,rfl,_⟩:=hhv
     have z0:=mx_cell (j:=0) HCX.out
     have z1:=mx_cell (j:=1) HCX.out
     have z2:=mx_cell (j:=2) HCX.out
     have z3:=mx_cell (j:=3) HCX.out
     clear hcr hBX3 hdo hAN hLS hBD hzk hzi hDe hDk hS hSid
     go_wp2_with fail
     refine HDO.out.mono ?_
     rintro e w9 ⟨rfl,hck9,hb9,-⟩
     have HCK9:=Lib.hid hck9
     have hB9:=HBX3.out.trans hb9
     have HB9':=Lib.hid hB9
     clear hck9 hb9 HDO z0 z1 z2 z3
     by_cases hE:De=0
     ·subst hE
      have HAV:=Lib.hid (law_alive bk Dk sat w9 HCK9.out HAN.out (by omega))
      go_wp2_with fail
      refine HAV.out.mono ?_
      rintro e w10 ⟨rfl,hb10⟩
      have HCK10:=Lib.hid (HCK9.out.below hb10)
      have HB10:=Lib.hid (HB9'.out.trans (hb10.mono HB9'.out.size))
      clear hb10
      go_wp2_with fail
      go_roundw
      case rel=>exact⟨i+1,id1,Dk,by omega,rfl,by go_num,by omega,by omega,Lib.hid (by have:=HLS.out;rcases HLS2.out with h|h <;> omega),Lib.hid HAN.out,HCK10,HB10⟩
      case measure=>simp[intOf];omega
     ·have q0:((De:Int)==0)=false:=beq_eq_false_iff_ne.2 (by omega)
      have q1:((De:Int) != 0)=true:=by rw[bne,q0];rfl
      have hdk:=HBD.out hE
      have hck:=HCK9.out
      rw[hdk]at hck
      have HCKK:=Lib.hid hck
      have HLA:=Lib.hid (fun(X:World) (hX:Below w9.heap.size w9 X)=>ck_last bk kk X (hck.below hX))
      have f1:=(hB9.cell (p:=⟨w2.heap.size,1,none⟩) HXL.out).trans (mx_cell (j:=1) HX3.out)
      have hfl:w2.heap.size<w9.heap.size:=Nat.lt_of_lt_of_le HXL.out hB9.size
      obtain⟨lk,hlk⟩: ∃lk,kk.last=lk:=⟨_,rfl⟩
      obtain⟨mx,hmx⟩: ∃mx,max lk (n:Int)=mx:=⟨_,rfl⟩
      have HMX:=Lib.hid (show(n:Int)≤mx∧mx≤n+i∧kk.last≤mx from by have:=HLS.out;omega)
      rw[hlk]at HLA
      clear hdk hck hB9 hlk
      go_upto_region 28 with fail
      refine wp_region_held_drew (S:=fun w'=>Below w9.heap.size w9 w') (by kernel_rfl) (mx_drew w9) (fun hS=>?_)
      obtain⟨xD,hxD⟩: ∃z,w9.drew=z:=⟨_,rfl⟩
      rw[hxD]at hS⊢
      clear hxD
      refine takeE 0 108 ?_
      refine takeE 2 110 ?_
      refine takeF 3 111 (fun wq hSw=>(hSw.cell (p:=⟨w2.heap.size,1,none⟩) hfl).trans f1) ?_
      refine takeE 4 112 ?_
      refine ready1 1 (fun KK hKK=>?_)
      go_simp
      refine(HLA.out _ hS).mono ?_
      rintro e w10 ⟨rfl,rfl⟩
      refine hKK.out _ _ hS (fun _=>?_)
      clear hKK
      refine takeE 5 113 ?_
      refine takeE 6 11 ?_
      refine wpAnyH_done (by kernel_rfl) ?_ _
      have HB10:=Lib.hid (HB9'.out.trans (hS.mono HB9'.out.size))
      have HCK10:=Lib.hid (HCKK.out.below hS)
      clear hS
      go_wp2_with fail
      go_roundw
      case rel=>
       obtain⟨h1,h2,h3⟩:=HMX.out
       exact⟨i+1,mx,kk,by omega,rfl,by go_num,by omega,by omega,Lib.hid h3,Lib.hid (by
        have:=HAN.out
        rw[HBD.out hE]at this
        exact this),HCK10,HB10⟩
      case measure=>simp[intOf];omega
  ·obtain rfl:i=N:=by omega
   have HFIN:=Lib.hid (law_alive bk kk sat wr HCR.out HAL.out (by omega))
   have HBF:=Lib.hid (HB3.out.trans (HBR.out.mono HB3.out.size))
   go_wp2_with fail
   refine HFIN.out.mono ?_
   rintro e w9 ⟨rfl,hb9⟩
   have HB9:=Lib.hid (HBF.out.trans (hb9.mono HBF.out.size))
   clear hb9
   go_wp2_with fail
   go_ret
   exact⟨rfl,HB9.out⟩
end Go.Proofs.YtkfgplfllddhnaaGreat
