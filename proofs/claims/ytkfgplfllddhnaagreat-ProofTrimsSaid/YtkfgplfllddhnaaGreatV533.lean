/- package salvorlaw10: ProofTrims. -/
import Derived.Test.YtkfgplfllddhnaaGreatV531
import Derived.Test.YtkfgplfllddhnaaGreatV532
namespace Go.Proofs.YtkfgplfllddhnaaGreat
open Go.RowKit
set_option maxRecDepth 100000 in
set_option maxHeartbeats 8000000 in
theorem trims_any (q:Int) (l x:Value) (xss:List (List Int)) (xs:List Int) (w:World) (hl:RowsAt .i8 w l xss) (hx:RowAt .u8 w x xs) (hxl:xs.length≤140737488355328) (hq:(Lit.int .u8 q).wf=true):
  Calls Tryz.prog 7 #[l,x,.int .u8 q] w fun e w'=>e= .returned (.bool true)∧Below w.heap.size w w':=by
 obtain⟨cs,hcs⟩: ∃cs,(xss.take 14).map madeL=cs:=⟨_,rfl⟩
 have HAW:=Lib.hid (awake10_any w)
 have HMD:=Lib.hid (fun(X:World) (hX:Below w.heap.size w X)=>made10_any l xss X (hl.below hX) hcs rfl)
 have HX:=Lib.hid (fun(X:World) (hX:Below w.heap.size w X)=>hx.below hX)
 have h6: ∀c∈cs,Lit6 c:=by rw[←hcs];exact made_six xss
 have hcn:cs.length≤14:=by rw[←hcs,List.length_map,List.length_take];omega
 obtain⟨hrs,hsl⟩:=resL_ok h6 xs 20
 obtain⟨ss,hss⟩: ∃ss,resL cs xs 20=ss:=⟨_,rfl⟩
 rw[hss]at hrs hsl
 have hs6: ∀s∈ss,Lit6 s.lits∧s.hints.length=2:=fun s hs=>by
  obtain⟨j,hj⟩:=List.getElem?_of_mem hs
  obtain⟨_,_,_,_,_,_,_,h3,_,_,_,_,_,_,h9⟩:=hrs j s hj
  exact⟨h9,by rw[h3];rfl⟩
 obtain⟨hq0,hq1⟩:=u8_rng10 hq
 have HRU:=Lib.hid (rupL_res hrs (fun c hc=>(h6 c hc).clause) (by omega))
 have HRS:=Lib.hid hrs
 have HSL:=Lib.hid hsl
 have H6:=Lib.hid h6
 have HS6:=Lib.hid hs6
 have HSS:=Lib.hid hss
 have HXL8:=hxl
 clear hcs hl hx hrs hss hs6 h6 hsl hq
 go_enter Tryz.func7,Tryz.ntmps7
 go_wp2_with fail
 refine HAW.out.mono ?_
 rintro e w1 ⟨rfl,hb1⟩
 have HB1:=Lib.hid hb1
 clear hb1 HAW
 go_wp2_with fail
 refine(HMD.out w1 HB1.out).mono ?_
 rintro e w2 ⟨A,k,rfl,hcl,hb2⟩
 obtain⟨W3,hW3,hb3,hc3,-⟩:=al_new w2 #[.int .i64 6,.slice A cs.length k] 26
 have HC3:=Lib.hid ((hcl.clsIn.below hb3).mono (O':=fun _=>True) fun _ _=>trivial)
 have HB3:=Lib.hid (HB1.out.trans ((hb2.trans (hb3.mono hb2.size)).mono HB1.out.size))
 have HW3:=Lib.hid hW3
 have HX3:=Lib.hid hc3
 have HRES:=Lib.hid (law_resolved 6 20 _ x cs xs W3 HC3.out H6.out (by omega) (HX.out W3 HB3.out) (by decide) hxl)
 rw[HSS.out]at HRES
 have c0:=mx_cell (j:=0) hc3
 have c1:=mx_cell (j:=1) hc3
 clear hW3 hb3 hc3 hcl hb2 HMD HX HSS
 go_upto_region 4 with fail
 rw[HW3.out]
 go_wp2_with fail
 refine HRES.out.mono ?_
 rintro e w4 ⟨v,K,rfl,hK,hst,hb4⟩
 obtain⟨Av,cv,rfl,_⟩:=mx_slice hst.row
 have hkl:K.length=ss.length:=by rw[←hK,List.length_map]
 have HSTM:=Lib.hid hst
 have HKS:=Lib.hid hK
 have HX4:=Lib.hid ((hb4.block _ (heap_lt HX3.out)).trans HX3.out)
 have HC4:=Lib.hid (HC3.out.below hb4)
 have HB4:=Lib.hid (HB3.out.trans (hb4.mono HB3.out.size))
 have HB34:=Lib.hid hb4
 have HXL:=Lib.hid (heap_lt HX4.out)
 have c0:=mx_cell (j:=0) HX4.out
 have c1:=mx_cell (j:=1) HX4.out
 obtain⟨L,hL⟩: ∃L,ss.length=L:=⟨_,rfl⟩
 rw[hkl,hL]at HSTM⊢
 have HKL:=Lib.hid (hkl.trans hL)
 have HL:=Lib.hid hL
 clear hst hb4 hK hkl HRES hL
 obtain⟨n,hn⟩: ∃n,cs.length=n:=⟨_,rfl⟩
 rw[hn]at c1 HX4 HC4 hcn⊢
 have HN:=Lib.hid hn
 clear hn
 have hL20:L≤20:=by have:=HSL.out;have:=HL.out;omega
 obtain⟨r,hr⟩: ∃r:Int,q.tmod 2=r:=⟨_,rfl⟩
 have hr0:0≤r∧r<2:=by
  rw[←hr]
  exact⟨Int.tmod_nonneg 2 hq0,Int.tmod_lt_of_pos q (by decide)⟩
 have hwr:IntKind.u8.wrap r=r:=IntWalk.u8_in _ (by omega)
 obtain⟨z2,hz2⟩: ∃z2,(r==1)=z2:=⟨_,rfl⟩
 go_upto_region 5 with fail
 go_cut [45] (fun t wx=> ∃z:Bool,t= .bool z∧w4=wx∧Hid (z=true→0<L))
 case first=>
  rcases Nat.eq_zero_or_pos L with h0|h0
  ·have q1:decide ((0:Int)<(L:Int))=false:=decide_eq_false (by omega)
   go_wp2_with fail
   go_meet
   exact⟨false,rfl,rfl,Lib.hid (fun h=>by cases h)⟩
  ·have q1:decide ((0:Int)<(L:Int))=true:=decide_eq_true (by omega)
   have q2:(0:Int)<(L:Int):=by omega
   go_wp2_with fail
   go_meet
   exact⟨z2,rfl,rfl,Lib.hid (fun _=>h0)⟩
 case rest=>
 obtain⟨z,rfl,rfl,HZ⟩:=hcut
 clear hr hr0 hwr hz2
 go_upto_if 45 with fail
 go_cut [8] (fun s wx=> ∃(A':Option Addr) (c':Nat) (ls:List EStep),s= .slice A' ls.length c'∧Hid (StepIn (fun _=>True) wx (.slice A' ls.length c') ls)∧Hid (RupL cs ls)∧Hid (ls.length≤21∧∀s∈ls,s.lits.length≤13∧s.hints.length≤2)∧Hid (Below w4.heap.size w4 wx))
 case first=>
  have HST:=Lib.hid (show StepIn (fun _=>True) w4 (.slice Av L cv) ss from by
   have h:=HSTM.out.stepIn
   rw[HKS.out]at h
   exact h.mono fun _ _=>trivial)
  cases z with
  | false=>
   go_wp2_with fail
   go_meet
   exact⟨Av,cv,ss,by rw[HL.out],Lib.hid (by rw[HL.out];exact HST.out),HRU,Lib.hid ⟨by rw[HL.out];omega,fun s hs=>⟨(HS6.out s hs).1.1,by rw[(HS6.out s hs).2];exact Nat.le_refl _⟩⟩,Lib.hid (Below.refl _ _)⟩
  | true=>
   have hL0:=HZ.out rfl
   have hL0':(0:Int)<(L:Int):=by omega
   have hL0d:decide ((0:Int)<(L:Int))=true:=decide_eq_true hL0'
   obtain⟨i0,hi0,jz0,jz1,jz2⟩:=info_parts jinfo_int
   obtain⟨si,hsi,sz0,sz1,sz2⟩:=info_parts stinfo
   obtain⟨s0,hs0⟩: ∃s0,ss[0]? =some s0:=⟨_,List.getElem?_eq_getElem (by rw[HL.out];exact hL0)⟩
   obtain⟨ia,ka,aa,ba,xa,-,e2,-,e4,-⟩:=HRS.out 0 s0 hs0
   rw[HN.out,Nat.add_zero]at e2 e4
   have hn0:0<n:=by omega
   have hn0':(0:Int)<(n:Int):=by omega
   obtain⟨cz,hcz⟩: ∃c,cs[0]? =some c:=⟨_,List.getElem?_eq_getElem (by rw[HN.out];exact hn0)⟩
   have hcl:=(H6.out cz (List.mem_of_getElem? hcz)).1
   have hrow:=HSTM.out.row
   obtain⟨gK,cK,hvK⟩:=own_blk hrow (by rw[HKL.out];exact hL0)
   rw[HKL.out]at hrow
   simp only[Value.slice.injEq]at hvK
   obtain⟨rfl,-,rfl⟩:=hvK
   have HROW:=Lib.hid hrow
   have HAT:=Lib.hid (show∀(i:Nat) (s:EStep),ss[i]? =some s→∃x:StV,K[i]? =some x∧x.1=s from fun i s h=>by
    rw[←HKS.out,List.getElem?_map]at h
    cases hk:K[i]? with
    | none=>rw[hk]at h;cases h
    | some x=>rw[hk]at h;exact⟨x,rfl,Option.some.inj h⟩)
   obtain⟨y0,hy0,hys⟩:=HAT.out 0 s0 hs0
   obtain⟨-,d1,-,-⟩:=stcell_at K 0 y0 hy0
   have d1:=mx_at hrow d1
   rw[hys,e2]at d1
   have hgK:gK<w4.heap.size:=(own_lt hrow gK rfl).2
   obtain⟨A1,k1,hA1,_,_,hxs⟩:=HC4.out
   simp only[Value.slice.injEq]at hA1
   obtain⟨rfl,-,rfl⟩:=hA1
   obtain⟨gc,oc,uc,rfl,hgc,_,dc,huc⟩:=hxs 0 cz hcz
   rw[Nat.add_zero]at dc
   have HCL:=Lib.hid (fun(X:World) (hX:Below w4.heap.size w4 X)=>clone_c uc cz X (huc.below hX) (by omega))
   obtain⟨Auc,cuc,rfl,_⟩:=huc
   have hxl:=HXL.out
   have HLW:=Lib.hid HB34.out.size
   have HCZ:=Lib.hid hcz
   have HX4':=HX4
   have f1:=mx_cell (j:=1) HX4.out
   clear hrow hy0 hys hxs hs0 e2 hcz
   go_upto_region 6 with fail
   go_cut [9] (fun s wx=> ∃(gm:Nat) (x0:StV),s= .slice (some ⟨gm,0,none⟩) 1 1∧x0.1=⟨false,(n:Int)+1,cz,[1]⟩∧Hid (StMem W3.heap.size wx (.slice (some ⟨gm,0,none⟩) 1 1) [x0])∧Hid (w4.heap.size≤gm)∧Hid (Below w4.heap.size w4 wx))
   case first=>
    refine wp_region_held_drew (S:=fun w'=>Below w4.heap.size w4 w') (by kernel_rfl) (mx_drew w4) (fun hS=>?_)
    obtain⟨xD,hxD⟩: ∃z,w4.drew=z:=⟨_,rfl⟩
    rw[hxD]at hS⊢
    clear hxD
    refine takeE 0 46 ?_
    refine takeE 1 47 ?_
    refine takeE 2 48 ?_
    refine takeF 3 49 (fun wq hSw=>(hSw.cell (p:=⟨gK,1,none⟩) hgK).trans d1) ?_
    refine takeE 4 50 ?_
    refine takeF 5 51 (fun wq hSw=>(hSw.cell (p:=⟨w2.heap.size,1,none⟩) hxl).trans f1) ?_
    refine takeE 6 52 ?_
    refine takeF 7 53 (fun wq hSw=>(hSw.cell (p:=⟨gc,oc,none⟩) hgc).trans dc) ?_
    refine wpAnyH_ready (rs:= [8,9]) (by kernel_rfl) (by simp) (AllReadyH.cons rfl (fun KK hKK=>?_) (AllReadyH.cons rfl (fun KK hKK=>?_) AllReadyH.nil))
    ·go_simp
     refine(HCL.out _ hS).mono ?_
     rintro e y1 ⟨vC,rfl,hC,hb1⟩
     obtain⟨AC,cC,rfl,_⟩:=mx_slice hC
     have hS1:=hS.trans (hb1.mono hS.size)
     refine hKK.out _ _ hS1 (fun _=>?_)
     clear hKK
     refine ready1 9 (fun KK hKK=>?_)
     go_simp
     obtain⟨y2,hy2,hb2,hh2,hz2⟩:=al_new y1 #[.int .i64 1] 3
     rw[hy2]
     have hS2:=hS1.trans (hb2.mono hS1.size)
     refine hKK.out _ _ hS2 (fun _=>?_)
     clear hKK
     refine takeE 10 56 ?_
     refine ready1 11 (fun KK hKK=>?_)
     go_simp
     obtain⟨y3,hy3,hb3,hm3,hz3⟩:=al_new y2 #[.bool false,.int .i64 ((n:Int)+1),.slice AC cz.length cC,.slice (some ⟨y1.heap.size,0,none⟩) 1 1] 39
     rw[hy3]
     have hS3:=hS2.trans (hb3.mono hS2.size)
     refine hKK.out _ _ hS3 (fun _=>?_)
     clear hKK
     refine takeE 12 9 ?_
     refine wpAnyH_done (by kernel_rfl) ?_ _
     rw[hz2]at hm3
     have HM:=Lib.hid (show StMem W3.heap.size y3 (.slice (some ⟨y1.heap.size+1,0,none⟩) 1 1) [((⟨false,(n:Int)+1,cz,[1]⟩:EStep),(AC,cC),(some ⟨y1.heap.size,0,none⟩,1))]from
      stm_one (s:=⟨false,(n:Int)+1,cz,[1]⟩) (by have:=hS1.size;have:=HLW.out;omega) hm3 (own_mono (own_below (own_below hC hb2) hb3) (by have:=hS.size;have:=HLW.out;omega)) (own_of_blk (xs:= [1]) rfl (show 1≤1000000 by decide) (by have:=hS1.size;have:=HLW.out;omega) ((hb3.block _ (heap_lt hh2)).trans hh2)))
     have HS3:=Lib.hid hS3
     have HGM:=Lib.hid (show w4.heap.size≤y1.heap.size+1 from by have:=hS1.size;omega)
     clear hS hS1 hS2 hS3 hb1 hb2 hb3 hy2 hy3 hh2 hm3 hz2 hz3 hC
     go_wp2_with fail
     go_meet
     exact⟨_,_,rfl,rfl,HM,HGM,HS3⟩
    ·go_simp
     obtain⟨y2,hy2,hb2,hh2,hz2⟩:=al_new xD #[.int .i64 1] 3
     rw[hy2]
     have hS2:=hS.trans (hb2.mono hS.size)
     refine hKK.out _ _ hS2 (fun _=>?_)
     clear hKK
     refine ready1 8 (fun KK hKK=>?_)
     go_simp
     refine(HCL.out _ hS2).mono ?_
     rintro e y1 ⟨vC,rfl,hC,hb1⟩
     obtain⟨AC,cC,rfl,_⟩:=mx_slice hC
     have hS1:=hS2.trans (hb1.mono hS2.size)
     refine hKK.out _ _ hS1 (fun _=>?_)
     clear hKK
     refine takeE 10 56 ?_
     refine ready1 11 (fun KK hKK=>?_)
     go_simp
     obtain⟨y3,hy3,hb3,hm3,hz3⟩:=al_new y1 #[.bool false,.int .i64 ((n:Int)+1),.slice AC cz.length cC,.slice (some ⟨xD.heap.size,0,none⟩) 1 1] 39
     rw[hy3]
     have hS3:=hS1.trans (hb3.mono hS1.size)
     refine hKK.out _ _ hS3 (fun _=>?_)
     clear hKK
     refine takeE 12 9 ?_
     refine wpAnyH_done (by kernel_rfl) ?_ _
     have HM:=Lib.hid (show StMem W3.heap.size y3 (.slice (some ⟨y1.heap.size,0,none⟩) 1 1) [((⟨false,(n:Int)+1,cz,[1]⟩:EStep),(AC,cC),(some ⟨xD.heap.size,0,none⟩,1))]from
      stm_one (s:=⟨false,(n:Int)+1,cz,[1]⟩) (by have:=hS1.size;have:=HLW.out;omega) hm3 (own_mono (own_below hC hb3) (by have:=hS2.size;have:=HLW.out;omega)) (own_of_blk (xs:= [1]) rfl (show 1≤1000000 by decide) (by have:=hS.size;have:=HLW.out;omega) ((hb3.block _ (heap_lt ((hb1.block _ (heap_lt hh2)).trans hh2))).trans ((hb1.block _ (heap_lt hh2)).trans hh2))))
     have HS3:=Lib.hid hS3
     have HGM:=Lib.hid hS1.size
     clear hS hS1 hS2 hS3 hb1 hb2 hb3 hy2 hy3 hh2 hm3 hz2 hz3 hC
     go_wp2_with fail
     go_meet
     exact⟨_,_,rfl,rfl,HM,HGM,HS3⟩
   case rest=>
    obtain⟨gm,x0,rfl,hx0,HM0,HGM,HBm⟩:=hcut
    have hmv:=show moveL cs ss=⟨false,(n:Int)+1,cz,[1]⟩::ss.map (moveS n)from by
     unfold moveL
     rw[HN.out,List.getD_eq_getElem?_getD,HCZ.out]
     rfl
    have HMV:=Lib.hid hmv
    have hlow:Below w4.heap.size w4 wc:=HBm.out
    clear hmv d1 f1 dc
    go_wp2_with fail
    go_loopw [9,60] (fun mv iv wr=> ∃(i:Nat) (KM:List StV) (Am:Option Addr) (cm:Nat),i≤L∧iv= .int .i64 i∧mv= .slice Am (i+1) cm∧Hid (KM.length=i+1∧KM.map Prod.fst=(moveL cs ss).take (i+1))∧Hid (StMem W3.heap.size wr (.slice Am (i+1) cm) KM)∧Hid (∀g,(Value.slice Am (i+1) cm).ownBlock=some g→w4.heap.size≤g)∧Hid (Below w4.heap.size w4 wr)) (fun _ iv _=>L-(intOf iv).toNat)
    case atStart=>exact⟨0,[x0],some ⟨gm,0,none⟩,1,Nat.zero_le _,rfl,rfl,Lib.hid ⟨rfl,by rw[HMV.out,List.map_cons,hx0];rfl⟩,HM0,Lib.hid (fun g e=>by cases e;exact HGM.out),HBm⟩
    case round=>
     obtain⟨i,KM,Am,cm,hi,rfl,rfl,HKM,HMM,HGB,HBR⟩:=hrel
     by_cases hlt:i<L
     ·obtain⟨s,hs⟩: ∃s,ss[i]? =some s:=⟨_,List.getElem?_eq_getElem (by rw[HL.out];exact hlt)⟩
      obtain⟨x,hx,hxs⟩:=HAT.out i s hs
      obtain⟨s',⟨Al,cl⟩,⟨Ah,ch⟩⟩:=x
      obtain rfl:s'=s:=hxs
      obtain⟨t0,t1,t2,t3⟩:=stcell_at K i _ hx
      have hbr:=HBR.out
      have d0:=(hbr.cell (p:=⟨gK,i*4,none⟩) hgK).trans (mx_at HROW.out t0)
      have d1:=(hbr.cell (p:=⟨gK,i*4+1,none⟩) hgK).trans (mx_at HROW.out t1)
      have d2:=(hbr.cell (p:=⟨gK,i*4+2,none⟩) hgK).trans (mx_at HROW.out t2)
      have d3:=(hbr.cell (p:=⟨gK,i*4+3,none⟩) hgK).trans (mx_at HROW.out t3)
      simp only at d0 d1 d2 d3
      have HXM:=Lib.hid (List.mem_of_getElem? hx)
      obtain⟨ib,kb,ab,bb,xb,u1,u2,u3,u4,u5,_⟩:=HRS.out i s' hs
      rw[HN.out]at u2 u4 u5
      rw[u1]at d0
      have hsid:s'.id+1=((n+i:Nat):Int)+2:=by omega
      have hwid:IntKind.i64.wrap (s'.id+1)=s'.id+1:=IntWalk.i64_in _ (by omega)
      obtain⟨id1,hid1⟩: ∃id1:Int,s'.id+1=id1:=⟨_,rfl⟩
      rw[hid1]at hwid
      obtain⟨H,hH⟩: ∃H,s'.hints.length=H:=⟨_,rfl⟩
      have hH2:H=2:=by rw[←hH,(HS6.out s' (List.mem_of_getElem? hs)).2]
      have hHs: ∀h∈s'.hints,1≤h∧h≤1000:=fun h hh=>by
       rw[u3]at hh
       rcases List.mem_cons.1 hh with e|hh
       ·omega
       ·have:=List.mem_singleton.1 hh
        omega
      have HHS:=Lib.hid hHs
      have HHL:=Lib.hid hH
      have HS:=Lib.hid hs
      rw[hH]at d3
      have hh2:H≤2:=by omega
      have hnx:(n:Int)≤14:=by omega
      clear u2 hH2 hsid u4 u5
      obtain⟨W5,hW5,hb5,hc5,hz5⟩:=al_new wr #[.bool false,.int .i64 s'.id,.slice Al s'.lits.length cl,.slice Ah H ch] 39
      obtain⟨W6,hW6,hb6,hc6,hz6⟩:=al_new W5 #[.bool false,.int .i64 id1,.slice Al s'.lits.length cl,.slice none 0 0] 39
      have hc56:=(hb6.block _ (heap_lt hc5)).trans hc5
      have hb56:=hb5.trans (hb6.mono hb5.size)
      have HB56:=Lib.hid hb56
      obtain⟨B,hB⟩: ∃B,W5.heap.size=B:=⟨_,rfl⟩
      have hrB:wr.heap.size<B:=by omega
      have HC6:=Lib.hid (show W6.heap[B]? =some (.cells #[.bool false,.int .i64 id1,.slice Al s'.lits.length cl,.slice none 0 0] 39 (0,0))from by rw[←hB];exact hc6)
      have hlo:=HSTM.out.lit _ HXM.out
      simp only at hlo
      have HLR:=Lib.hid hlo
      have HHR:=Lib.hid (HSTM.out.hnt _ HXM.out)
      have HLI:=Lib.hid (show IntsIn (fun g=>g<B) W6 (.slice Al s'.lits.length cl) s'.lits from((IntsIn.of_own (own_below hlo (HBR.out.trans (hb56.mono HBR.out.size)))).mono fun g hg=>by
       have:=(own_lt hlo g hg.2).2
       have:=HBR.out.size
       omega))
      have z1:=mx_cell (j:=1) hc5
      have z2:=mx_cell (j:=2) hc5
      have z3:=mx_cell (j:=3) hc56
      have HW5:=Lib.hid hW5
      have HW6:=Lib.hid hW6
      clear hW5 hW6 hc5 hc6 hz5 hz6 hc56 hb5 hb6 hb56 hs hx t0 t1 t2 t3 u1 u3 hHs hlo hbr hH
      go_upto_region 10 with fail
      rw[HW5.out]
      go_upto_region 11 with fail
      rw[HW6.out]
      obtain⟨wo,hwo⟩: ∃wo:World,wr=wo:=⟨_,rfl⟩
      have HBO:=Lib.hid (show Below wo.heap.size wo W6 from hwo▸HB56.out)
      have HBRO:=Lib.hid (show Below w4.heap.size w4 wo from hwo▸HBR.out)
      have HMMO:=Lib.hid (show StMem W3.heap.size wo (.slice Am (i+1) cm) KM from hwo▸HMM.out)
      have hBr:wo.heap.size≤B:=by rw[←hwo];exact Nat.le_of_lt hrB
      have HWO:=Lib.hid hwo
      clear hwo HMM HBR HB56 d0 d1 d2 d3
      go_wp2_with fail
      go_loopw [73] (fun kv w9=> ∃(j:Nat) (hv:Value) (hs:List Int),j≤H∧kv= .int .i64 j∧hs.length=j∧Hid (hs=(s'.hints.take j).map fun h=>if(n:Int)<h then h+1 else h)∧Hid (w9.heap[B]? =some (.cells #[.bool false,.int .i64 id1,.slice Al s'.lits.length cl,hv] 39 (0,0)))∧Hid (w9.ownsRow (B+1) 3 1 hv hs.length (hs.map (Value.int .i64)))∧Hid (IntsIn (fun g=>g<B) w9 (.slice Al s'.lits.length cl) s'.lits)∧Hid (Below wo.heap.size wo w9)) (fun kv _=>H-(intOf kv).toNat)
      case atStart=>exact⟨0,_,[],Nat.zero_le _,rfl,rfl,Lib.hid rfl,HC6,Lib.hid (World.ownsRow_nil _ _ _ _),HLI,HBO⟩
      case round=>
       obtain⟨j,hv,hs,hj,rfl,hsj,HHE,HX2,HO2,HL2,HBb⟩:=hrel
       obtain⟨Av,cv',rfl,_⟩:=mx_slice HO2.out
       by_cases hjM:j<H
       ·obtain⟨h,hh⟩: ∃h,s'.hints[j]? =some h:=⟨_,List.getElem?_eq_getElem (by rw[HHL.out];exact hjM)⟩
        obtain⟨hh1,hh1000⟩:=HHS.out h (List.mem_of_getElem? hh)
        have hbb:=HBRO.out.trans (HBb.out.mono HBRO.out.size)
        obtain⟨A9,c9,hv9,_,_,hzz⟩:=(IntsIn.of_own HHR.out).below hbb
        simp only[HHL.out,Value.slice.injEq,true_and]at hv9
        obtain⟨rfl,rfl⟩:=hv9
        obtain⟨g3,o3,rfl,hg3,_,e3⟩:=hzz j h hh
        have f1:=(hbb.cell (p:=⟨w2.heap.size,1,none⟩) hxl).trans (mx_cell (j:=1) HX4.out)
        have hBl:=heap_lt HX2.out
        obtain⟨fh,hfh⟩: ∃fh:Int,(if(n:Int)<h then h+1 else h)=fh:=⟨_,rfl⟩
        have HFH:=Lib.hid hfh
        have HHE2:=Lib.hid (show hs++ [fh]=(s'.hints.take (j+1)).map fun h=>if(n:Int)<h then h+1 else h from by
         rw[List.take_add_one,hh,List.map_append,←HHE.out,←hfh]
         rfl)
        have hwh:IntKind.i64.wrap (h+1)=h+1:=IntWalk.i64_in _ (by omega)
        have HHB:=Lib.hid hbb
        have HBX:=Lib.hid (fun(v':Value) (wa w3:World) (ha:Below wr.heap.size wr wa) (hg:wa.grownBy w3 (Value.slice Av hs.length cv').ownBlock) (hn:w3.ownsRow (B+1) 3 1 v' (hs.length+1) (hs.map (Value.int .i64)++ [.int .i64 fh]))=>snd_push hBr HX2.out HO2.out HL2.out HBb.out ha hg hn)
        rw[hsj]at HBX HO2 HX2
        clear hzz hh hbb hfh
        go_upto_if 81 with fail
        go_cut [14] (fun p wx=>p= .int .i64 fh∧wr=wx)
        case first=>
         by_cases hlt2:(n:Int)<h
         ·have q1:decide ((n:Int)<h)=true:=decide_eq_true hlt2
          have hf:h+1=fh:=by rw[←HFH.out,if_pos hlt2]
          go_wp2_with fail
          go_meet
          exact⟨rfl,rfl⟩
         ·have q1:decide ((n:Int)<h)=false:=decide_eq_false hlt2
          have hf:h=fh:=by rw[←HFH.out,if_neg hlt2]
          subst hf
          go_wp2_with fail
          go_meet
          exact⟨rfl,rfl⟩
        case rest=>
         obtain⟨rfl,rfl⟩:=hcut
         have z0:=mx_cell (j:=0) HX2.out
         have z3:=mx_cell (j:=3) HX2.out
         have y3:=free_at (j:=3) HX2.out
         have hjI:j≤2:=by omega
         go_wp2_with (at_builtin;go_must (refine wpList_append_own_at _ rfl _ _ 37 rfl (B+1) 3 i0 (.int .i64 0) 1 8 Tryz.underlying37 hi0 jz0 jz1 jz2 rfl (by decide) _ j _ rfl (own_below HO2.out (mx_al wr _)) ⟨wr.heap.size,0,none⟩ 1 1 [.int .i64 fh] rfl rfl (cell_one_new' _ _ _) (by simp[Value.oneCell']) (by unfold maxLen;omega) (by omega) (by simp;omega) ?_;intro v' w3 hown hgrow hnl hat;obtain⟨hx3,n1,n2,n3,n4⟩:=HBX.out v' _ w3 (mx_al wr _) hgrow hown;obtain⟨Av',kv',rfl,_⟩:=mx_slice hown;have z0:=mx_cell (j:=0) hx3;have z3:=mx_cell (j:=3) hx3;have y3:=free_at (j:=3) hx3;clear hx3 hgrow hown hnl hat))
         go_roundw
         case rel=>exact⟨j+1,_,hs++ [fh],by omega,by go_num,by simp;omega,HHE2,n1,n2,n3,n4⟩
         case measure=>simp[intOf];omega
       ·obtain rfl:j=H:=by omega
        rw[hsj]at HX2
        have hbb:=HBRO.out.trans (HBb.out.mono HBRO.out.size)
        obtain⟨W9,hW9,hb9,hc9,hz9⟩:=al_new wr #[.bool false,.int .i64 id1,.slice Al s'.lits.length cl,.slice Av j cv'] 39
        have hm9:=(HMMO.out.below HBb.out).below hb9
        have hr9:=hm9.row
        rw[HKM.out.1]at hr9
        have hbb9:=hbb.trans (hb9.mono hbb.size)
        have hlw:=HLW.out
        have hwb:=HBRO.out.size
        have hl9:=own_below HLR.out hbb9
        have hh9:=own_mono (own_below HO2.out hb9) (show W3.heap.size≤B+1 by omega)
        have hse:(⟨false,id1,s'.lits,hs⟩:EStep)=moveS n s':=by
         unfold moveS
         rw[hid1,HHE.out,←HHL.out,List.take_length]
        have HFIN:=Lib.hid (fun(Av9:Option Addr) (cv9:Nat) (w3:World) (hown:w3.ownsRow W3.heap.size 39 4 (.slice Av9 (i+1+1) cv9) (i+1+1) (KM.flatMap stcell++ [.bool false,.int .i64 id1,.slice Al s'.lits.length cl,.slice Av j cv'])) (hgrow:W9.grownBy w3 (Value.slice Am (i+1) cm).ownBlock) (hat:(Value.slice Av9 (i+1+1) cv9).ownBlock=(Value.slice Am (i+1) cm).ownBlock∨(Value.slice Av9 (i+1+1) cv9).ownBlock=some W9.heap.size)=>show Hid ((KM++ [((⟨false,id1,s'.lits,hs⟩:EStep),(Al,cl),(Av,cv'))]).length=i+1+1∧(KM++ [((⟨false,id1,s'.lits,hs⟩:EStep),(Al,cl),(Av,cv'))]).map Prod.fst=(moveL cs ss).take (i+1+1))∧Hid (StMem W3.heap.size w3 (.slice Av9 (i+1+1) cv9) (KM++ [((⟨false,id1,s'.lits,hs⟩:EStep),(Al,cl),(Av,cv'))]))∧Hid (∀g,(Value.slice Av9 (i+1+1) cv9).ownBlock=some g→w4.heap.size≤g)∧Hid (Below w4.heap.size w4 w3)from by
         refine⟨Lib.hid ⟨by rw[List.length_append,HKM.out.1];rfl,?_⟩,Lib.hid ?_,Lib.hid (fun g e=>?_),Lib.hid ?_⟩
         ·rw[List.map_append,HKM.out.2,List.take_add_one (i:=i+1),HMV.out,List.getElem?_cons_succ,List.getElem?_map,HS.out]
          show _++ [(⟨false,id1,s'.lits,hs⟩:EStep)]=_++ [moveS n s']
          rw[hse]
         ·refine StMem.push (K:=KM) hm9 hgrow (((⟨false,id1,s'.lits,hs⟩:EStep),(Al,cl),(Av,cv')):StV) ?_ hl9 hh9
          rw[HKM.out.1]
          show w3.ownsRow W3.heap.size 39 4 _ _ (KM.flatMap stcell++ [.bool false,.int .i64 id1,.slice Al s'.lits.length cl,.slice Av hs.length cv'])
          rw[hsj]
          exact hown
         ·rcases hat with h|h
          ·exact HGB.out g (h▸e)
          ·rw[h]at e
           cases e
           exact hbb9.size
         ·exact hbb9.grown hgrow hbb9.size (fun g e=>HGB.out g e))
        have HR9:=Lib.hid hr9
        have HC9:=Lib.hid hc9
        have HW9:=Lib.hid hW9
        have z0:=mx_cell (j:=0) HX2.out
        have z1:=mx_cell (j:=1) HX2.out
        have z2:=mx_cell (j:=2) HX2.out
        have z3:=mx_cell (j:=3) HX2.out
        have hs9:W3.heap.size≤W9.heap.size:=by have:=hbb9.size;omega
        have hi22:i≤20:=by omega
        clear hW9 hb9 hc9 hz9 hm9 hr9 hbb9 hl9 hh9 hse hbb
        go_wp2_with (at_builtin;go_must (rw[HW9.out];refine wpList_append_own_at _ rfl _ _ 47 rfl W3.heap.size 39 si (.agg #[.bool false,.int .i64 0,.slice none 0 0,.slice none 0 0]) 4 64 Tryz.underlying47 hsi sz0 sz1 sz2 rfl (by decide) _ (i+1) _ rfl HR9.out ⟨wr.heap.size,0,none⟩ 1 1 [.bool false,.int .i64 id1,.slice Al s'.lits.length cl,.slice Av j cv'] rfl rfl (cells_of_blk HC9.out) (by simp[Value.oneCell']) (by unfold maxLen;omega) (by omega) (by omega) ?_;intro v' w3 hown hgrow hnl hat;obtain⟨Av9,cv9,rfl,_⟩:=mx_slice hown;have HG:=HFIN.out Av9 cv9 w3 hown hgrow hat;clear hown hgrow hnl hat))
        go_roundw
        case rel=>
         obtain⟨h1,h2,h3,h4⟩:=HG
         exact⟨i+1,_,Av9,cv9,by omega,by go_num,by go_num,h1,h2,h3,h4⟩
        case measure=>simp[intOf];omega
     ·obtain rfl:i=L:=by omega
      go_wp2_with fail
      go_meet
      have hml:(moveL cs ss).length=i+1:=by rw[HMV.out,List.length_cons,List.length_map,HL.out]
      refine⟨Am,cm,moveL cs ss,by rw[hml],Lib.hid ?_,Lib.hid (rupL_move HRU.out (by rw[HN.out];exact hn0) (by rw[HN.out,HL.out];omega)),Lib.hid ⟨by rw[hml];omega,fun s hs=>?_⟩,HBR⟩
      ·have h:=HMM.out.stepIn
       rw[HKM.out.2,←hml,List.take_length]at h
       exact h.mono fun _ _=>trivial
      ·rw[HMV.out]at hs
       rcases List.mem_cons.1 hs with e|hs
       ·rw[e]
        exact⟨hcl,by show 1≤2;decide⟩
       ·obtain⟨t,ht,rfl⟩:=List.mem_map.1 hs
        exact⟨(HS6.out t ht).1.1,by show(t.hints.map _).length≤2;rw[List.length_map,(HS6.out t ht).2];exact Nat.le_refl _⟩
 case rest=>
  obtain⟨A',c',ls,rfl,HLS,HRL,HLB,HBW⟩:=hcut
  obtain⟨LL,hLL⟩: ∃LL,ls.length=LL:=⟨_,rfl⟩
  have HLL:=Lib.hid hLL
  have hLL21:LL≤21:=by have:=HLB.out.1;omega
  obtain⟨R,hR⟩: ∃R,runGo (ckrNew cs) ls 0=R:=⟨_,rfl⟩
  obtain⟨a,b,c,d,e',hrv⟩:=rep_agg R
  obtain⟨i1,hi1⟩: ∃i1:Int,((R.2.1:Nat):Int)=i1:=⟨_,rfl⟩
  obtain⟨i2,hi2⟩: ∃i2:Int,((runE R:Nat):Int)=i2:=⟨_,rfl⟩
  have HI2:=Lib.hid hi2
  have HR:=Lib.hid hR
  have hcc: ∀c∈cs,clauseB c=true:=fun c hc=>(H6.out c hc).clause
  have HF:=Lib.hid (show cs.length≤1000∧fchk 6 cs=(-1,0)∧∀c∈cs,clauseB c=true from⟨by rw[HN.out];omega,lit6_fchk H6.out (by rw[HN.out];omega),hcc⟩)
  have hlb: ∀s∈ls,s.lits.length≤100000000∧s.hints.length≤100000000:=fun s hs=>by have:=HLB.out.2 s hs;omega
  have HCK:=Lib.hid (proof_check 6 _ _ cs ls wc (HC4.out.below HBW.out) HF.out.2.2 HF.out.1 HF.out.2.1 HLS.out (by omega) hlb)
  rw[hR,hrv,hi1,hi2,hLL]at HCK
  have HTR:=Lib.hid (fun(X:World) (hX:Below wc.heap.size wc X)=>proof_trim 6 _ _ cs ls X ((HC4.out.below HBW.out).below hX) HF.out.2.2 HF.out.1 HF.out.2.1 (HLS.out.below hX) (by omega) hlb)
  rw[hR,hLL]at HTR
  have HWY:=Lib.hid (trim_ways HRL.out)
  rw[hR]at HWY
  rw[hLL]at HLS⊢
  have c0:=(HBW.out.cell (p:=⟨w2.heap.size,0,none⟩) HXL.out).trans (mx_cell (j:=0) HX4.out)
  have c1:=(HBW.out.cell (p:=⟨w2.heap.size,1,none⟩) HXL.out).trans (mx_cell (j:=1) HX4.out)
  have HC:=Lib.hid (HC4.out.below HBW.out)
  have HXW:=Lib.hid ((HBW.out.block _ HXL.out).trans HX4.out)
  have HBE:=Lib.hid (HB4.out.trans (HBW.out.mono HB4.out.size))
  clear hLL hR hrv hi1 hi2 hcc hlb HXL8 HC4 HX4
  go_wp2_with fail
  refine HCK.out.mono ?_
  rintro e w5 ⟨rfl,hb5⟩
  obtain⟨W5,hW5,hb5',-,-⟩:=al_new w5 #[.bool a,.int .i64 b,.int .i64 c,.int .i64 d,.int .i64 e'] 50
  have hB5:=hb5.trans (hb5'.mono hb5.size)
  have HB5:=Lib.hid hB5
  have HXL2:=Lib.hid (heap_lt HXW.out)
  have HW5:=Lib.hid hW5
  clear c0 c1
  have c0:=(hB5.cell (p:=⟨w2.heap.size,0,none⟩) HXL2.out).trans (mx_cell (j:=0) HXW.out)
  have c1:=(hB5.cell (p:=⟨w2.heap.size,1,none⟩) HXL2.out).trans (mx_cell (j:=1) HXW.out)
  clear hb5 hb5' hW5 hB5 HCK
  go_upto_region 22 with fail
  rw[HW5.out]
  go_wp2_with fail
  refine(HTR.out _ HB5.out).mono ?_
  rintro e w6 ⟨hto,hb6⟩
  clear HTR c0 c1
  rcases HWY.out with⟨E,hE,hRE⟩|⟨D,m,G,hRE,hT,hG,hW⟩
  ·obtain rfl:=hto.err hE hRE
   obtain rfl:i2=(E:Int):=by rw[←HI2.out,hRE]
   have q0:((E:Int)==0)=false:=beq_eq_false_iff_ne.2 (by omega)
   have q1:((E:Int) != 0)=true:=by rw[bne,q0];rfl
   have q2:((E:Int)==(E:Int))=true:=beq_self_eq_true _
   have HEN:=Lib.hid (HBE.out.trans ((HB5.out.trans (hb6.mono HB5.out.size)).mono HBE.out.size))
   clear hto hb6 hE hRE
   go_wp2_with fail
   go_ret
   exact⟨rfl,HEN.out⟩
  ·obtain⟨v,KG,rfl,hKG,hMG⟩:=hto.some hRE hT hG
   obtain rfl:i2=0:=by rw[←HI2.out,hRE];rfl
   obtain⟨GL,hGL⟩: ∃GL,G.length=GL:=⟨_,rfl⟩
   have hKL:KG.length=GL:=by rw[←hGL,←hKG,List.length_map]
   have hGLL:GL≤LL:=by rw[←hGL,←HLL.out];exact hW.len
   obtain⟨Ag,cg,rfl,_⟩:=mx_slice hMG.row
   have HMG:=Lib.hid hMG
   have HSG:=Lib.hid (show StepIn (fun _=>True) w6 (.slice Ag KG.length cg) G from by rw[←hKG];exact hMG.stepIn.mono fun _ _=>trivial)
   have HW:=Lib.hid hW
   have HB6:=Lib.hid (HB5.out.trans (hb6.mono HB5.out.size))
   rw[hKL]at HSG HMG⊢
   have HKG:=Lib.hid hKG
   have HKL2:=Lib.hid hKL
   have HGL:=Lib.hid hGL
   have HSM:=Lib.hid (show∀s∈G,s.lits.length≤1000000∧s.hints.length≤1000000 from fun s hs=>by
    obtain⟨x,hx,_,h2,_⟩:=hW.sub s hs
    have h3:=(HLB.out.2 x hx).1
    rw[h2]at h3
    have h4:=(hW.full.addy s hs).len
    omega)
   have HCG:=Lib.hid (fun(X:World) (hX:Below w6.heap.size w6 X)=>proof_check 6 _ _ cs G X ((HC.out.below HB6.out).below hX) HF.out.2.2 HF.out.1 HF.out.2.1 (HSG.out.below hX) (by omega) (fun s hs=>by have:=HSM.out s hs;omega))
   have HTG:=Lib.hid (fun(X:World) (hX:Below w6.heap.size w6 X)=>proof_trim 6 _ _ cs G X ((HC.out.below HB6.out).below hX) HF.out.2.2 HF.out.1 HF.out.2.1 (HSG.out.below hX) (by omega) (fun s hs=>by have:=HSM.out s hs;omega))
   obtain⟨g1,g2,g3⟩:=hW.again
   obtain⟨RG,hRG⟩: ∃RG,runGo (ckrNew cs) G 0=RG:=⟨_,rfl⟩
   have htrm:=hW.trm
   have hbk:=hW.bk
   rw[hRG]at g1 g2 g3 HCG HTG
   rw[g1,g2,g3,hGL]at HCG
   obtain⟨rb,hrb⟩: ∃rb,(ckrP cs G).adds=rb:=⟨_,rfl⟩
   obtain⟨re,hre⟩: ∃re,(ckrP cs G).largest=re:=⟨_,rfl⟩
   rw[hrb,hre]at HCG
   have HTS:=Lib.hid (show runE RG=0∧trmGo (ckrNew cs) G 0 []=(G,G.length,true)∧bkL G=G from⟨g1,htrm,hbk⟩)
   have q0:decide ((LL:Int)<(GL:Int))=false:=decide_eq_false (by omega)
   have c0:=(HB6.out.cell (p:=⟨w2.heap.size,0,none⟩) HXL2.out).trans (mx_cell (j:=0) HXW.out)
   have c1:=(HB6.out.cell (p:=⟨w2.heap.size,1,none⟩) HXL2.out).trans (mx_cell (j:=1) HXW.out)
   have HGLL:=Lib.hid hGLL
   clear hto hb6 hKG hMG hW hKL hGL g1 g2 g3 hrb hre htrm hbk hRG hT hG hRE
   have q0':decide (LL<GL)=false:=decide_eq_false (by omega)
   go_wp2_with fail
   refine(HCG.out _ (Below.refl _ _)).mono ?_
   rintro e w7 ⟨rfl,hb7⟩
   obtain⟨W7,hW7,hb7',hc7,-⟩:=al_new w7 #[.bool true,.int .i64 rb,.int .i64 0,.int .i64 0,.int .i64 re] 50
   have hB7:=hb7.trans (hb7'.mono hb7.size)
   have HB7:=Lib.hid hB7
   have HXB:=Lib.hid ((HB6.out.block _ HXL2.out).trans HXW.out)
   have HXL3:=Lib.hid (heap_lt HXB.out)
   have HW7:=Lib.hid hW7
   have HC7:=Lib.hid hc7
   clear c0 c1
   have c0:=(hB7.cell (p:=⟨w2.heap.size,0,none⟩) HXL3.out).trans (mx_cell (j:=0) HXB.out)
   have c1:=(hB7.cell (p:=⟨w2.heap.size,1,none⟩) HXL3.out).trans (mx_cell (j:=1) HXB.out)
   clear hb7 hb7' hW7 hB7 hc7
   go_upto_region 28 with fail
   rw[HW7.out]
   go_wp2_with fail
   refine(HTG.out _ HB7.out).mono ?_
   rintro e w8 ⟨hto,hb8⟩
   obtain⟨v2,K2,rfl,hK2,hM2⟩:=hto.some HTS.out.1 HTS.out.2.1 HTS.out.2.2
   obtain⟨A2,c2,rfl,_⟩:=mx_slice hM2.row
   have hK2L:K2.length=GL:=by rw[←HGL.out,←hK2,List.length_map]
   have hs2:StepIn (fun _=>True) w8 (.slice A2 K2.length c2) G:=by
    have:=hM2.stepIn
    rw[hK2]at this
    exact this.mono fun _ _=>trivial
   have hB8:=HB7.out.trans (hb8.mono HB7.out.size)
   have HB8:=Lib.hid hB8
   have HSA:=Lib.hid (same_any _ _ G w8 hs2 (HSG.out.below hB8) (by rw[HGL.out];have:=HGLL.out;omega) HSM.out)
   rw[hK2L]at HSA⊢
   have hx7:=(hb8.block _ (heap_lt HC7.out)).trans HC7.out
   have r0:=mx_cell (j:=0) hx7
   have r1:=mx_cell (j:=1) hx7
   have r2:=mx_cell (j:=2) hx7
   have r3:=mx_cell (j:=3) hx7
   have r4:=mx_cell (j:=4) hx7
   clear hto hb8 hK2 hM2 hK2L hs2 hB8 hx7 c0 c1 HTG HCG
   go_wp2_with fail
   refine HSA.out.mono ?_
   rintro e w9 ⟨rfl,hb9⟩
   have HB9:=Lib.hid (HB8.out.trans (hb9.mono HB8.out.size))
   clear hb9 HSA r0 r1 r2 r3 r4
   go_wp2_with fail
   go_loopw [181] (fun iv wr=> ∃i:Nat,i≤GL∧iv= .int .i64 i∧Hid (Below w6.heap.size w6 wr)) (fun iv _=>GL-(intOf iv).toNat)
   case atStart=>exact⟨0,Nat.zero_le _,rfl,HB9⟩
   case round=>
    obtain⟨i,hi,rfl,HBR⟩:=hrel
    by_cases hlt:i<GL
    ·obtain⟨s,hs⟩: ∃s,G[i]? =some s:=⟨_,List.getElem?_eq_getElem (by rw[HGL.out];exact hlt)⟩
     have hGLs:GL≤21:=by have:=HGLL.out;omega
     obtain⟨A'',c'',hAc,_,_,hxs⟩:=HSG.out.below HBR.out
     simp only[Value.slice.injEq]at hAc
     obtain⟨rfl,-,rfl⟩:=hAc
     obtain⟨g,o,ul,uh,rfl,hg,_,d0,d1,d2,d3,hul,huh⟩:=hxs i s hs
     obtain⟨hsl,hsh⟩:=HSM.out s (List.mem_of_getElem? hs)
     obtain⟨V,hP,hbP,hcP,-⟩:=al_new wr #[.bool s.del,.int .i64 s.id,ul,uh] 39
     have hB:=HBR.out.trans (hbP.mono HBR.out.size)
     have hbl:=HB6.out.trans (hB.mono HB6.out.size)
     have HCO:=Lib.hid (contains_sf 32 #[.pointer (some ⟨wr.heap.size,0,none⟩)] _ ls (trimB s) V (enters_of Tryz.func32 (by kernel_rfl) rfl) (HLS.out.below hbl) (by rw[HLL.out];omega) (fun X hX vl vh x hx h1 h2=>trims_one wr.heap.size (.bool s.del) vl vh ul uh x s X ((hX.block _ (heap_lt hcP)).trans hcP) h1 h2 ((hul.below hbP).below hX) ((huh.below hbP).below hX) (by have:=(HLB.out.2 x hx).1;omega) (by have:=(HLB.out.2 x hx).2;omega) hsh))
     have hany:ls.any (trimB s)=true:=by
      obtain⟨x,hx,h1,h2,h3⟩:=HW.out.sub s (List.mem_of_getElem? hs)
      refine List.any_eq_true.2 ⟨x,hx,?_⟩
      unfold trimB
      rw[Bool.and_eq_true,Bool.and_eq_true,decide_eq_true_eq,beq_iff_eq,Bool.not_eq_true',List.any_eq_false]
      exact⟨⟨h1,h2⟩,fun h hh=>by rw[List.contains_iff_mem.2 (h3 h hh)];decide⟩
     rw[hany]at HCO
     have HBP:=Lib.hid hB
     have HP:=Lib.hid hP
     obtain⟨Al,cl,rfl,_⟩:=hul
     obtain⟨Ah,ch,rfl,_⟩:=huh
     clear hP hbP hcP hB hbl hany hxs hs hsl hsh
     go_upto_region 34 with fail
     rw[HP.out]
     go_wp2_with fail
     refine HCO.out.mono ?_
     rintro e P ⟨rfl,hbP2⟩
     have HBP2:=Lib.hid (HBP.out.trans (hbP2.mono HBP.out.size))
     clear hbP2 HCO d0 d1 d2 d3
     obtain⟨m,hm⟩: ∃m,GL=i+m+1:=⟨GL-i-1,by omega⟩
     obtain⟨GM,hGM⟩: ∃GM,i+m=GM:=⟨_,rfl⟩
     have hGpos:0<GL:=by omega
     have hel:(G.eraseIdx i).length=GM:=by rw[List.length_eraseIdx_of_lt (by rw[HGL.out];exact hlt),HGL.out];omega
     have hkel:(KG.eraseIdx i).map Prod.fst=G.eraseIdx i:=by rw[erase_map,HKG.out]
     have HCLN:=Lib.hid (fun(X:World) (hX:Below P.heap.size P X)=>show Calls Tryz.prog 22 #[.slice (some ⟨g,o,none⟩) GL cg] X fun e w'=> ∃v',e= .returned v'∧w'.ownsRow X.heap.size 39 4 v' GL (KG.flatMap stcell)∧Below X.heap.size X w' from by
      have:=clone_st (.slice (some ⟨g,o,none⟩) GL cg) KG X ((HMG.out.below HBP2.out).below hX) (by rw[HKL2.out];omega)
      rw[HKL2.out]at this
      exact this)
     have HDEL:=Lib.hid (fun(X:World) (gc c:Nat) (hX:Below P.heap.size P X) (hC:X.ownsRow P.heap.size 39 4 (.slice (some ⟨gc,0,none⟩) GL c) GL (KG.flatMap stcell))=>show Calls Tryz.prog 35 #[.slice (some ⟨gc,0,none⟩) GL c,.int .i64 (i:Int),.int .i64 ((i:Int)+1)] X fun e w'=>e= .returned (.slice (some ⟨gc,0,none⟩) GM c)∧w'.ownsRow P.heap.size 39 4 (.slice (some ⟨gc,0,none⟩) GM c) GM ((KG.eraseIdx i).flatMap stcell)∧Kept (fun k=>k=gc) X w' from by
      have h:=HKL2.out
      subst hGM
      rw[←h]at hC⊢
      exact del_steps gc c i m P.heap.size KG X hC (by omega) (by omega))
     obtain⟨R3,hR3⟩: ∃R3,runGo (ckrNew cs) (G.eraseIdx i) 0=R3:=⟨_,rfl⟩
     obtain⟨ra,rb',rc,rd,re',hrv3⟩:=rep_agg R3
     obtain⟨i5,hi5⟩: ∃i5:Int,((R3.2.1:Nat):Int)=i5:=⟨_,rfl⟩
     obtain⟨i6,hi6⟩: ∃i6:Int,((runE R3:Nat):Int)=i6:=⟨_,rfl⟩
     have hcut:=HW.out.cut i (by rw[HGL.out];exact hlt)
     rw[hR3]at hcut
     have hi60:i6≠0:=by rw[←hi6];omega
     have HCKD:=Lib.hid (fun(X:World) (gc c:Nat) (hX:Below P.heap.size P X) (hD:X.ownsRow P.heap.size 39 4 (.slice (some ⟨gc,0,none⟩) GM c) GM ((KG.eraseIdx i).flatMap stcell))=>show Calls Tryz.prog 17 #[.agg #[.int .i64 6,.slice A n k],.slice (some ⟨gc,0,none⟩) GM c] X fun e w'=>e= .returned (.tuple #[.agg #[.bool ra,.int .i64 rb',.int .i64 rc,.int .i64 rd,.int .i64 re'],.int .i64 i5,.int .i64 i6])∧Below X.heap.size X w' from by
      have hmx:=(HMG.out.below HBP2.out).below hX
      have hlen:((KG.eraseIdx i).map toR).length=GM:=by rw[List.length_map,←hel,←hkel,List.length_map]
      have hst:=own_steps (KR:=(KG.eraseIdx i).map toR) (v:=.slice (some ⟨gc,0,none⟩) GM c) (n0:=P.heap.size) (w:=X) (by rw[hlen,toR_cells];exact hD) (fun x hx=>by
       obtain⟨y,hy,rfl⟩:=List.mem_map.1 hx
       have hy:=List.mem_of_mem_eraseIdx hy
       exact⟨(IntsIn.of_own (hmx.lit y hy)).mono fun _ _=>trivial,(IntsIn.of_own (hmx.hnt y hy)).mono fun _ _=>trivial⟩)
      rw[toR_fst,hkel]at hst
      have:=proof_check 6 _ _ cs (G.eraseIdx i) X ((HC.out.below (HB6.out.trans (HBP2.out.mono HB6.out.size))).below hX) HF.out.2.2 HF.out.1 HF.out.2.1 hst (by rw[hel];omega) (fun s hs=>by have:=HSM.out s (List.mem_of_mem_eraseIdx hs);omega)
      rw[hR3,hrv3,hi5,hi6]at this
      exact this)
     have HEND:=Lib.hid HBP2.out
     have hXP:=((HB6.out.trans (HBP2.out.mono HB6.out.size)).block _ HXL2.out).trans HXW.out
     have hxl':=heap_lt hXP
     have hwi:IntKind.i64.wrap ((i:Int)+1)=(i:Int)+1:=IntWalk.i64_in _ (by omega)
     clear hcut hi6 hi5 hR3 hrv3 hkel hel hGM hm
     go_upto_region 36 with fail
     go_cut [30] (fun p wx=>p= .int .i64 i6∧Hid (Below P.heap.size P wx))
     case rest=>
      obtain⟨rfl,HBZ⟩:=hcut
      have q0:(i6==0)=false:=beq_eq_false_iff_ne.2 hi60
      have HBN:=Lib.hid (HBP2.out.trans (HBZ.out.mono HBP2.out.size))
      go_wp2_with fail
      go_roundw
      case rel=>exact⟨i+1,by omega,by go_num,HBN⟩
      case measure=>simp[intOf];omega
     case first=>
      refine wp_region_held_drew (S:=fun w'=>Below P.heap.size P w') (by kernel_rfl) (mx_drew P) (fun hS0=>?_)
      obtain⟨x0,hx0⟩: ∃y,P.drew=y:=⟨_,rfl⟩
      rw[hx0]at hS0⊢
      clear hx0
      refine takeF 0 191 (F:=fun wq=>wq.cell? ⟨w2.heap.size,0,none⟩=some (.int .i64 6)∧wq.cell? ⟨w2.heap.size,1,none⟩=some (.slice A n k)) (fun wq hSw=>⟨(hSw.cell (p:=⟨w2.heap.size,0,none⟩) hxl').trans (mx_cell (j:=0) hXP),(hSw.cell (p:=⟨w2.heap.size,1,none⟩) hxl').trans (mx_cell (j:=1) hXP)⟩) ?_
      refine takeE 1 192 ?_
      refine takeE 3 194 ?_
      refine takeE 4 195 ?_
      refine takeE 5 196 ?_
      refine wpAnyH_ready (rs:= [2,12]) (by kernel_rfl) (by simp) (AllReadyH.cons rfl (fun KK hKK=>?_) (AllReadyH.cons rfl (fun KK hKK=>?_) AllReadyH.nil))
      ·go_simp
       refine(HCLN.out x0 hS0).mono ?_
       rintro e x1 ⟨vC,rfl,hC,hb1⟩
       have hC:=own_rebase (b':=P.heap.size) hC (fun g hg=>Nat.le_trans hS0.size (own_lt hC g hg).1)
       obtain⟨gC,cC,rfl⟩: ∃g c,vC= .slice (some ⟨g,0,none⟩) GL c:=own_blk hC hGpos
       have hS1:=hS0.trans (hb1.mono hS0.size)
       refine hKK.out _ _ hS1 (fun _=>?_)
       clear hKK
       refine wpAnyH_ready (rs:= [6,12]) (by kernel_rfl) (by simp) (AllReadyH.cons rfl (fun KK hKK=>?_) (AllReadyH.cons rfl (fun KK hKK=>?_) AllReadyH.nil))
       ·go_simp
        refine(HDEL.out x1 gC cC hS1 hC).mono ?_
        rintro e x2 ⟨rfl,hD,hk2⟩
        have hgC:=(own_lt hC gC rfl).1
        have hS2:=hS1.trans (hk2.below (fun i e=>by rw[e];exact hgC) hS1.size)
        refine hKK.out _ _ hS2 (fun _=>?_)
        clear hKK
        refine wpAnyH_ready (rs:= [7,12]) (by kernel_rfl) (by simp) (AllReadyH.cons rfl (fun KK hKK=>?_) (AllReadyH.cons rfl (fun KK hKK=>?_) AllReadyH.nil))
        ·go_simp
         refine(HCKD.out x2 gC cC hS2 hD).mono ?_
         rintro e x3 ⟨rfl,hb3⟩
         have hS3:=hS2.trans (hb3.mono hS2.size)
         refine hKK.out _ _ hS3 (fun _=>?_)
         clear hKK
         refine takeE 8 190 ?_
         refine takeE 9 199 ?_
         refine takeE 10 200 ?_
         refine takeE 11 201 ?_
         refine ready1 12 (fun KK hKK=>?_)
         go_simp
         have hb4:=mx_al x3 (.cells #[.bool false,.int .i64 0,.int .i64 0,.int .i64 0,.int .i64 0] 50)
         obtain⟨x4,hw4,-,hL0,-⟩:=al_new x3 #[.bool false,.int .i64 0,.int .i64 0,.int .i64 0,.int .i64 0] 50
         rw[hw4]at hb4⊢
         have hS4:=hS3.trans (hb4.mono hS3.size)
         have hgL:P.heap.size≤x3.heap.size:=hS3.size
         refine hKK.out _ _ hS4 (fun _=>?_)
         clear hKK
         obtain⟨gL,hgl⟩: ∃g,x3.heap.size=g:=⟨_,rfl⟩
         rw[hgl]at hgL hL0⊢
         clear hgl
         have r0:=mx_cell (j:=0) hL0
         have r1:=mx_cell (j:=1) hL0
         have r2:=mx_cell (j:=2) hL0
         have r3:=mx_cell (j:=3) hL0
         have r4:=mx_cell (j:=4) hL0
         have f0:=free_at (j:=0) hL0
         have f1:=free_at (j:=1) hL0
         have f2:=free_at (j:=2) hL0
         have f3:=free_at (j:=3) hL0
         have f4:=free_at (j:=4) hL0
         obtain⟨wy,hwy,hby,hky⟩:=five_setR hL0 (.bool ra) (.int .i64 rb') (.int .i64 rc) (.int .i64 rd) (.int .i64 re')
         have hSy:=hS4.trans (hky.below (fun i e=>by rw[e];exact hgL) hS4.size)
         refine ready1 13 (fun KK hKK=>?_)
         go_simp
         try rw[hwy]
         refine hKK.out _ _ hSy (fun _=>?_)
         clear hKK
         refine takeE 14 29 ?_
         refine takeE 15 30 ?_
         refine wpAnyH_done (by kernel_rfl) ?_ _
         go_wp2_with fail
         go_meet
         exact⟨rfl,Lib.hid hSy⟩
        ·go_simp
         have hb3:=mx_al x2 (.cells #[.bool false,.int .i64 0,.int .i64 0,.int .i64 0,.int .i64 0] 50)
         obtain⟨x3,hw3,-,hL0,-⟩:=al_new x2 #[.bool false,.int .i64 0,.int .i64 0,.int .i64 0,.int .i64 0] 50
         rw[hw3]at hb3⊢
         have hS3:=hS2.trans (hb3.mono hS2.size)
         have hgL:P.heap.size≤x2.heap.size:=hS2.size
         refine hKK.out _ _ hS3 (fun _=>?_)
         clear hKK
         have hD:=own_below hD hb3
         refine ready1 7 (fun KK hKK=>?_)
         go_simp
         refine(HCKD.out x3 gC cC hS3 hD).mono ?_
         rintro e x4 ⟨rfl,hb4⟩
         have hS4:=hS3.trans (hb4.mono hS3.size)
         refine hKK.out _ _ hS4 (fun _=>?_)
         clear hKK
         have hL0:=(hb4.block _ (heap_lt hL0)).trans hL0
         refine takeE 8 190 ?_
         refine takeE 9 199 ?_
         refine takeE 10 200 ?_
         refine takeE 11 201 ?_
         obtain⟨gL,hgl⟩: ∃g,x2.heap.size=g:=⟨_,rfl⟩
         rw[hgl]at hgL hL0⊢
         clear hgl
         have r0:=mx_cell (j:=0) hL0
         have r1:=mx_cell (j:=1) hL0
         have r2:=mx_cell (j:=2) hL0
         have r3:=mx_cell (j:=3) hL0
         have r4:=mx_cell (j:=4) hL0
         have f0:=free_at (j:=0) hL0
         have f1:=free_at (j:=1) hL0
         have f2:=free_at (j:=2) hL0
         have f3:=free_at (j:=3) hL0
         have f4:=free_at (j:=4) hL0
         obtain⟨wy,hwy,hby,hky⟩:=five_setR hL0 (.bool ra) (.int .i64 rb') (.int .i64 rc) (.int .i64 rd) (.int .i64 re')
         have hSy:=hS4.trans (hky.below (fun i e=>by rw[e];exact hgL) hS4.size)
         refine ready1 13 (fun KK hKK=>?_)
         go_simp
         try rw[hwy]
         refine hKK.out _ _ hSy (fun _=>?_)
         clear hKK
         refine takeE 14 29 ?_
         refine takeE 15 30 ?_
         refine wpAnyH_done (by kernel_rfl) ?_ _
         go_wp2_with fail
         go_meet
         exact⟨rfl,Lib.hid hSy⟩
       ·go_simp
        have hb2:=mx_al x1 (.cells #[.bool false,.int .i64 0,.int .i64 0,.int .i64 0,.int .i64 0] 50)
        obtain⟨x2,hw2,-,hL0,-⟩:=al_new x1 #[.bool false,.int .i64 0,.int .i64 0,.int .i64 0,.int .i64 0] 50
        rw[hw2]at hb2⊢
        have hS2:=hS1.trans (hb2.mono hS1.size)
        have hgL:P.heap.size≤x1.heap.size:=hS1.size
        refine hKK.out _ _ hS2 (fun _=>?_)
        clear hKK
        have hC:=own_below hC hb2
        refine ready1 6 (fun KK hKK=>?_)
        go_simp
        refine(HDEL.out x2 gC cC hS2 hC).mono ?_
        rintro e x3 ⟨rfl,hD,hk3⟩
        have hgC:=(own_lt hC gC rfl).1
        have hS3:=hS2.trans (hk3.below (fun i e=>by rw[e];exact hgC) hS2.size)
        refine hKK.out _ _ hS3 (fun _=>?_)
        clear hKK
        have hL0:=(hk3.block _ (heap_lt hL0) (fun e=>mx_not hC hL0 (by decide) (by rw[←e];rfl))).trans hL0
        refine ready1 7 (fun KK hKK=>?_)
        go_simp
        refine(HCKD.out x3 gC cC hS3 hD).mono ?_
        rintro e x4 ⟨rfl,hb4⟩
        have hS4:=hS3.trans (hb4.mono hS3.size)
        refine hKK.out _ _ hS4 (fun _=>?_)
        clear hKK
        have hL0:=(hb4.block _ (heap_lt hL0)).trans hL0
        refine takeE 8 190 ?_
        refine takeE 9 199 ?_
        refine takeE 10 200 ?_
        refine takeE 11 201 ?_
        obtain⟨gL,hgl⟩: ∃g,x1.heap.size=g:=⟨_,rfl⟩
        rw[hgl]at hgL hL0⊢
        clear hgl
        have r0:=mx_cell (j:=0) hL0
        have r1:=mx_cell (j:=1) hL0
        have r2:=mx_cell (j:=2) hL0
        have r3:=mx_cell (j:=3) hL0
        have r4:=mx_cell (j:=4) hL0
        have f0:=free_at (j:=0) hL0
        have f1:=free_at (j:=1) hL0
        have f2:=free_at (j:=2) hL0
        have f3:=free_at (j:=3) hL0
        have f4:=free_at (j:=4) hL0
        obtain⟨wy,hwy,hby,hky⟩:=five_setR hL0 (.bool ra) (.int .i64 rb') (.int .i64 rc) (.int .i64 rd) (.int .i64 re')
        have hSy:=hS4.trans (hky.below (fun i e=>by rw[e];exact hgL) hS4.size)
        refine ready1 13 (fun KK hKK=>?_)
        go_simp
        try rw[hwy]
        refine hKK.out _ _ hSy (fun _=>?_)
        clear hKK
        refine takeE 14 29 ?_
        refine takeE 15 30 ?_
        refine wpAnyH_done (by kernel_rfl) ?_ _
        go_wp2_with fail
        go_meet
        exact⟨rfl,Lib.hid hSy⟩
      ·go_simp
       have hb1:=mx_al x0 (.cells #[.bool false,.int .i64 0,.int .i64 0,.int .i64 0,.int .i64 0] 50)
       obtain⟨x1,hw1,-,hL0,-⟩:=al_new x0 #[.bool false,.int .i64 0,.int .i64 0,.int .i64 0,.int .i64 0] 50
       rw[hw1]at hb1⊢
       have hS1:=hS0.trans (hb1.mono hS0.size)
       have hgL:P.heap.size≤x0.heap.size:=hS0.size
       refine hKK.out _ _ hS1 (fun _=>?_)
       clear hKK
       refine ready1 2 (fun KK hKK=>?_)
       go_simp
       refine(HCLN.out x1 hS1).mono ?_
       rintro e x2 ⟨vC,rfl,hC,hb2⟩
       have hC:=own_rebase (b':=P.heap.size) hC (fun g hg=>Nat.le_trans hS1.size (own_lt hC g hg).1)
       obtain⟨gC,cC,rfl⟩: ∃g c,vC= .slice (some ⟨g,0,none⟩) GL c:=own_blk hC hGpos
       have hS2:=hS1.trans (hb2.mono hS1.size)
       refine hKK.out _ _ hS2 (fun _=>?_)
       clear hKK
       have hL0:=(hb2.block _ (heap_lt hL0)).trans hL0
       refine ready1 6 (fun KK hKK=>?_)
       go_simp
       refine(HDEL.out x2 gC cC hS2 hC).mono ?_
       rintro e x3 ⟨rfl,hD,hk3⟩
       have hgC:=(own_lt hC gC rfl).1
       have hS3:=hS2.trans (hk3.below (fun i e=>by rw[e];exact hgC) hS2.size)
       refine hKK.out _ _ hS3 (fun _=>?_)
       clear hKK
       have hL0:=(hk3.block _ (heap_lt hL0) (fun e=>mx_not hC hL0 (by decide) (by rw[←e];rfl))).trans hL0
       refine ready1 7 (fun KK hKK=>?_)
       go_simp
       refine(HCKD.out x3 gC cC hS3 hD).mono ?_
       rintro e x4 ⟨rfl,hb4⟩
       have hS4:=hS3.trans (hb4.mono hS3.size)
       refine hKK.out _ _ hS4 (fun _=>?_)
       clear hKK
       have hL0:=(hb4.block _ (heap_lt hL0)).trans hL0
       refine takeE 8 190 ?_
       refine takeE 9 199 ?_
       refine takeE 10 200 ?_
       refine takeE 11 201 ?_
       obtain⟨gL,hgl⟩: ∃g,x0.heap.size=g:=⟨_,rfl⟩
       rw[hgl]at hgL hL0⊢
       clear hgl
       have r0:=mx_cell (j:=0) hL0
       have r1:=mx_cell (j:=1) hL0
       have r2:=mx_cell (j:=2) hL0
       have r3:=mx_cell (j:=3) hL0
       have r4:=mx_cell (j:=4) hL0
       have f0:=free_at (j:=0) hL0
       have f1:=free_at (j:=1) hL0
       have f2:=free_at (j:=2) hL0
       have f3:=free_at (j:=3) hL0
       have f4:=free_at (j:=4) hL0
       obtain⟨wy,hwy,hby,hky⟩:=five_setR hL0 (.bool ra) (.int .i64 rb') (.int .i64 rc) (.int .i64 rd) (.int .i64 re')
       have hSy:=hS4.trans (hky.below (fun i e=>by rw[e];exact hgL) hS4.size)
       refine ready1 13 (fun KK hKK=>?_)
       go_simp
       try rw[hwy]
       refine hKK.out _ _ hSy (fun _=>?_)
       clear hKK
       refine takeE 14 29 ?_
       refine takeE 15 30 ?_
       refine wpAnyH_done (by kernel_rfl) ?_ _
       go_wp2_with fail
       go_meet
       exact⟨rfl,Lib.hid hSy⟩
    ·obtain rfl:i=GL:=by omega
     have HEN:=Lib.hid (HBE.out.trans ((HB6.out.trans (HBR.out.mono HB6.out.size)).mono HBE.out.size))
     go_wp2_with fail
     go_ret
     exact⟨rfl,HEN.out⟩
end Go.Proofs.YtkfgplfllddhnaaGreat
