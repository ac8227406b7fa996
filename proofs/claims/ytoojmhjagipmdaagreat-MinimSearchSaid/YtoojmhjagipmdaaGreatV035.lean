/- MinimSearch: the walk. -/
import Derived.Test.YtoojmhjagipmdaaGreatV030
import Derived.Test.YtoojmhjagipmdaaGreatV034
namespace Go.Proofs.YtoojmhjagipmdaaGreat
open Go.RowKit
set_option maxRecDepth 100000 in
set_option maxHeartbeats 8000000 in
theorem msearch_any (v0 v1:Value) (x:List (List Int)) (l:List Int) (w:World) (h0:RowsAt .i8 w v0 x) (h1:RowAt .i8 w v1 l):
  Calls Tryz.prog 8 #[v0,v1] w fun e w'=>e= .returned (.bool true)∧Below w.heap.size w w':=by
 obtain⟨cs,hcs⟩: ∃cs,(x.take 14).map madeL=cs:=⟨_,rfl⟩
 have h6:Six cs:=by rw[←hcs];exact six_made x 14 (by decide)
 have H0:=Lib.hid h0
 have H1:=Lib.hid h1
 have HCS:=Lib.hid hcs
 obtain⟨A0,c0,rfl,_⟩:=h0
 obtain⟨A1,c1,rfl,hc1,hm1,hn1,hwf1,hx1⟩:=h1
 have HWF:=Lib.hid hwf1
 have HX1:=Lib.hid hx1
 clear hcs hwf1 hx1 hn1
 go_enter Tryz.func8,Tryz.ntmps8
 go_wp2_with fail
 refine(awake15_any w).mono ?_
 rintro e w1 ⟨rfl,hb1⟩
 have HB1:=Lib.hid hb1
 have HALL:=Lib.hid (all_any _ x 14 w1 (H0.out.below hb1) (by decide))
 clear hb1
 go_wp2_with fail
 refine HALL.out.mono ?_
 rintro e w2 ⟨v,rfl,hcl,hb2⟩
 rw[HCS.out]at hcl
 have HB2:=Lib.hid (HB1.out.trans (hb2.mono HB1.out.size))
 have HCI:=Lib.hid hcl.clsIn
 have hca:=hcl.cls
 obtain⟨Av,cv,rfl,_⟩:=id hca
 have HBE:=Lib.hid (law_begin Av cv cs w2 hca hcl.clsIn h6)
 clear hb2 hcl hca HALL HB1
 go_wp2_with fail
 refine HBE.out.mono ?_
 rintro e w3 ⟨sb,b,a,t,lab,T,its,S,id,av,us,rfl,hsr,hs,hnw⟩
 have HSR:=Lib.hid hsr
 have HS:=Lib.hid hs
 have HSI:=Lib.hid (sri_begin hs h6 hnw)
 clear hsr hs hnw HBE
 go_wp2_with fail
 have hcs14:cs.length≤14:=by
  rw[←HCS.out,List.length_map,List.length_take]
  omega
 go_loopw [7,8,9] (fun iv okv nv wr=> ∃(n:Nat) (id:Int) (ls:List (List Int)) (labr:Nat→Nat) (av:Value) (us:List Value) (T:Trl) (its:List RIt) (S:Wst),iv= .int .i64 id∧okv= .bool true∧nv= .int .i64 n∧Hid (SrAt w2 wr labr sb b a t (addAll arn0 0 (cs++ls)) T S (cs++ls) av us)∧Hid (SrI cs ls T its S id n)) (fun _ _ nv _=>7000-(intOf nv).toNat)
 case atStart=>exact⟨0,id,[],lab,av,us,T,its,S,rfl,rfl,rfl,Lib.hid (by rw[List.append_nil];exact HSR.out),HSI⟩
 case round=>
  obtain⟨n,id,ls,labr,av,us,T,its,S,rfl,rfl,rfl,HL,HI⟩:=hrel
  have hn6:=HI.out.n6000
  have hls:=HI.out.few
  have hfew:=HI.out.sr.st.sim.few HI.out.sr.st.vars
  have qn:decide ((6000:Int)<(n:Int))=false:=by simp;omega
  have hn60: ¬(6000:Int)<(n:Int):=by omega
  have hwk:IntKind.i64.wrap ((n:Int)+1)=((n+1:Nat):Int):=by rw[IntWalk.i64_in _ (by omega)];omega
  have HBW:=Lib.hid (HB2.out.trans (HL.out.lw.hb.mono HB2.out.size))
  by_cases hid:id=0
  ·have qz:(id==0)=true:=by simpa using hid
   have HI0:=Lib.hid (show SrI cs ls T its S 0 n from by rw[←hid];exact HI.out)
   have HFR:=Lib.hid (law_free _ l HL.out (H1.out.below HBW.out))
   clear hid
   go_wp2_with fail
   refine HFR.out.mono ?_
   rintro e w5 ⟨⟨fv,rfl,hf⟩,hb5⟩
   have H5:=Lib.hid (HL.out.below hb5)
   have HF:=Lib.hid hf
   clear hf hb5 HFR
   by_cases hfv:fv=0
   ·have qf:(fv==0)=true:=by simpa using hfv
    have hall: ∀v:Int,1≤v→v<7→T.val v≠0:=by
     rcases HF.out with h|h
     ·exact h.2
     ·rw[hfv]at h
      have:=(litB_iff 0).1 h.1
      omega
    have HMD:=Lib.hid (sri_model HI0.out hall)
    have hord: ∀y∈T.order,-7<y∧y<7:=fun y hy=>by
     have hs:=HI0.out.sr.st.sim
     have hv:=HI0.out.sr.st.vars
     rw[hs.order]at hy
     obtain⟨r,hr,rfl⟩:=List.mem_map.1 hy
     obtain⟨p,hp⟩:=List.getElem?_of_mem hr
     have h1:=(hs.at_ p r hp).1
     have h2:=(hs.varlt hp).2
     have h3:=litV_pos h1
     omega
    have HORD:=Lib.hid hord
    have HAS:=Lib.hid (law_assigned14 t T w5 H5.out.lw.sys.tr (by omega))
    obtain⟨-,e1,-,-⟩:=H5.out.cells
    clear hfv hall hord
    go_wp2_with fail
    refine HAS.out.mono ?_
    rintro e w6 ⟨vn,rfl,hrn,hb6⟩
    obtain⟨An,cn,rfl,_⟩:=mx_slice hrn
    have HRN:=Lib.hid hrn
    have H6:=Lib.hid (H5.out.below hb6)
    clear hrn hb6 HAS e1
    go_wp2_with fail
    go_loopw [11,46] (fun bv iv wr=> ∃k:Nat,k≤T.order.length∧iv= .int .i64 k∧bv= .int .i64 (bitsL (T.order.take k):Nat)∧Hid (Below w6.heap.size w6 wr)) (fun _ iv _=>T.order.length-(intOf iv).toNat)
    case atStart=>exact⟨0,Nat.zero_le _,rfl,rfl,Lib.hid (Below.refl _ _)⟩
    case round=>
     obtain⟨k,hk,rfl,rfl,HB⟩:=hrel
     by_cases hlt:k<T.order.length
     ·obtain⟨y,hyk⟩:=getElem_of hlt
      obtain⟨g,cc,hv,hg0,hg,e0⟩:=own_cell HRN.out hyk
      simp only[Value.slice.injEq,true_and]at hv
      obtain⟨rfl,rfl⟩:=hv
      have d0:wr.cell? ⟨g,k,none⟩=some (.int .i64 y):=(HB.out.cell (p:=⟨g,k,none⟩) hg).trans e0
      have hyr:=HORD.out y (List.mem_of_getElem? hyk)
      have HTK:=Lib.hid (show T.order.take (k+1)=T.order.take k++ [y]from by rw[List.take_add_one,hyk];rfl)
      have hlt128:=bitsL_lt (ys:=T.order.take k) (fun z hz=>HORD.out z (List.mem_of_mem_take hz))
      obtain⟨BB,hBB⟩: ∃BB,bitsL (T.order.take k)=BB:=⟨_,rfl⟩
      rw[hBB]at hlt128⊢
      have HBB:=Lib.hid hBB
      clear e0 hyk hBB
      by_cases hp:0<y
      ·have q1:decide ((0:Int)<y)=true:=by simpa using hp
       have q2:decide (y<(40:Int))=true:=by simp;omega
       have hy40:y<40:=by omega
       have hor:=bits_or BB hlt128 y.toNat (by omega)
       have hw:wrap64 ((2:Int)^y.toNat)=2^y.toNat:=(show∀m:Nat,m<7→wrap64 ((2:Int)^m)=2^m by decide +kernel) _ (by omega)
       go_wp2_with fail
       go_roundw
       case rel=>exact⟨k+1,by omega,by go_num,by rw[HTK.out,bitsL_snoc,if_pos hp,HBB.out],HB⟩
       case measure=>simp[intOf];omega
      ·have q1:decide ((0:Int)<y)=false:=by simpa using hp
       go_wp2_with fail
       go_roundw
       case rel=>exact⟨k+1,by omega,by go_num,by rw[HTK.out,bitsL_snoc,if_neg hp,HBB.out],HB⟩
       case measure=>simp[intOf];omega
     ·obtain rfl:k=T.order.length:=by omega
      have HAL:=Lib.hid (law_alltrue _ cs (bitsL T.order) wr (HCI.out.below ((H6.out.below HB.out).lw.hb)) (bitsL_lt HORD.out) (lits_ok h6) (by omega))
      rw[HMD.out]at HAL
      have HBF:=Lib.hid (HB2.out.trans ((H6.out.below HB.out).lw.hb.mono HB2.out.size))
      rw[List.take_length]
      go_wp2_with fail
      refine HAL.out.mono ?_
      rintro e w7 ⟨rfl,hb7⟩
      have HBG:=Lib.hid (HBF.out.trans (hb7.mono HBF.out.size))
      clear hb7
      go_wp2_with fail
      go_ret
      exact⟨rfl,HBG.out⟩
   ·have qf:(fv==0)=false:=by simpa using hfv
    have hfo:litB fv=true∧litV fv<7∧T.val fv=0:=by
     rcases HF.out with h|h
     ·exact absurd h.1 hfv
     ·exact h
    have HDE:=Lib.hid (law_decide14s fv H5.out HI0.out.sr HI0.out.six ⟨hfo.1,hfo.2.1⟩ (by have:=HI0.out.now6;omega))
    have HFO:=Lib.hid hfo
    clear hfo hfv
    go_wp2_with fail
    refine HDE.out.mono ?_
    rintro e w10 ⟨lab10,T',its',S',id',rfl,hl10,hs10,hn10,_,_,hT'⟩
    have HL10:=Lib.hid hl10
    have HI10:=Lib.hid (sri_dec HI0.out ⟨HFO.out.1,HFO.out.2.1⟩ HFO.out.2.2 hs10 hT' hn10)
    clear hl10 hs10 hn10 hT' HDE
    go_wp2_with fail
    go_roundw
    case rel=>exact⟨n+1,id',ls,lab10,av,us,T',its',S',rfl,rfl,by go_num,HL10,HI10⟩
    case measure=>simp[intOf];omega
  ·have qz:(id==0)=false:=by simpa using hid
   have HG:=HI
   obtain⟨wc,hwc⟩: ∃z,z=wr:=⟨_,rfl⟩
   rw[←hwc]at HL HBW⊢
   clear hwc
   obtain⟨c,hcc,hcf⟩:=HG.out.sr.bad hid
   obtain⟨x0,lv,R0,K0,y,R,K,hc0,-,hcp,hco,hmy,-,-⟩:=min_law HG.out.sr.st.sim HG.out.sr.st.inv.rs (fun j=>get_cls HG.out.six j) HG.out.sr.dcs hcc (HG.out.six.fit.right hcc) hcf
   have HCO:=Lib.hid hco
   have HCC:=Lib.hid hcc
   have HNID:=Lib.hid hid
   obtain⟨f,hgf⟩:=good_facts HG.out.sr.st.sim HG.out.sr.st.vars HG.out.six hcc hco
   have HGF:=Lib.hid hgf
   have HMET:=Lib.hid (show y.met.length≤T.order.length from by rw[hmy];exact conf_met hc0)
   have HCF:=Lib.hid (fun W (hb:Below wc.heap.size wc W)=>mn_conflict a t (addAll arn0 0 (cs++ls)) T its id W HG.out.sr.st.sim (by have h2:=congrArg List.length HG.out.sr.st.sim.order;rw[List.length_map]at h2;omega) (HL.out.below hb).lw.sys.ar (HL.out.below hb).lw.sys.tr)
   rw[hcp]at HCF
   obtain⟨e0,e1,-,-⟩:=HL.out.cells
   have hsbl:=HL.out.sblt
   clear hcc hcf hcp hco hgf hid hmy hc0
   go_upto_region 22 with fail
   go_cut [14,15] (fun yp ev wx=> ∃yb,yp= .pointer (some ⟨yb,0,none⟩)∧ev= .int .i64 0∧Hid (∃ya yb' yc,YAt wc wx yb y ya yb' yc))
   case first=>
    refine wp_region_held_drew (S:=fun w'=>Below wc.heap.size wc w') (by kernel_rfl) (mx_drew wc) (fun hS=>?_)
    obtain⟨xD,hxD⟩: ∃z,wc.drew=z:=⟨_,rfl⟩
    rw[hxD]at hS⊢
    clear hxD
    refine takeE 0 72 ?_
    refine takeE 1 73 ?_
    refine takeE 2 74 ?_
    refine takeF 3 75 (fun wq hSw=>(hSw.cell (p:=⟨sb,0,none⟩) hsbl).trans e0) ?_
    refine takeE 4 76 ?_
    refine takeE 5 77 ?_
    refine takeE 6 78 ?_
    refine takeF 7 79 (fun wq hSw=>(hSw.cell (p:=⟨sb,1,none⟩) hsbl).trans e1) ?_
    refine takeE 8 80 ?_
    refine wpAnyH_ready (rs:= [9,13]) (by kernel_rfl) (by simp) ?_
    refine AllReadyH.cons rfl (fun K hK=>?_) (AllReadyH.cons rfl (fun K hK=>?_) AllReadyH.nil)
    ·go_simp
     refine(HCF.out _ hS).mono ?_
     rintro e w4 ⟨⟨v,rfl,hlr⟩,hbN⟩
     have hlr:=hlr.mono hS.size
     have hSN:=hS.trans (hbN.mono hS.size)
     have HLR:=Lib.hid hlr
     obtain⟨Ay1,cy1,Ay2,cy2,Ay3,cy3,rfl,-⟩:=hlr.parts
     clear hlr
     refine hK.out _ _ hSN (fun _=>?_)
     clear hK hbN hS
     have hS:=hSN
     clear hSN
     refine takeE 10 71 ?_
     refine takeE 11 82 ?_
     refine takeE 12 83 ?_
     refine ready1 13 (fun K hK=>?_)
     go_simp
     obtain⟨w5,hw5⟩: ∃z,w4.alloc (.cells #[.slice none 0 0,.int .i64 0,.int .i64 0,.slice none 0 0,.slice none 0 0] 65)=z:=⟨_,rfl⟩
     have hb5:Below w4.heap.size w4 w5:=by rw[←hw5];exact mx_al _ _
     have hbk:w5.heap[w4.heap.size]? =some (.cells #[.slice none 0 0,.int .i64 0,.int .i64 0,.slice none 0 0,.slice none 0 0] 65 (0,0)):=by rw[←hw5];exact World.alloc_heap_new _ _
     rw[hw5]
     have hS5:=hS.trans (hb5.mono hS.size)
     refine hK.out _ _ hS5 (fun _=>?_)
     clear hK
     obtain⟨y0,y1,y2,y3,y4⟩:=(cells5 hbk).1
     have f0:=mx_free (j:=0) hbk
     have f1:=mx_free (j:=1) hbk
     have f2:=mx_free (j:=2) hbk
     have f3:=mx_free (j:=3) hbk
     have f4:=mx_free (j:=4) hbk
     refine ready1 14 (fun K hK=>?_)
     go_simp
     obtain⟨wy,hwy,hby,hky⟩:=five_set hbk (.slice Ay1 y.lits.length cy1) (.int .i64 y.back) (.int .i64 y.levels) (.slice Ay2 y.hints.length cy2) (.slice Ay3 y.met.length cy3)
     rw[hwy]
     have hSy:=hS5.trans (hky.below (fun i h=>by rw[h];exact hS.size) hS5.size)
     have HY:=Lib.hid (show YAt wc wy w4.heap.size y (.slice Ay1 y.lits.length cy1) (.slice Ay2 y.hints.length cy2) (.slice Ay3 y.met.length cy3)from⟨hby,HLR.out.below (hb5.trans (hky.below (fun i h=>Nat.le_of_eq h.symm) hb5.size)),hSy,hS.size⟩)
     refine hK.out _ _ hSy (fun _=>?_)
     clear hK hwy hby hky hb5 hbk y0 y1 y2 y3 y4 f0 f1 f2 f3 f4
     refine takeE 15 15 ?_
     refine wpAnyH_done (by kernel_rfl) ?_ _
     go_wp2_with fail
     go_meet
     exact⟨_,rfl,rfl,Lib.hid ⟨_,_,_,HY.out⟩⟩
    ·go_simp
     obtain⟨w5,hw5⟩: ∃z,xD.alloc (.cells #[.slice none 0 0,.int .i64 0,.int .i64 0,.slice none 0 0,.slice none 0 0] 65)=z:=⟨_,rfl⟩
     have hb5:Below xD.heap.size xD w5:=by rw[←hw5];exact mx_al _ _
     have hbk:w5.heap[xD.heap.size]? =some (.cells #[.slice none 0 0,.int .i64 0,.int .i64 0,.slice none 0 0,.slice none 0 0] 65 (0,0)):=by rw[←hw5];exact World.alloc_heap_new _ _
     have hlt5:=heap_lt hbk
     have hxle:=hS.size
     rw[hw5]
     have hS5:=hS.trans (hb5.mono hS.size)
     refine hK.out _ _ hS5 (fun _=>?_)
     clear hK hS hw5
     refine ready1 9 (fun K hK=>?_)
     go_simp
     refine(HCF.out _ hS5).mono ?_
     rintro e w4 ⟨⟨v,rfl,hlr⟩,hbN⟩
     have hSN:=hS5.trans (hbN.mono hS5.size)
     have HLR:=Lib.hid hlr
     obtain⟨Ay1,cy1,Ay2,cy2,Ay3,cy3,rfl,-⟩:=hlr.parts
     clear hlr
     refine hK.out _ _ hSN (fun _=>?_)
     have hbk4:=(hbN.block _ hlt5).trans hbk
     clear hK hbN
     refine takeE 10 71 ?_
     refine takeE 11 82 ?_
     refine takeE 12 83 ?_
     obtain⟨y0,y1,y2,y3,y4⟩:=(cells5 hbk4).1
     have f0:=mx_free (j:=0) hbk4
     have f1:=mx_free (j:=1) hbk4
     have f2:=mx_free (j:=2) hbk4
     have f3:=mx_free (j:=3) hbk4
     have f4:=mx_free (j:=4) hbk4
     refine ready1 14 (fun K hK=>?_)
     go_simp
     obtain⟨wy,hwy,hby,hky⟩:=five_set hbk4 (.slice Ay1 y.lits.length cy1) (.int .i64 y.back) (.int .i64 y.levels) (.slice Ay2 y.hints.length cy2) (.slice Ay3 y.met.length cy3)
     rw[hwy]
     have hSy:=hSN.trans (hky.below (fun i h=>by rw[h];exact hxle) hSN.size)
     have HY:=Lib.hid (show YAt wc wy xD.heap.size y (.slice Ay1 y.lits.length cy1) (.slice Ay2 y.hints.length cy2) (.slice Ay3 y.met.length cy3)from⟨hby,(HLR.out.kept hky (fun g hg e=>by omega)).mono hS5.size,hSy,hxle⟩)
     refine hK.out _ _ hSy (fun _=>?_)
     clear hK hwy hby hky hb5 hbk hbk4 y0 y1 y2 y3 y4 f0 f1 f2 f3 f4
     refine takeE 15 15 ?_
     refine wpAnyH_done (by kernel_rfl) ?_ _
     go_wp2_with fail
     go_meet
     exact⟨_,rfl,rfl,Lib.hid ⟨_,_,_,HY.out⟩⟩
   case rest=>
    obtain⟨yb,rfl,rfl,HYX⟩:=hcut
    obtain⟨ya,yb',yc,hy⟩:=HYX.out
    have hyl:=hy.lrn
    obtain⟨Ay1,cy1,Ay2,cy2,Ay3,cy3,hyv,-⟩:=hyl.parts
    simp only[Value.agg.injEq,Array.mk.injEq,List.cons.injEq,and_true,true_and]at hyv
    obtain⟨rfl,rfl,rfl⟩:=hyv
    obtain⟨y0,y1,y2,y3,y4⟩:=(cells5 hy.box).1
    have h10:=HL.out.below hy.hb
    have hfew:=HG.out.sr.st.sim.few HG.out.sr.st.vars
    have HGD:=Lib.hid (law_good _ h10 HG.out.six hfew HGF.out ((get_cls HG.out.six id).trans HCC.out) HCO.out.max hyl (by have:=HMET.out;omega))
    have HY:=Lib.hid hy
    have HYL:=Lib.hid hyl
    have H10:=Lib.hid h10
    clear h10 hyl hy HYX HCF e0 e1
    go_wp2_with fail
    refine HGD.out.mono ?_
    rintro e w7 ⟨rfl,hb7⟩
    have H7:=Lib.hid (H10.out.below hb7)
    have HY7:=Lib.hid (HY.out.below hb7)
    have HYL7:=Lib.hid (HYL.out.below hb7)
    clear hb7 HGD H10 HY HYL y0 y1 y2 y3 y4
    obtain⟨y0,y1,y2,y3,y4⟩:=(cells5 HY7.out.box).1
    have hlab:=HL.out.lw.sys.lt
    have hrow:=HL.out.row
    have hlen9:(cs++ls).length<900:=by
     rw[List.length_append]
     omega
    by_cases hlv:lv=0
    ·obtain⟨z1,z2,z3,z4⟩:=learn_zero HG.out.sr.st HG.out.six hlen9 HCO.out hlv
     have HLN:=Lib.hid (law_learn _ H7.out HG.out.sr.st z2 hlen9 HYL7.out hlab hsbl (fun g hg=>(own_lt hrow g hg).2) z3 _ rfl z4 (.inr z1) HG.out.sr.st.inv.link (Nat.le_trans (backed_few T y.back) hfew))
     have q0:((y.lits.length:Int)==0)=true:=by rw[z1];rfl
     have HNO:=Lib.hid (sri_none HG.out HCC.out HCO.out z1)
     clear z1 z2 z3 z4 hlv
     go_wp2_with fail
     refine HLN.out.mono ?_
     rintro e w8 ⟨rfl,⟨lab8,av8,us8,h8⟩,hk8⟩
     obtain⟨x0,-⟩:=(cells5 (HY7.out.kept hk8 (fun g hg hh=>by
      rcases hh with hh|hh|hh
      ·have:=hlab g hh
       omega
      ·omega
      ·have:=(own_lt hrow g hh).2
       omega)).1).1
     have HBF:=Lib.hid (HB2.out.trans (h8.lw.hb.mono HB2.out.size))
     have HPO:=Lib.hid (law_possible _ cs w8 (HCI.out.below h8.lw.hb) (lits_ok h6) (by omega) HNO.out)
     clear h8 hk8 hlab hrow y0 y1 y2 y3 y4 HLN
     go_wp2_with fail
     refine HPO.out.mono ?_
     rintro e w9 ⟨rfl,hb9⟩
     have HBG:=Lib.hid (HBF.out.trans (hb9.mono HBF.out.size))
     clear hb9
     go_wp2_with fail
     go_ret
     exact⟨rfl,HBG.out⟩
    ·obtain⟨its1,l0,ho⟩:=sr_learn HG.out.sr HNID.out HG.out.six hlen9 HCC.out HCO.out hlv
     obtain⟨W,hW⟩: ∃W,addW (addAll arn0 0 (cs++ls++ [y.lits])) (T.backed y.back) (backS T S y.back) (((cs++ls).length:Int)+1)=W:=⟨_,rfl⟩
     rw[hW]at ho
     have HLN:=Lib.hid (law_learn _ H7.out HG.out.sr.st ho.six hlen9 HYL7.out hlab hsbl (fun g hg=>(own_lt hrow g hg).2) ho.berr W hW ho.err (.inl ho.res) HG.out.sr.st.inv.link (Nat.le_trans (backed_few T y.back) hfew))
     obtain⟨its2,hsi,hsid⟩:=sri_learn HG.out HNID.out hlv HCC.out HCO.out ho
     have HSI2:=Lib.hid hsi
     have HSID:=Lib.hid hsid
     have q0:((y.lits.length:Int)==0)=false:=by
      obtain⟨rr,hrr⟩:=ho.head
      rw[hrr]
      simp
      omega
     have HOS:=Lib.hid (show Sim W.T _∧W.T.vars.length=7∧W.S.Link from⟨ho.st.sim,ho.st.vars,ho.st.inv.link⟩)
     clear ho hlv hW hsi hsid
     go_wp2_with fail
     refine HLN.out.mono ?_
     rintro e w8 ⟨rfl,⟨lab8,av8,us8,h8⟩,hk8⟩
     obtain⟨x0,-⟩:=(cells5 (HY7.out.kept hk8 (fun g hg hh=>by
      rcases hh with hh|hh|hh
      ·have:=hlab g hh
       omega
      ·omega
      ·have:=(own_lt hrow g hh).2
       omega)).1).1
     rw[List.append_assoc]at h8
     have H8:=Lib.hid h8
     obtain⟨-,-,e2,-⟩:=h8.cells
     have hpr:=lw_prop h8.lw HOS.out.2.2 ⟨_,HOS.out.1⟩ (by rw[HOS.out.2.1];decide)
     obtain⟨RR,hRR⟩: ∃RR,propW (addAll arn0 0 (cs++(ls++ [y.lits]))) W.T W.S=RR:=⟨_,rfl⟩
     have hsi:=HSI2.out
     have hsid:=HSID.out
     rw[hRR]at hpr hsi hsid
     obtain⟨R1,R2,r,rfl⟩: ∃R1 R2 r,RR=(R1,R2,r):=⟨RR.1,RR.2.1,RR.2.2,rfl⟩
     simp only at hpr hsi hsid
     have hfr:(r.isSome==(r.getD 0 != 0))=true:=by
      cases r with
      | none=>rfl
      | some x=>
       have:=hsid x rfl
       have e:(x != 0)=true:=by simp;omega
       show(true==(x != 0))=true
       rw[e]
       rfl
     obtain⟨rs,hrs⟩: ∃rs,r.isSome=rs:=⟨_,rfl⟩
     obtain⟨rg,hrg⟩: ∃rg,r.getD 0=rg:=⟨_,rfl⟩
     rw[hrs,hrg]at hpr hfr
     rw[hrg]at hsi
     have hfr2:(!(rs==(rg != 0)))=false:=by
      rw[hfr]
      rfl
     have HPR:=Lib.hid hpr
     have HSI3:=Lib.hid hsi
     clear h8 hk8 hlab hrow y0 y1 y2 y3 y4 HLN hpr hsi hsid hRR hrs hrg hfr HSI2 HSID
     go_wp2_with fail
     refine HPR.out.mono ?_
     rintro e w9 ⟨rfl,hn9⟩
     obtain⟨lab9,h9⟩:=H8.out.next hn9
     have H9:=Lib.hid h9
     clear h9 hn9 HPR x0 e2
     go_wp2_with fail
     go_roundw
     case rel=>exact⟨n+1,rg,ls++ [y.lits],lab9,av8,us8,R1,its2,R2,rfl,rfl,by go_num,H9,HSI3⟩
     case measure=>simp[intOf];omega
end Go.Proofs.YtoojmhjagipmdaaGreat
