/- MinimFollows: the walk. -/
import Derived.Test.YtoojmhjagipmdaaGreatV234
import Derived.Test.YtoojmhjagipmdaaGreatV235
namespace Go.Proofs.YtoojmhjagipmdaaGreat
open Go.RowKit
set_option maxRecDepth 100000 in
set_option maxHeartbeats 8000000 in
theorem mfollows_any (v0 v1:Value) (x:List (List Int)) (l:List Int) (w:World) (h0:RowsAt .i8 w v0 x) (h1:RowAt .i8 w v1 l):
  Calls Tryz.prog 9 #[v0,v1] w fun e w'=>e= .returned (.bool true)∧Below w.heap.size w w':=by
 obtain⟨cs,hcs⟩: ∃cs,(x.take 14).map madeL=cs:=⟨_,rfl⟩
 have h6:Six cs:=by rw[←hcs];exact six_made x 14 (by decide)
 have H0:=Lib.hid h0
 have H1:=Lib.hid h1
 have HCS:=Lib.hid hcs
 obtain⟨A0,c0,rfl,_⟩:=h0
 obtain⟨A1,c1,rfl,hc1,hm1,hn1,hwf1,hx1⟩:=h1
 clear hcs hwf1 hx1 hn1
 go_enter Tryz.func9,Tryz.ntmps9
 go_wp2_with fail
 refine(awake15_any w).mono ?_
 rintro e w1 ⟨rfl,hb1⟩
 have HB1:=Lib.hid hb1
 have HCN:=Lib.hid (law_conflict15 _ _ x l cs w1 (H0.out.below hb1) (H1.out.below hb1) HCS.out h6)
 clear hb1
 go_wp2_with fail
 refine HCN.out.mono ?_
 rintro e wc ⟨w2,sb,b,a,t,labr,T,its,S,id,av,us,rfl,hb2,hl,hg⟩
 have HB2:=Lib.hid (HB1.out.trans (hb2.mono HB1.out.size))
 have HL:=Lib.hid hl
 have HG:=Lib.hid hg
 have HBW:=Lib.hid (HB2.out.trans (HL.out.lw.hb.mono HB2.out.size))
 clear hb2 hl hg HCN
 by_cases hid:id=0
 ·have qz:(id==0)=true:=by simpa using hid
  clear hid
  go_wp2_with fail
  go_ret
  exact⟨rfl,HBW.out⟩
 ·have qz:(id==0)=false:=by simpa using hid
  obtain⟨c,hcc,hcf⟩:=HG.out.bad hid
  obtain⟨x0,lv,R0,K0,y,R,K,hc0,ho0,hcp,hco,hmy,hsub,hhd⟩:=min_law HG.out.st.sim HG.out.st.inv.rs (fun j=>get_cls h6 j) HG.out.dcs hcc (h6.fit.right hcc) hcf
  have HCO:=Lib.hid hco
  have HCO0:=Lib.hid ho0
  have HSUB:=Lib.hid hsub
  have HHD:=Lib.hid hhd
  have HMY:=Lib.hid hmy
  have HCC:=Lib.hid hcc
  have HNID:=Lib.hid hid
  have hfew:=HG.out.st.sim.few HG.out.st.vars
  obtain⟨f,hgf⟩:=good_facts HG.out.st.sim HG.out.st.vars h6 hcc hco
  obtain⟨f0,hgf0⟩:=good_facts HG.out.st.sim HG.out.st.vars h6 hcc ho0
  have HGF:=Lib.hid hgf
  have HGF0:=Lib.hid hgf0
  have HMET:=Lib.hid (show y.met.length≤T.order.length from by rw[hmy];exact conf_met hc0)
  have HCF0:=Lib.hid (fun W (hb:Below wc.heap.size wc W)=>an_conflict a t (addAll arn0 0 cs) T id W (HL.out.below hb).lw.sys.ar (HL.out.below hb).lw.sys.tr)
  rw[hc0]at HCF0
  obtain⟨e0,e1,-,-⟩:=HL.out.cells
  have hsbl:=HL.out.sblt
  have HCP:=Lib.hid hcp
  clear hcc hcf hcp hco ho0 hc0 hgf hgf0 hid hsub hhd hmy
  go_upto_region 6 with fail
  go_cut [8,9] (fun yp ev wx=> ∃yb,yp= .pointer (some ⟨yb,0,none⟩)∧ev= .int .i64 0∧Hid (∃ya yb' yc,YAt wc wx yb x0 ya yb' yc))
  case first=>
   refine wp_region_held_drew (S:=fun w'=>Below wc.heap.size wc w') (by kernel_rfl) (mx_drew wc) (fun hS=>?_)
   obtain⟨xD,hxD⟩: ∃z,wc.drew=z:=⟨_,rfl⟩
   rw[hxD]at hS⊢
   clear hxD
   refine takeE 0 29 ?_
   refine takeE 1 30 ?_
   refine takeE 2 31 ?_
   refine takeF 3 32 (fun wq hSw=>(hSw.cell (p:=⟨sb,0,none⟩) hsbl).trans e0) ?_
   refine takeE 4 33 ?_
   refine takeE 5 34 ?_
   refine takeE 6 35 ?_
   refine takeF 7 36 (fun wq hSw=>(hSw.cell (p:=⟨sb,1,none⟩) hsbl).trans e1) ?_
   refine takeE 8 37 ?_
   refine wpAnyH_ready (rs:= [9,13]) (by kernel_rfl) (by simp) ?_
   refine AllReadyH.cons rfl (fun K hK=>?_) (AllReadyH.cons rfl (fun K hK=>?_) AllReadyH.nil)
   ·go_simp
    refine(HCF0.out _ hS).mono ?_
    rintro e w4 ⟨⟨v,rfl,hlr⟩,hbN⟩
    have hlr:=hlr.mono hS.size
    have hSN:=hS.trans (hbN.mono hS.size)
    have HLR:=Lib.hid hlr
    obtain⟨Ay1,cy1,Ay2,cy2,Ay3,cy3,rfl,-⟩:=hlr.parts
    clear hlr
    refine hK.out _ _ hSN (fun _=>?_)
    clear hK hbN hS
    have hS:=hSN
    clear hSN
    refine takeE 10 28 ?_
    refine takeE 11 39 ?_
    refine takeE 12 40 ?_
    refine ready1 13 (fun K hK=>?_)
    go_simp
    obtain⟨w5,hw5⟩: ∃z,w4.alloc (.cells #[.slice none 0 0,.int .i64 0,.int .i64 0,.slice none 0 0,.slice none 0 0] 65)=z:=⟨_,rfl⟩
    have hb5:Below w4.heap.size w4 w5:=by rw[←hw5];exact mx_al _ _
    have hbk:w5.heap[w4.heap.size]? =some (.cells #[.slice none 0 0,.int .i64 0,.int .i64 0,.slice none 0 0,.slice none 0 0] 65 (0,0)):=by rw[←hw5];exact World.alloc_heap_new _ _
    rw[hw5]
    have hS5:=hS.trans (hb5.mono hS.size)
    refine hK.out _ _ hS5 (fun _=>?_)
    clear hK
    obtain⟨y0,y1,y2,y3,y4⟩:=(cells5 hbk).1
    have f0:=mx_free (j:=0) hbk
    have f1:=mx_free (j:=1) hbk
    have f2:=mx_free (j:=2) hbk
    have f3:=mx_free (j:=3) hbk
    have f4:=mx_free (j:=4) hbk
    refine ready1 14 (fun K hK=>?_)
    go_simp
    obtain⟨wy,hwy,hby,hky⟩:=five_set hbk (.slice Ay1 x0.lits.length cy1) (.int .i64 x0.back) (.int .i64 x0.levels) (.slice Ay2 x0.hints.length cy2) (.slice Ay3 x0.met.length cy3)
    rw[hwy]
    have hSy:=hS5.trans (hky.below (fun i h=>by rw[h];exact hS.size) hS5.size)
    have HY:=Lib.hid (show YAt wc wy w4.heap.size x0 (.slice Ay1 x0.lits.length cy1) (.slice Ay2 x0.hints.length cy2) (.slice Ay3 x0.met.length cy3)from⟨hby,HLR.out.below (hb5.trans (hky.below (fun i h=>Nat.le_of_eq h.symm) hb5.size)),hSy,hS.size⟩)
    refine hK.out _ _ hSy (fun _=>?_)
    clear hK hwy hby hky hb5 hbk y0 y1 y2 y3 y4 f0 f1 f2 f3 f4
    refine takeE 15 9 ?_
    refine wpAnyH_done (by kernel_rfl) ?_ _
    go_wp2_with fail
    go_meet
    exact⟨_,rfl,rfl,Lib.hid ⟨_,_,_,HY.out⟩⟩
   ·go_simp
    obtain⟨w5,hw5⟩: ∃z,xD.alloc (.cells #[.slice none 0 0,.int .i64 0,.int .i64 0,.slice none 0 0,.slice none 0 0] 65)=z:=⟨_,rfl⟩
    have hb5:Below xD.heap.size xD w5:=by rw[←hw5];exact mx_al _ _
    have hbk:w5.heap[xD.heap.size]? =some (.cells #[.slice none 0 0,.int .i64 0,.int .i64 0,.slice none 0 0,.slice none 0 0] 65 (0,0)):=by rw[←hw5];exact World.alloc_heap_new _ _
    have hlt5:=heap_lt hbk
    have hxle:=hS.size
    rw[hw5]
    have hS5:=hS.trans (hb5.mono hS.size)
    refine hK.out _ _ hS5 (fun _=>?_)
    clear hK hS hw5
    refine ready1 9 (fun K hK=>?_)
    go_simp
    refine(HCF0.out _ hS5).mono ?_
    rintro e w4 ⟨⟨v,rfl,hlr⟩,hbN⟩
    have hSN:=hS5.trans (hbN.mono hS5.size)
    have HLR:=Lib.hid hlr
    obtain⟨Ay1,cy1,Ay2,cy2,Ay3,cy3,rfl,-⟩:=hlr.parts
    clear hlr
    refine hK.out _ _ hSN (fun _=>?_)
    have hbk4:=(hbN.block _ hlt5).trans hbk
    clear hK hbN
    refine takeE 10 28 ?_
    refine takeE 11 39 ?_
    refine takeE 12 40 ?_
    obtain⟨y0,y1,y2,y3,y4⟩:=(cells5 hbk4).1
    have f0:=mx_free (j:=0) hbk4
    have f1:=mx_free (j:=1) hbk4
    have f2:=mx_free (j:=2) hbk4
    have f3:=mx_free (j:=3) hbk4
    have f4:=mx_free (j:=4) hbk4
    refine ready1 14 (fun K hK=>?_)
    go_simp
    obtain⟨wy,hwy,hby,hky⟩:=five_set hbk4 (.slice Ay1 x0.lits.length cy1) (.int .i64 x0.back) (.int .i64 x0.levels) (.slice Ay2 x0.hints.length cy2) (.slice Ay3 x0.met.length cy3)
    rw[hwy]
    have hSy:=hSN.trans (hky.below (fun i h=>by rw[h];exact hxle) hSN.size)
    have HY:=Lib.hid (show YAt wc wy xD.heap.size x0 (.slice Ay1 x0.lits.length cy1) (.slice Ay2 x0.hints.length cy2) (.slice Ay3 x0.met.length cy3)from⟨hby,(HLR.out.kept hky (fun g hg e=>by omega)).mono hS5.size,hSy,hxle⟩)
    refine hK.out _ _ hSy (fun _=>?_)
    clear hK hwy hby hky hb5 hbk hbk4 y0 y1 y2 y3 y4 f0 f1 f2 f3 f4
    refine takeE 15 9 ?_
    refine wpAnyH_done (by kernel_rfl) ?_ _
    go_wp2_with fail
    go_meet
    exact⟨_,rfl,rfl,Lib.hid ⟨_,_,_,HY.out⟩⟩
  case rest=>
   obtain⟨zb,rfl,rfl,HZX⟩:=hcut
   obtain⟨za,zb',zc,hz⟩:=HZX.out
   have hzl:=hz.lrn
   obtain⟨Az1,cz1,Az2,cz2,Az3,cz3,hzv,-⟩:=hzl.parts
   simp only[Value.agg.injEq,Array.mk.injEq,List.cons.injEq,and_true,true_and]at hzv
   obtain⟨rfl,rfl,rfl⟩:=hzv
   have HLB:=Lib.hid (HL.out.below hz.hb)
   have HCF:=Lib.hid (fun W (hb:Below wc.heap.size wc W)=>mn_conflict a t (addAll arn0 0 cs) T its id W HG.out.st.sim (by have h2:=congrArg List.length HG.out.st.sim.order;rw[List.length_map]at h2;omega) (HLB.out.below hb).lw.sys.ar (HLB.out.below hb).lw.sys.tr)
   rw[HCP.out]at HCF
   have HZ:=Lib.hid hz
   clear hz hzl HZX HCF0 e0 e1 hsbl HCP
   obtain⟨e0,e1,-,-⟩:=HLB.out.cells
   have hsbl:=HLB.out.sblt
   go_upto_region 7 with fail
   go_cut [10,11] (fun yp ev wx=> ∃yb,yp= .pointer (some ⟨yb,0,none⟩)∧ev= .int .i64 0∧Hid (∃ya yb' yc,YAt wc wx yb y ya yb' yc))
   case first=>
    refine wp_region_held_drew (S:=fun w'=>Below wc.heap.size wc w') (by kernel_rfl) (mx_drew wc) (fun hS=>?_)
    obtain⟨xD,hxD⟩: ∃z,wc.drew=z:=⟨_,rfl⟩
    rw[hxD]at hS⊢
    clear hxD
    refine takeE 0 42 ?_
    refine takeE 1 43 ?_
    refine takeE 2 44 ?_
    refine takeF 3 45 (fun wq hSw=>(hSw.cell (p:=⟨sb,0,none⟩) hsbl).trans e0) ?_
    refine takeE 4 46 ?_
    refine takeE 5 47 ?_
    refine takeE 6 48 ?_
    refine takeF 7 49 (fun wq hSw=>(hSw.cell (p:=⟨sb,1,none⟩) hsbl).trans e1) ?_
    refine takeE 8 50 ?_
    refine wpAnyH_ready (rs:= [9,13]) (by kernel_rfl) (by simp) ?_
    refine AllReadyH.cons rfl (fun K hK=>?_) (AllReadyH.cons rfl (fun K hK=>?_) AllReadyH.nil)
    ·go_simp
     refine(HCF.out _ hS).mono ?_
     rintro e w4 ⟨⟨v,rfl,hlr⟩,hbN⟩
     have hlr:=hlr.mono hS.size
     have hSN:=hS.trans (hbN.mono hS.size)
     have HLR:=Lib.hid hlr
     obtain⟨Ay1,cy1,Ay2,cy2,Ay3,cy3,rfl,-⟩:=hlr.parts
     clear hlr
     refine hK.out _ _ hSN (fun _=>?_)
     clear hK hbN hS
     have hS:=hSN
     clear hSN
     refine takeE 10 41 ?_
     refine takeE 11 52 ?_
     refine takeE 12 53 ?_
     refine ready1 13 (fun K hK=>?_)
     go_simp
     obtain⟨w5,hw5⟩: ∃z,w4.alloc (.cells #[.slice none 0 0,.int .i64 0,.int .i64 0,.slice none 0 0,.slice none 0 0] 65)=z:=⟨_,rfl⟩
     have hb5:Below w4.heap.size w4 w5:=by rw[←hw5];exact mx_al _ _
     have hbk:w5.heap[w4.heap.size]? =some (.cells #[.slice none 0 0,.int .i64 0,.int .i64 0,.slice none 0 0,.slice none 0 0] 65 (0,0)):=by rw[←hw5];exact World.alloc_heap_new _ _
     rw[hw5]
     have hS5:=hS.trans (hb5.mono hS.size)
     refine hK.out _ _ hS5 (fun _=>?_)
     clear hK
     obtain⟨y0,y1,y2,y3,y4⟩:=(cells5 hbk).1
     have f0:=mx_free (j:=0) hbk
     have f1:=mx_free (j:=1) hbk
     have f2:=mx_free (j:=2) hbk
     have f3:=mx_free (j:=3) hbk
     have f4:=mx_free (j:=4) hbk
     refine ready1 14 (fun K hK=>?_)
     go_simp
     obtain⟨wy,hwy,hby,hky⟩:=five_set hbk (.slice Ay1 y.lits.length cy1) (.int .i64 y.back) (.int .i64 y.levels) (.slice Ay2 y.hints.length cy2) (.slice Ay3 y.met.length cy3)
     rw[hwy]
     have hSy:=hS5.trans (hky.below (fun i h=>by rw[h];exact hS.size) hS5.size)
     have HY:=Lib.hid (show YAt wc wy w4.heap.size y (.slice Ay1 y.lits.length cy1) (.slice Ay2 y.hints.length cy2) (.slice Ay3 y.met.length cy3)from⟨hby,HLR.out.below (hb5.trans (hky.below (fun i h=>Nat.le_of_eq h.symm) hb5.size)),hSy,hS.size⟩)
     refine hK.out _ _ hSy (fun _=>?_)
     clear hK hwy hby hky hb5 hbk y0 y1 y2 y3 y4 f0 f1 f2 f3 f4
     refine takeE 15 11 ?_
     refine wpAnyH_done (by kernel_rfl) ?_ _
     go_wp2_with fail
     go_meet
     exact⟨_,rfl,rfl,Lib.hid ⟨_,_,_,HY.out⟩⟩
    ·go_simp
     obtain⟨w5,hw5⟩: ∃z,xD.alloc (.cells #[.slice none 0 0,.int .i64 0,.int .i64 0,.slice none 0 0,.slice none 0 0] 65)=z:=⟨_,rfl⟩
     have hb5:Below xD.heap.size xD w5:=by rw[←hw5];exact mx_al _ _
     have hbk:w5.heap[xD.heap.size]? =some (.cells #[.slice none 0 0,.int .i64 0,.int .i64 0,.slice none 0 0,.slice none 0 0] 65 (0,0)):=by rw[←hw5];exact World.alloc_heap_new _ _
     have hlt5:=heap_lt hbk
     have hxle:=hS.size
     rw[hw5]
     have hS5:=hS.trans (hb5.mono hS.size)
     refine hK.out _ _ hS5 (fun _=>?_)
     clear hK hS hw5
     refine ready1 9 (fun K hK=>?_)
     go_simp
     refine(HCF.out _ hS5).mono ?_
     rintro e w4 ⟨⟨v,rfl,hlr⟩,hbN⟩
     have hSN:=hS5.trans (hbN.mono hS5.size)
     have HLR:=Lib.hid hlr
     obtain⟨Ay1,cy1,Ay2,cy2,Ay3,cy3,rfl,-⟩:=hlr.parts
     clear hlr
     refine hK.out _ _ hSN (fun _=>?_)
     have hbk4:=(hbN.block _ hlt5).trans hbk
     clear hK hbN
     refine takeE 10 41 ?_
     refine takeE 11 52 ?_
     refine takeE 12 53 ?_
     obtain⟨y0,y1,y2,y3,y4⟩:=(cells5 hbk4).1
     have f0:=mx_free (j:=0) hbk4
     have f1:=mx_free (j:=1) hbk4
     have f2:=mx_free (j:=2) hbk4
     have f3:=mx_free (j:=3) hbk4
     have f4:=mx_free (j:=4) hbk4
     refine ready1 14 (fun K hK=>?_)
     go_simp
     obtain⟨wy,hwy,hby,hky⟩:=five_set hbk4 (.slice Ay1 y.lits.length cy1) (.int .i64 y.back) (.int .i64 y.levels) (.slice Ay2 y.hints.length cy2) (.slice Ay3 y.met.length cy3)
     rw[hwy]
     have hSy:=hSN.trans (hky.below (fun i h=>by rw[h];exact hxle) hSN.size)
     have HY:=Lib.hid (show YAt wc wy xD.heap.size y (.slice Ay1 y.lits.length cy1) (.slice Ay2 y.hints.length cy2) (.slice Ay3 y.met.length cy3)from⟨hby,(HLR.out.kept hky (fun g hg e=>by omega)).mono hS5.size,hSy,hxle⟩)
     refine hK.out _ _ hSy (fun _=>?_)
     clear hK hwy hby hky hb5 hbk hbk4 y0 y1 y2 y3 y4 f0 f1 f2 f3 f4
     refine takeE 15 11 ?_
     refine wpAnyH_done (by kernel_rfl) ?_ _
     go_wp2_with fail
     go_meet
     exact⟨_,rfl,rfl,Lib.hid ⟨_,_,_,HY.out⟩⟩
   case rest=>
    obtain⟨yb,rfl,rfl,HYX⟩:=hcut
    obtain⟨ya,yb',yc,hy⟩:=HYX.out
    have hyl:=hy.lrn
    obtain⟨Ay1,cy1,Ay2,cy2,Ay3,cy3,hyv,-⟩:=hyl.parts
    simp only[Value.agg.injEq,Array.mk.injEq,List.cons.injEq,and_true,true_and]at hyv
    obtain⟨rfl,rfl,rfl⟩:=hyv
    have hz:=HZ.out.below hy.hb
    have h10:=HLB.out.below hy.hb
    have HGD:=Lib.hid (fun W (hb:Below wc.heap.size wc W)=>law_good _ (h10.below hb) h6 hfew HGF.out ((get_cls h6 id).trans HCC.out) HCO.out.max (hyl.below hb) (by have:=HMET.out;omega))
    have hwi: ∀W,Below wc.heap.size wc W→Calls Tryz.prog 26 #[.slice Ay1 y.lits.length cy1,.slice Az1 x0.lits.length cz1] W fun e w'=>e= .returned (.bool true)∧Below W.heap.size W w':=fun W hb=>by
     obtain⟨_,_,_,_,_,_,ev,hyi,_,hym⟩:=hyl.parts
     obtain⟨_,_,_,_,_,_,ez,hzi,_,hzm⟩:=hz.lrn.parts
     simp only[Value.agg.injEq,Array.mk.injEq,List.cons.injEq,and_true,true_and]at ev ez
     rw[ev.1,ez.1]
     exact within_yes _ _ y.lits x0.lits W (hyi W hb) (hzi W hb) HGF.out.litb HGF0.out.litb (fun z hz=>HSUB.out.subset hz)
    have HWI:=Lib.hid hwi
    clear hwi
    obtain⟨y0,y1,y2,y3,y4⟩:=(cells5 hy.box).1
    obtain⟨z0,z1,z2,z3,z4⟩:=(cells5 hz.box).1
    have HY:=Lib.hid hy
    have HZ2:=Lib.hid hz
    have H10:=Lib.hid h10
    have hylt:=heap_lt hy.box
    have hzlt:=heap_lt hz.box
    have hyz:yb≠zb:=by
     have:=hy.le
     have:=heap_lt HZ.out.box
     omega
    have hseq: ∀W,Below wc.heap.size wc W→Calls Tryz.prog 46 #[.slice Ay3 y.met.length cy3,.slice Az3 x0.met.length cz3] W fun e w'=>e= .returned (.bool true)∧∃n,w'=W.drewN n:=fun W hb=>by
     obtain⟨_,_,_,_,_,_,ev,_,_,hym⟩:=HY.out.lrn.parts
     obtain⟨_,_,_,_,_,_,ez,_,_,hzm⟩:=HZ2.out.lrn.parts
     simp only[Value.agg.injEq,Array.mk.injEq,List.cons.injEq,and_true,true_and]at ev ez
     rw[ev.2.2,ez.2.2]
     have hml:y.met.length≤140737488355328:=by have:=HMET.out;have:=hfew;omega
     have he:=eq_i _ _ y.met x0.met W (hym W hb) (hzm W hb) hml
     have ht:(y.met==x0.met)=true:=by rw[HMY.out];simp
     rw[ht]at he
     exact he
    have HSEQ:=Lib.hid hseq
    have hle1:y.lits.length≤x0.lits.length:=HSUB.out.length_le
    have hle2:=back_le HCO0.out HCO.out HG.out.st.sim HSUB.out
    have hle3:y.levels≤x0.levels:=by
     rw[HCO.out.levels,HCO0.out.levels]
     exact levelsOf_le T (fun z hz=>HSUB.out.subset hz) HGF0.out.litb
    have q1:decide ((x0.lits.length:Int)<(y.lits.length:Int))=false:=decide_eq_false (by omega)
    have q1n:decide (x0.lits.length<y.lits.length)=false:=decide_eq_false (by omega)
    have q2:decide (x0.back<y.back)=false:=decide_eq_false (by omega)
    have q3:decide (x0.levels<y.levels)=false:=decide_eq_false (by omega)
    have HPY:=Lib.hid (show IntsIn (fun _=>True) wc (.slice Ay1 y.lits.length cy1) y.lits from by
     obtain⟨_,_,_,_,_,_,ev,hyi,_,_⟩:=HY.out.lrn.parts
     simp only[Value.agg.injEq,Array.mk.injEq,List.cons.injEq,and_true,true_and]at ev
     rw[ev.1]
     exact(hyi wc (Below.refl _ _)).mono (fun _ _=>trivial))
    have HPZ:=Lib.hid (show IntsIn (fun _=>True) wc (.slice Az1 x0.lits.length cz1) x0.lits from by
     obtain⟨_,_,_,_,_,_,ez,hzi,_,_⟩:=HZ2.out.lrn.parts
     simp only[Value.agg.injEq,Array.mk.injEq,List.cons.injEq,and_true,true_and]at ez
     rw[ez.1]
     exact(hzi wc (Below.refl _ _)).mono (fun _ _=>trivial))
    have q8:(0:Int)+0=0:=rfl
    clear hyl hy hz h10 HYX HCF e0 e1 HZ hseq hle1 hle2 hle3
    go_upto_region 8 with fail
    go_cut [126] (fun q wx=>q= .bool false∧Hid (Below wc.heap.size wc wx))
    case rest=>
     obtain⟨rfl,HBX⟩:=hcut
     have H7:=Lib.hid (H10.out.below HBX.out)
     have HY7:=Lib.hid (HY.out.below HBX.out)
     have HYL7:=Lib.hid HY7.out.lrn
     clear y0 y1 y2 y3 y4 z0 z1 z2 z3 z4 hylt hzlt q1 q1n q2 q3 q8 HPY HPZ HSEQ HWI HGD
     obtain⟨y0,y1,y2,y3,y4⟩:=(cells5 HY7.out.box).1
     have hlab:=HLB.out.lw.sys.lt
     have hrow:=HLB.out.row
     have hsbl:=HLB.out.sblt
     have hlen9:cs.length<900:=by
      have h2:=HCS.out
      rw[←h2,List.length_map,List.length_take]
      omega
     have hkp: ∀w8 lab8 av8,Kept (fun g=>labr g≠0∨g=sb∨av8.ownBlock=some g) wc w8→av8=av→lab8=labr→w8.heap[yb]? =some (.cells #[.slice Ay1 y.lits.length cy1,.int .i64 y.back,.int .i64 y.levels,.slice Ay2 y.hints.length cy2,.slice Ay3 y.met.length cy3] 65 (0,0))∧LrnAt _ w8 (.agg #[.slice Ay1 y.lits.length cy1,.int .i64 y.back,.int .i64 y.levels,.slice Ay2 y.hints.length cy2,.slice Ay3 y.met.length cy3]) y:=fun w8 lab8 av8 hk e1 _=>HY7.out.kept hk (fun g hg hh=>by
      subst e1
      rcases hh with hh|hh|hh
      ·have:=hlab g hh
       omega
      ·omega
      ·have:=(own_lt hrow g hh).2
       omega)
     by_cases hlv:lv=0
     ·obtain⟨z1,z2,z3,z4⟩:=learn_zero HG.out.st h6 hlen9 HCO.out hlv
      as_aux_lemma=>
       have HLN:=Lib.hid (law_learn _ H7.out HG.out.st z2 hlen9 HYL7.out hlab hsbl (fun g hg=>(own_lt hrow g hg).2) z3 _ rfl z4 (.inr z1) HG.out.st.inv.link (Nat.le_trans (backed_few T y.back) hfew))
       have q0:((y.lits.length:Int)==0)=true:=by rw[z1];rfl
       clear z1 z2 z3 z4 hlv
       go_wp2_with fail
       refine HLN.out.mono ?_
       rintro e w8 ⟨rfl,⟨lab8,av8,us8,h8⟩,hk8⟩
       obtain⟨hbx8,-⟩:=hkp w8 labr av hk8 rfl rfl
       obtain⟨v0,-⟩:=(cells5 hbx8).1
       have hyb8:=heap_lt hbx8
       have HBF:=Lib.hid (HB2.out.trans (h8.lw.hb.mono HB2.out.size))
       clear h8 hk8 hlab hrow y0 y1 y2 y3 y4 HLN hkp hbx8
       go_upto_region 12 with fail
       refine wp_region_held_drew (S:=fun w'=>Below w8.heap.size w8 w') (by kernel_rfl) (mx_drew w8) (fun hS=>?_)
       refine takeE 0 131 ?_
       refine takeF 1 132 (fun wq hSw=>(hSw.cell (p:=⟨yb,0,none⟩) hyb8).trans v0) ?_
       refine takeE 2 133 ?_
       refine takeE 3 134 ?_
       refine takeE 4 135 ?_
       refine takeU 5 136 ?_
       refine takeU 6 137 ?_
       refine takeU 7 138 ?_
       refine takeU 8 139 ?_
       refine takeU 9 140 ?_
       refine takeU 10 141 ?_
       refine takeU 11 142 ?_
       refine takeU 12 143 ?_
       refine takeU 13 144 ?_
       refine takeU 14 145 ?_
       refine takeU 15 146 ?_
       refine takeU 16 147 ?_
       refine takeU 17 148 ?_
       refine takeU 18 149 ?_
       refine takeU 19 150 ?_
       refine takeU 20 151 ?_
       refine takeU 21 152 ?_
       refine takeU 22 153 ?_
       refine takeU 23 154 ?_
       refine takeU 24 155 ?_
       refine takeE 25 156 ?_
       refine takeE 26 4 ?_
       refine wpAnyH_done (by kernel_rfl) ?_ _
       have HBG:=Lib.hid (HBF.out.trans (hS.mono HBF.out.size))
       go_wp2_with fail
       go_ret
       exact⟨rfl,HBG.out⟩
     ·obtain⟨its1,l0,ho⟩:=sr_learn HG.out HNID.out h6 hlen9 HCC.out HCO.out hlv
      as_aux_lemma=>
       obtain⟨W,hW⟩: ∃W,addW (addAll arn0 0 (cs++ [y.lits])) (T.backed y.back) (backS T S y.back) ((cs.length:Int)+1)=W:=⟨_,rfl⟩
       rw[hW]at ho
       have HLN:=Lib.hid (law_learn _ H7.out HG.out.st ho.six hlen9 HYL7.out hlab hsbl (fun g hg=>(own_lt hrow g hg).2) ho.berr W hW ho.err (.inl ho.res) HG.out.st.inv.link (Nat.le_trans (backed_few T y.back) hfew))
       obtain⟨rr,hrr⟩:=ho.head
       have q0:((y.lits.length:Int)==0)=false:=by
        rw[hrr]
        simp
        omega
       have hl0:y.lits[0]? =some l0:=by rw[hrr];rfl
       have hlp:0<y.lits.length:=by rw[hrr];simp
       have HV1:=Lib.hid (show W.T.val l0=1 from sim_tru ho.st.sim ⟨its1.length,⟨l0,(cs.length:Int)+1,y.back⟩,by simp,rfl⟩)
       have HNW:=Lib.hid (show(W.T.starts.length:Int)-1=y.back from ho.now)
       clear ho hlv hrr hW
       go_wp2_with fail
       refine HLN.out.mono ?_
       rintro e w8 ⟨rfl,⟨lab8,av8,us8,h8⟩,hk8⟩
       obtain⟨hbx8,hyl8⟩:=hkp w8 labr av hk8 rfl rfl
       obtain⟨v0,v1,-,-,-⟩:=(cells5 hbx8).1
       obtain⟨-,e1,-,-⟩:=h8.cells
       have hsb8:=h8.sblt
       have hyb8:=heap_lt hbx8
       have H8:=Lib.hid h8
       obtain⟨A3,c3,hAc,_,_,hxc⟩:=hyl8.ints (Below.refl _ _)
       simp only[Value.slice.injEq]at hAc
       obtain⟨rfl,-,rfl⟩:=hAc
       obtain⟨gx,ox,rfl,hgx,_,d0⟩:=hxc 0 l0 hl0
       have HVA:=Lib.hid (fun(Wd:World) (hb:Below w8.heap.size w8 Wd)=>tr_value t W.T l0 Wd (H8.out.below hb).lw.sys.tr)
       have HTN:=Lib.hid (fun(Wd:World) (hb:Below w8.heap.size w8 Wd)=>tr_now t W.T Wd (H8.out.below hb).lw.sys.tr)
       rw[HV1.out]at HVA
       rw[HNW.out]at HTN
       have hq0:(0:Int)<(y.lits.length:Int):=by omega
       have d0z:w8.cell? ⟨gx,ox,none⟩=some (.int .i64 l0):=by simpa using d0
       clear hxc h8 hk8 hlab hrow y0 y1 y2 y3 y4 HLN hkp hbx8 hyl8 d0
       go_upto_region 12 with fail
       refine wp_region_held_drew (S:=fun w'=>Below w8.heap.size w8 w') (by kernel_rfl) (mx_drew w8) (fun hS=>?_)
       refine takeE 0 131 ?_
       refine takeF 1 132 (fun wq hSw=>(hSw.cell (p:=⟨yb,0,none⟩) hyb8).trans v0) ?_
       refine takeE 2 133 ?_
       refine takeE 3 134 ?_
       refine takeE 4 135 ?_
       refine takeE 5 136 ?_
       refine takeE 6 137 ?_
       refine takeE 7 138 ?_
       refine takeF 8 139 (fun wq hSw=>(hSw.cell (p:=⟨sb,1,none⟩) hsb8).trans e1) ?_
       refine takeE 9 140 ?_
       refine takeF 10 141 (fun wq hSw=>(hSw.cell (p:=⟨yb,0,none⟩) hyb8).trans v0) ?_
       refine takeE 11 142 ?_
       refine takeF 12 143 (fun wq hSw=>(hSw.cell (p:=⟨gx,ox,none⟩) hgx).trans d0z) ?_
       refine ready1 13 (fun K hK=>?_)
       go_simp
       refine(HVA.out _ hS).mono ?_
       rintro e w11 ⟨rfl,hbN⟩
       have hSN:=hS.trans (hbN.mono hS.size)
       refine hK.out _ _ hSN (fun _=>?_)
       clear hK hbN hS
       have hS:=hSN
       clear hSN
       refine takeE 14 145 ?_
       refine takeE 15 146 ?_
       refine takeE 16 147 ?_
       refine takeE 17 148 ?_
       refine takeE 18 149 ?_
       refine takeF 19 150 (fun wq hSw=>(hSw.cell (p:=⟨sb,1,none⟩) hsb8).trans e1) ?_
       refine takeE 21 152 ?_
       refine takeF 22 153 (fun wq hSw=>(hSw.cell (p:=⟨yb,1,none⟩) hyb8).trans v1) ?_
       refine ready1 20 (fun K hK=>?_)
       go_simp
       refine(HTN.out _ hS).mono ?_
       rintro e w' ⟨rfl,rfl⟩
       refine hK.out _ _ hS (fun _=>?_)
       clear hK
       refine takeE 23 154 ?_
       refine takeE 24 155 ?_
       refine takeE 25 156 ?_
       refine takeE 26 4 ?_
       refine wpAnyH_done (by kernel_rfl) ?_ _
       have HBF:=Lib.hid (HB2.out.trans ((H8.out.below hS).lw.hb.mono HB2.out.size))
       go_wp2_with fail
       go_ret
       exact⟨by simp,HBF.out⟩
    as_aux_lemma=>
     refine wp_region_held_drew (S:=fun w'=>Below wc.heap.size wc w') (by kernel_rfl) (mx_drew wc) (fun hS=>?_)
     obtain⟨xD,hxD⟩: ∃z,wc.drew=z:=⟨_,rfl⟩
     rw[hxD]at hS⊢
     clear hxD
     refine takeE 0 54 ?_
     refine takeE 1 55 ?_
     refine takeE 2 56 ?_
     refine takeE 3 57 ?_
     refine takeE 4 58 ?_
     refine takeE 5 59 ?_
     refine takeE 6 60 ?_
     obtain⟨u0,u1,u2,u3,u4⟩:=(cells5 (HY.out.below (hS.mono (Nat.le_refl _))).box).1
     refine ready1 7 (fun K hK=>?_)
     go_simp
     refine hK.out _ _ hS (fun _=>?_)
     clear hK
     refine ready1 8 (fun K hK=>?_)
     go_simp
     refine(HGD.out _ hS).mono ?_
     rintro e w4 ⟨rfl,hb4⟩
     have hS4:=hS.trans (hb4.mono hS.size)
     refine hK.out _ _ hS4 (fun _=>?_)
     clear hK hb4 hS u0 u1 u2 u3 u4
     refine takeE 9 63 ?_
     refine takeE 10 64 ?_
     refine takeE 11 65 ?_
     refine takeE 12 66 ?_
     refine takeF 13 67 (fun wq hSw=>(hSw.cell (p:=⟨yb,0,none⟩) hylt).trans y0) ?_
     refine takeE 14 68 ?_
     refine takeF 15 69 (fun wq hSw=>(hSw.cell (p:=⟨zb,0,none⟩) hzlt).trans z0) ?_
     refine ready1 16 (fun K hK=>?_)
     go_simp
     refine(HWI.out _ hS4).mono ?_
     rintro e w5 ⟨rfl,hb5⟩
     have hS5:=hS4.trans (hb5.mono hS4.size)
     refine hK.out _ _ hS5 (fun _=>?_)
     clear hK hb5 hS4
     refine takeE 17 71 ?_
     refine takeE 18 72 ?_
     refine takeE 19 73 ?_
     refine takeE 20 74 ?_
     refine takeF 21 75 (fun wq hSw=>(hSw.cell (p:=⟨yb,0,none⟩) hylt).trans y0) ?_
     refine takeE 22 76 ?_
     refine takeE 23 77 ?_
     refine takeF 24 78 (fun wq hSw=>(hSw.cell (p:=⟨zb,0,none⟩) hzlt).trans z0) ?_
     refine takeE 25 79 ?_
     refine takeE 26 80 ?_
     refine takeE 27 81 ?_
     refine takeE 28 82 ?_
     refine takeE 29 83 ?_
     refine takeF 30 84 (fun wq hSw=>(hSw.cell (p:=⟨yb,1,none⟩) hylt).trans y1) ?_
     refine takeE 31 85 ?_
     refine takeF 32 86 (fun wq hSw=>(hSw.cell (p:=⟨zb,1,none⟩) hzlt).trans z1) ?_
     refine takeE 33 87 ?_
     refine takeE 34 88 ?_
     refine takeE 35 89 ?_
     refine takeE 36 90 ?_
     refine takeF 37 91 (fun wq hSw=>(hSw.cell (p:=⟨yb,2,none⟩) hylt).trans y2) ?_
     refine takeE 38 92 ?_
     refine takeF 39 93 (fun wq hSw=>(hSw.cell (p:=⟨zb,2,none⟩) hzlt).trans z2) ?_
     refine takeE 40 94 ?_
     refine takeE 41 95 ?_
     refine takeE 42 96 ?_
     refine takeE 43 97 ?_
     refine takeF 44 98 (fun wq hSw=>(hSw.cell (p:=⟨yb,4,none⟩) hylt).trans y4) ?_
     refine takeE 45 99 ?_
     refine takeF 46 100 (fun wq hSw=>(hSw.cell (p:=⟨zb,4,none⟩) hzlt).trans z4) ?_
     refine ready1 47 (fun K hK=>?_)
     go_simp
     refine(HSEQ.out _ hS5).mono ?_
     rintro e w6 ⟨rfl,n6,h6n⟩
     have hb6:Below w5.heap.size w5 w6:=by rw[h6n];exact mx_drewN _ _
     have hS6:=hS5.trans (hb6.mono hS5.size)
     refine hK.out _ _ hS6 (fun _=>?_)
     clear hK hb6 hS5 h6n
     refine takeE 48 102 ?_
     refine takeE 49 103 ?_
     refine takeE 50 104 ?_
     refine takeE 51 105 ?_
     refine takeF 52 106 (fun wq hSw=>(hSw.cell (p:=⟨zb,0,none⟩) hzlt).trans z0) ?_
     refine takeE 53 107 ?_
     by_cases hxe:x0.lits.length=0
     ·as_aux_lemma=>
       have q4:decide ((0:Int)<(x0.lits.length:Int))=false:=decide_eq_false (by omega)
       have q4n:decide (0<x0.lits.length)=false:=decide_eq_false (by omega)
       refine takeE 54 108 ?_
       refine takeE 55 109 ?_
       refine takeU 56 110 ?_
       refine takeU 57 111 ?_
       refine takeU 58 112 ?_
       refine takeU 59 113 ?_
       refine takeU 60 114 ?_
       refine takeU 61 115 ?_
       refine takeU 62 116 ?_
       refine takeU 63 117 ?_
       refine takeU 64 118 ?_
       refine takeU 65 119 ?_
       refine takeU 66 120 ?_
       refine takeU 67 121 ?_
       refine takeU 68 122 ?_
       refine takeU 69 123 ?_
       refine takeU 70 124 ?_
       refine takeE 71 125 ?_
       refine takeE 72 126 ?_
       refine wpAnyH_done (by kernel_rfl) ?_ _
       go_wp2_with fail
       go_meet
       exact⟨rfl,Lib.hid hS6⟩
     ·as_aux_lemma=>
       have hx1:0<x0.lits.length:=by omega
       obtain⟨l0,hl0⟩:=getElem_of hx1
       have hly:y.lits[0]? =some l0:=by
        have:=HHD.out
        rw[List.head?_eq_getElem?,List.head?_eq_getElem?]at this
        exact this.trans hl0
       have hy1:0<y.lits.length:=(List.getElem?_eq_some_iff.1 hly).1
       have q4:decide ((0:Int)<(x0.lits.length:Int))=true:=decide_eq_true (by omega)
       have q4n:decide (0<x0.lits.length)=true:=decide_eq_true hx1
       have q5:((y.lits.length:Int)==0)=false:=beq_eq_false_iff_ne.2 (by omega)
       have q6:(l0 != l0)=false:=by simp
       have hy1i:(0:Int)<(y.lits.length:Int):=by omega
       have hx1i:(0:Int)<(x0.lits.length:Int):=by omega
       obtain⟨A',c',hAc,_,_,hxs⟩:=HPY.out
       simp only[Value.slice.injEq,true_and]at hAc
       obtain⟨rfl,rfl⟩:=hAc
       obtain⟨gy,oy,rfl,hgy,-,dy⟩:=hxs 0 l0 hly
       obtain⟨A'',c'',hAc,_,_,hxs2⟩:=HPZ.out
       simp only[Value.slice.injEq,true_and]at hAc
       obtain⟨rfl,rfl⟩:=hAc
       obtain⟨gz,oz,rfl,hgz,-,dz⟩:=hxs2 0 l0 hl0
       simp only[Nat.add_zero]at dy dz
       clear hxs hxs2 hxe
       refine takeE 54 108 ?_
       refine takeE 55 109 ?_
       refine takeE 56 110 ?_
       refine takeF 57 111 (fun wq hSw=>(hSw.cell (p:=⟨yb,0,none⟩) hylt).trans y0) ?_
       refine takeE 58 112 ?_
       refine takeE 59 113 ?_
       refine takeE 60 114 ?_
       refine takeE 61 115 ?_
       refine takeF 62 116 (fun wq hSw=>(hSw.cell (p:=⟨yb,0,none⟩) hylt).trans y0) ?_
       refine takeE 63 117 ?_
       refine takeF 64 118 (fun wq hSw=>(hSw.cell (p:=⟨gy,oy,none⟩) hgy).trans dy) ?_
       refine takeE 65 119 ?_
       refine takeF 66 120 (fun wq hSw=>(hSw.cell (p:=⟨zb,0,none⟩) hzlt).trans z0) ?_
       refine takeE 67 121 ?_
       refine takeF 68 122 (fun wq hSw=>(hSw.cell (p:=⟨gz,oz,none⟩) hgz).trans dz) ?_
       refine takeE 69 123 ?_
       refine takeE 70 124 ?_
       refine takeE 71 125 ?_
       refine takeE 72 126 ?_
       refine wpAnyH_done (by kernel_rfl) ?_ _
       go_wp2_with fail
       go_meet
       exact⟨rfl,Lib.hid hS6⟩
end Go.Proofs.YtoojmhjagipmdaaGreat
