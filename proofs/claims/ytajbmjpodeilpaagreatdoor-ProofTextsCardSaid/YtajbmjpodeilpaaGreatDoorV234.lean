/- salvorlaw10.few: its parts. The examples of chapter 10: awake. The examples of chapter 10: awake. package salvorlaw10: ProofTexts. -/
import Derived.Test.YtajbmjpodeilpaaGreatDoorV233
import Derived.Test.YtajbmjpodeilpaaGreatDoorV230
import Derived.Test.YtajbmjpodeilpaaGreatDoorV228
namespace Go.Proofs.YtajbmjpodeilpaaGreatDoor
open Go.RowKit
theorem few10_parts {cs:List (List Int)} {ss:List EStep} (h:few10 cs ss=true):cs.length≤30∧(∀c∈cs,c.length≤10)∧ss.length≤30∧∀s∈ss,s.lits.length≤10∧s.hints.length≤20:=by
 unfold few10 fewO at h
 simp only[Bool.and_eq_true,decide_eq_true_eq,Bool.not_eq_true',List.any_eq_false]at h
 obtain⟨⟨h1,h2⟩,h3,h4⟩:=h
 refine⟨by omega,fun c hc=>?_,by omega,fun s hs=>?_⟩
 ·have:=h2 c hc
  omega
 ·have:=h4 s hs
  unfold fewS at this
  simp only[Bool.or_eq_true,decide_eq_true_eq,not_or]at this
  omega
end Go.Proofs.YtajbmjpodeilpaaGreatDoor
namespace Go.Proofs.YtajbmjpodeilpaaGreatDoor
open Go.RowKit
theorem chk_at {O Os:Nat→Prop} {cs:List (List Int)} {l:List EStep} {rv:Value} {n1 n2:Nat} {i1 i2:Int} (hv:(runRep (runGo (ckrNew cs) l 0),(runGo (ckrNew cs) l 0).2.1,runE (runGo (ckrNew cs) l 0))=(rv,n1,n2)) (e1:((n1:Nat):Int)=i1) (e2:((n2:Nat):Int)=i2) (n:Int) (lv sv:Value) (w:World) (h:ClsIn O w lv cs) (hc: ∀c∈cs,clauseB c=true) (hn:cs.length≤1000) (hf:fchk n cs=(-1,0)) (hs:StepIn Os w sv l) (hl:l.length≤1000) (hls: ∀s∈l,s.lits.length≤100000000∧s.hints.length≤100000000):
  Calls Tryz.prog 25 #[.agg #[.int .i64 n,lv],sv] w fun e w'=>e= .returned (.tuple #[rv,.int .i64 i1,.int .i64 i2])∧Below w.heap.size w w':=by
 simp only[Prod.mk.injEq]at hv
 obtain⟨h1,h2,h3⟩:=hv
 have:=proof_check n lv sv cs l w h hc hn hf hs hl hls
 rw[h1,h2,h3,e1,e2]at this
 exact this
theorem ex_less':(runRep (runGo (ckrNew fourC) [⟨false,5,[2],[1]⟩,exB] 0),(runGo (ckrNew fourC) [⟨false,5,[2],[1]⟩,exB] 0).2.1,runE (runGo (ckrNew fourC) [⟨false,5,[2],[1]⟩,exB] 0))=(.agg #[.bool false,.int .i64 0,.int .i64 0,.int .i64 0,.int .i64 0],0,92):=by
 rw[ex_less]
 rfl
theorem ex_early':(runRep (runGo (ckrNew fourC) [⟨false,4,[2],[1,2]⟩,exB] 0),(runGo (ckrNew fourC) [⟨false,4,[2],[1,2]⟩,exB] 0).2.1,runE (runGo (ckrNew fourC) [⟨false,4,[2],[1,2]⟩,exB] 0))=(.agg #[.bool false,.int .i64 0,.int .i64 0,.int .i64 0,.int .i64 0],0,100):=by
 rw[ex_early]
 rfl
def TrimEx:Prop:= ∀{O Os:Nat→Prop} {lv sv:Value} (w:World) (_:ClsIn O w lv fourC) (_:StepIn Os w sv exM),Calls Tryz.prog 26 #[.agg #[.int .i64 2,lv],sv] w fun e w'=> ∃g c,e= .returned (.tuple #[.slice (some ⟨g,0,none⟩) 2 c,.int .i64 (-1),.int .i64 0])∧w'.cell? ⟨g,1,none⟩=some (.int .i64 6)∧Below w.heap.size w w'
set_option maxRecDepth 100000 in
set_option maxHeartbeats 8000000 in
theorem awake10_core (trim_at:TrimEx) (w:World):Calls Tryz.prog 7 #[] w fun e w'=>e= .returned (.bool true)∧Below w.heap.size w w':=by
 have HF:=Lib.hid (four_any w)
 go_enter Tryz.func7,Tryz.ntmps7
 go_wp2_with fail
 refine HF.out.mono ?_
 rintro e w1 ⟨gl,gs,rfl,hcl,hst,hb1⟩
 obtain⟨A',c',hA',-,-,hx⟩:=id hst
 obtain⟨g,o,ul,uh,hAa,hg,-,d0,d1,d2,d3,hul,huh⟩:=hx 0 exA rfl
 obtain⟨g',o',vl,vh,hAb,-,-,e0,e1,e2,e3,hvl,hvh⟩:=hx 1 exB rfl
 simp only[List.length_cons,List.length_nil,Nat.reduceAdd,Value.slice.injEq,true_and]at hA'
 rw[←hA'.1]at hAa hAb
 simp only[Option.some.injEq,Addr.mk.injEq,and_true]at hAa hAb
 obtain⟨rfl,rfl⟩:=hAa
 obtain⟨rfl,rfl⟩:=hAb
 simp only[Nat.zero_mul,Nat.one_mul,Nat.zero_add]at d0 d1 d2 d3 e0 e1 e2 e3
 obtain⟨Au,cu,hu,-,-,-⟩:=id hul
 obtain⟨Ax,cx,hx',-,-,-⟩:=id huh
 obtain⟨Av,cv,hv,-,-,-⟩:=id hvl
 obtain⟨Aw,cw,hw,-,-,-⟩:=id hvh
 obtain rfl:ul= .slice Au 1 cu:=hu
 obtain rfl:uh= .slice Ax 2 cx:=hx'
 obtain rfl:vl= .slice Av 0 cv:=hv
 obtain rfl:vh= .slice Aw 3 cw:=hw
 obtain⟨W2,hW2,hb2,hx2,hz2⟩:=al_new w1 #[.int .i64 2,.slice (some ⟨gl,0,none⟩) 4 4] 24
 have HC1:=Lib.hid (chk_at (i1:=2) (i2:=0) ex_full rfl rfl 2 _ _ W2 (hcl.below hb2) four_ok.1 (by decide) four_ok.2 (hst.below hb2) (by decide) (by decide))
 have HW2:=Lib.hid hW2
 have HX2:=Lib.hid hx2
 have HB2:=Lib.hid (hb1.trans (hb2.mono hb1.size))
 have HB12:=Lib.hid hb2
 have HCL:=Lib.hid (hcl.below hb2)
 have HD:=Lib.hid (And.intro d0 (And.intro d1 (And.intro d2 d3)))
 have HE:=Lib.hid (And.intro e0 (And.intro e1 (And.intro e2 e3)))
 have HUL:=Lib.hid hul
 have HUH:=Lib.hid huh
 have HVL:=Lib.hid hvl
 have HVH:=Lib.hid hvh
 clear hx hA' hW2 hx2 hz2 hb2 d0 d1 d2 d3 e0 e1 e2 e3 hul huh hvl hvh hcl hst HF hb1
 go_wp2_with fail
 rw[HW2.out]
 refine HC1.out.mono ?_
 rintro e w3 ⟨rfl,hb3⟩
 obtain⟨W3,hW3,hb3',hx3,hz3⟩:=al_new w3 #[.bool true,.int .i64 2,.int .i64 0,.int .i64 0,.int .i64 6] 45
 have HW3:=Lib.hid hW3
 have HB3:=Lib.hid (HB2.out.trans ((hb3.trans (hb3'.mono hb3.size)).mono HB2.out.size))
 have HB23:=Lib.hid (hb3.trans (hb3'.mono hb3.size))
 have HB13:=Lib.hid (HB12.out.trans ((hb3.trans (hb3'.mono hb3.size)).mono HB12.out.size))
 have r0:=mx_cell (j:=0) hx3
 have r1:=mx_cell (j:=1) hx3
 have r2:=mx_cell (j:=2) hx3
 have r3:=mx_cell (j:=3) hx3
 have r4:=mx_cell (j:=4) hx3
 clear hW3 hb3 hb3' hz3 hx3
 go_wp2_with fail
 rw[HW3.out]
 have HDX:=Lib.hid (fun(X:World) (hX:Below w1.heap.size w1 X)=>And.intro ((hX.cell (p:=⟨gs,0,none⟩) hg).trans HD.out.1) (And.intro ((hX.cell (p:=⟨gs,1,none⟩) hg).trans HD.out.2.1) (And.intro ((hX.cell (p:=⟨gs,2,none⟩) hg).trans HD.out.2.2.1) ((hX.cell (p:=⟨gs,3,none⟩) hg).trans HD.out.2.2.2))))
 have HEX:=Lib.hid (fun(X:World) (hX:Below w1.heap.size w1 X)=>And.intro ((hX.cell (p:=⟨gs,4,none⟩) hg).trans HE.out.1) (And.intro ((hX.cell (p:=⟨gs,5,none⟩) hg).trans HE.out.2.1) (And.intro ((hX.cell (p:=⟨gs,6,none⟩) hg).trans HE.out.2.2.1) ((hX.cell (p:=⟨gs,7,none⟩) hg).trans HE.out.2.2.2))))
 have HD2X:=Lib.hid (fun(X:World) (hX:Below w1.heap.size w1 X)=>(hX.cell (p:=⟨gs,2,none⟩) hg).trans HD.out.2.2.1)
 have HBX0:=Lib.hid (show Below w1.heap.size w1 W3 from HB13.out)
 clear r0 r1 r2 r3 r4
 refine wp_region_held_drew (S:=fun w'=>Below w1.heap.size w1 w') (by kernel_rfl) (HBX0.out.trans ((mx_drew W3).mono HBX0.out.size)) (fun hS=>?_)
 obtain⟨x5,hxD⟩: ∃y,W3.drew=y:=⟨_,rfl⟩
 have hPx:Below W3.heap.size W3 x5:=by rw[←hxD];exact mx_drew W3
 rw[hxD]at hS⊢
 clear hxD
 refine takeE 0 47 ?_
 refine takeE 1 48 ?_
 refine takeE 2 49 ?_
 refine takeF 3 50 HD2X.out ?_
 refine takeE 6 53 ?_
 refine takeE 7 54 ?_
 refine takeF 8 55 (F:=fun wq=>wq.cell? ⟨gs,4,none⟩=some (.bool false)∧wq.cell? ⟨gs,5,none⟩=some (.int .i64 6)∧wq.cell? ⟨gs,6,none⟩=some (.slice Av 0 cv)∧wq.cell? ⟨gs,7,none⟩=some (.slice Aw 3 cw)) (fun wq hSw=>HEX.out wq hSw) ?_
 refine ready1 4 (fun KK hKK=>?_)
 go_simp
 obtain⟨Xa5,hWa,hba,hxa,hza⟩:=al_new x5 #[.int .i64 1] 3
 rw[hWa]
 have hSa:=hS.trans (hba.mono hS.size)
 refine hKK.out _ _ hSa (fun _=>?_)
 clear hKK hWa
 refine takeE 5 52 ?_
 refine ready1 9 (fun KK hKK=>?_)
 go_simp
 obtain⟨Xb5,hWb,hbb,hxb,hzb⟩:=al_new Xa5 #[.bool false,.int .i64 5,.slice Au 1 cu,.slice (some ⟨x5.heap.size,0,none⟩) 1 1,.bool false,.int .i64 6,.slice Av 0 cv,.slice Aw 3 cw] 34
 rw[hza]at hxb
 rw[hWb]
 have hSb:=hSa.trans (hbb.mono hSa.size)
 refine hKK.out _ _ hSb (fun _=>?_)
 clear hKK hWb
 refine takeE 10 6 ?_
 refine wpAnyH_done (by kernel_rfl) ?_ _
 have HBX5:=Lib.hid hSb
 have HNX5:=Lib.hid (show Below W3.heap.size W3 Xb5 from hPx.trans ((hba.trans (hbb.mono hba.size)).mono hPx.size))
 have HS5:=Lib.hid (show StepIn (fun _=>True) Xb5 (.slice (some ⟨x5.heap.size+1,0,none⟩) 2 2) [⟨false,5,[2],[1]⟩,exB]from step_blk (K:= [(⟨false,5,[2],[1]⟩,.slice Au 1 cu,.slice (some ⟨x5.heap.size,0,none⟩) 1 1),(exB,.slice Av 0 cv,.slice Aw 3 cw)]) hxb trivial (fun y hy=>by
  rcases List.mem_cons.1 hy with rfl|hy
  ·exact⟨HUL.out.below hSb,ints_blk (xs:= [1]) ((hbb.block _ (heap_lt hxa)).trans hxa) trivial⟩
  ·obtain rfl:=List.mem_singleton.1 hy
   exact⟨HVL.out.below hSb,HVH.out.below hSb⟩))
 clear hS hSa hSb hba hbb hxa hxb hza hzb hPx
 go_wp2_with fail
 refine wp_region_held_drew (S:=fun w'=>Below w1.heap.size w1 w') (by kernel_rfl) (HBX5.out.trans ((mx_drew Xb5).mono HBX5.out.size)) (fun hS=>?_)
 obtain⟨x6,hxD⟩: ∃y,Xb5.drew=y:=⟨_,rfl⟩
 have hPx:Below Xb5.heap.size Xb5 x6:=by rw[←hxD];exact mx_drew Xb5
 rw[hxD]at hS⊢
 clear hxD
 refine takeE 0 57 ?_
 refine takeE 1 58 ?_
 refine takeE 2 59 ?_
 refine takeF 3 60 HD2X.out ?_
 refine takeE 6 63 ?_
 refine takeE 7 64 ?_
 refine takeF 8 65 (F:=fun wq=>wq.cell? ⟨gs,4,none⟩=some (.bool false)∧wq.cell? ⟨gs,5,none⟩=some (.int .i64 6)∧wq.cell? ⟨gs,6,none⟩=some (.slice Av 0 cv)∧wq.cell? ⟨gs,7,none⟩=some (.slice Aw 3 cw)) (fun wq hSw=>HEX.out wq hSw) ?_
 refine ready1 4 (fun KK hKK=>?_)
 go_simp
 obtain⟨Xa6,hWa,hba,hxa,hza⟩:=al_new x6 #[.int .i64 1,.int .i64 2] 3
 rw[hWa]
 have hSa:=hS.trans (hba.mono hS.size)
 refine hKK.out _ _ hSa (fun _=>?_)
 clear hKK hWa
 refine takeE 5 62 ?_
 refine ready1 9 (fun KK hKK=>?_)
 go_simp
 obtain⟨Xb6,hWb,hbb,hxb,hzb⟩:=al_new Xa6 #[.bool false,.int .i64 4,.slice Au 1 cu,.slice (some ⟨x6.heap.size,0,none⟩) 2 2,.bool false,.int .i64 6,.slice Av 0 cv,.slice Aw 3 cw] 34
 rw[hza]at hxb
 rw[hWb]
 have hSb:=hSa.trans (hbb.mono hSa.size)
 refine hKK.out _ _ hSb (fun _=>?_)
 clear hKK hWb
 refine takeE 10 7 ?_
 refine wpAnyH_done (by kernel_rfl) ?_ _
 have HBX6:=Lib.hid hSb
 have HNX6:=Lib.hid (show Below Xb5.heap.size Xb5 Xb6 from hPx.trans ((hba.trans (hbb.mono hba.size)).mono hPx.size))
 have HS6:=Lib.hid (show StepIn (fun _=>True) Xb6 (.slice (some ⟨x6.heap.size+1,0,none⟩) 2 2) [⟨false,4,[2],[1,2]⟩,exB]from step_blk (K:= [(⟨false,4,[2],[1,2]⟩,.slice Au 1 cu,.slice (some ⟨x6.heap.size,0,none⟩) 2 2),(exB,.slice Av 0 cv,.slice Aw 3 cw)]) hxb trivial (fun y hy=>by
  rcases List.mem_cons.1 hy with rfl|hy
  ·exact⟨HUL.out.below hSb,ints_blk (xs:= [1,2]) ((hbb.block _ (heap_lt hxa)).trans hxa) trivial⟩
  ·obtain rfl:=List.mem_singleton.1 hy
   exact⟨HVL.out.below hSb,HVH.out.below hSb⟩))
 clear hS hSa hSb hba hbb hxa hxb hza hzb hPx
 go_wp2_with fail
 refine wp_region_held_drew (S:=fun w'=>Below w1.heap.size w1 w') (by kernel_rfl) (HBX6.out.trans ((mx_drew Xb6).mono HBX6.out.size)) (fun hS=>?_)
 obtain⟨x7,hxD⟩: ∃y,Xb6.drew=y:=⟨_,rfl⟩
 have hPx:Below Xb6.heap.size Xb6 x7:=by rw[←hxD];exact mx_drew Xb6
 rw[hxD]at hS⊢
 clear hxD
 refine takeE 0 67 ?_
 refine takeE 1 68 ?_
 refine takeF 2 69 (F:=fun wq=>wq.cell? ⟨gs,0,none⟩=some (.bool false)∧wq.cell? ⟨gs,1,none⟩=some (.int .i64 5)∧wq.cell? ⟨gs,2,none⟩=some (.slice Au 1 cu)∧wq.cell? ⟨gs,3,none⟩=some (.slice Ax 2 cx)) (fun wq hSw=>HDX.out wq hSw) ?_
 refine takeE 5 72 ?_
 refine takeE 6 73 ?_
 refine takeF 7 74 (F:=fun wq=>wq.cell? ⟨gs,4,none⟩=some (.bool false)∧wq.cell? ⟨gs,5,none⟩=some (.int .i64 6)∧wq.cell? ⟨gs,6,none⟩=some (.slice Av 0 cv)∧wq.cell? ⟨gs,7,none⟩=some (.slice Aw 3 cw)) (fun wq hSw=>HEX.out wq hSw) ?_
 refine ready1 3 (fun KK hKK=>?_)
 go_simp
 obtain⟨Xa7,hWa,hba,hxa,hza⟩:=al_new x7 #[.int .i64 3] 3
 rw[hWa]
 have hSa:=hS.trans (hba.mono hS.size)
 refine hKK.out _ _ hSa (fun _=>?_)
 clear hKK hWa
 refine takeE 4 71 ?_
 refine ready1 8 (fun KK hKK=>?_)
 go_simp
 obtain⟨Xb7,hWb,hbb,hxb,hzb⟩:=al_new Xa7 #[.bool false,.int .i64 5,.slice Au 1 cu,.slice Ax 2 cx,.bool true,.int .i64 5,.slice none 0 0,.slice (some ⟨x7.heap.size,0,none⟩) 1 1,.bool false,.int .i64 6,.slice Av 0 cv,.slice Aw 3 cw] 34
 rw[hza]at hxb
 rw[hWb]
 have hSb:=hSa.trans (hbb.mono hSa.size)
 refine hKK.out _ _ hSb (fun _=>?_)
 clear hKK hWb
 refine takeE 9 8 ?_
 refine wpAnyH_done (by kernel_rfl) ?_ _
 have HBX7:=Lib.hid hSb
 have HNX7:=Lib.hid (show Below Xb6.heap.size Xb6 Xb7 from hPx.trans ((hba.trans (hbb.mono hba.size)).mono hPx.size))
 have HS7:=Lib.hid (show StepIn (fun _=>True) Xb7 (.slice (some ⟨x7.heap.size+1,0,none⟩) 3 3) [exA,⟨true,5,[],[3]⟩,exB]from step_blk (K:= [(exA,.slice Au 1 cu,.slice Ax 2 cx),(⟨true,5,[],[3]⟩,.slice none 0 0,.slice (some ⟨x7.heap.size,0,none⟩) 1 1),(exB,.slice Av 0 cv,.slice Aw 3 cw)]) hxb trivial (fun y hy=>by
  rcases List.mem_cons.1 hy with rfl|hy
  ·exact⟨HUL.out.below hSb,HUH.out.below hSb⟩
  ·rcases List.mem_cons.1 hy with rfl|hy
   ·exact⟨IntsIn.nil _ _,ints_blk (xs:= [3]) ((hbb.block _ (heap_lt hxa)).trans hxa) trivial⟩
   ·obtain rfl:=List.mem_singleton.1 hy
    exact⟨HVL.out.below hSb,HVH.out.below hSb⟩))
 clear hS hSa hSb hba hbb hxa hxb hza hzb hPx
 obtain⟨Y1,hY1,hb1,hc1,hz1⟩:=al_new Xb7 #[.int .i64 1,.int .i64 2] 28
 have B1:Below Xb7.heap.size Xb7 Y1:=hb1
 obtain⟨Y2,hY2,hb2,hc2,hz2⟩:=al_new Y1 #[.int .i64 1] 3
 rw[hz1]at hc2 hz2
 have B2:Below (Xb7.heap.size+1) Y1 Y2:=by rw[←hz1];exact hb2
 obtain⟨Y3,hY3,hb3,hc3,hz3⟩:=al_new Y2 #[.int .i64 2] 28
 rw[hz2]at hc3 hz3
 have B3:Below (Xb7.heap.size+1+1) Y2 Y3:=by rw[←hz2];exact hb3
 obtain⟨Y4,hY4,hb4,hc4,hz4⟩:=al_new Y3 #[.int .i64 1,.int .i64 2] 3
 rw[hz3]at hc4 hz4
 have B4:Below (Xb7.heap.size+1+1+1) Y3 Y4:=by rw[←hz3];exact hb4
 obtain⟨Y5,hY5,hb5,hc5,hz5⟩:=al_new Y4 #[.int .i64 6,.int .i64 3,.int .i64 4] 3
 rw[hz4]at hc5 hz5
 have B5:Below (Xb7.heap.size+1+1+1+1) Y4 Y5:=by rw[←hz4];exact hb5
 obtain⟨Y6,hY6,hb6,hc6,hz6⟩:=al_new Y5 #[.bool false,.int .i64 5,.slice (some ⟨Xb7.heap.size,0,none⟩) 2 2,.slice (some ⟨Xb7.heap.size+1,0,none⟩) 1 1,.bool false,.int .i64 6,.slice (some ⟨Xb7.heap.size+1+1,0,none⟩) 1 1,.slice (some ⟨Xb7.heap.size+1+1+1,0,none⟩) 2 2,.bool false,.int .i64 7,.slice none 0 0,.slice (some ⟨Xb7.heap.size+1+1+1+1,0,none⟩) 3 3] 34
 rw[hz5]at hc6 hz6
 have B6:Below (Xb7.heap.size+1+1+1+1+1) Y5 Y6:=by rw[←hz5];exact hb6
 clear hb1 hb2 hb3 hb4 hb5 hb6
 have T5:=B6
 have T4:=B5.trans (T5.mono (by omega))
 have T3:=B4.trans (T4.mono (by omega))
 have T2:=B3.trans (T3.mono (by omega))
 have T1:=B2.trans (T2.mono (by omega))
 have T0:=B1.trans (T1.mono (by omega))
 have D1:=((T1.block _ (by omega)).trans hc1)
 have D2:=((T2.block _ (by omega)).trans hc2)
 have D3:=((T3.block _ (by omega)).trans hc3)
 have D4:=((T4.block _ (by omega)).trans hc4)
 have D5:=((T5.block _ (by omega)).trans hc5)
 have D6:=hc6
 have HS8:=Lib.hid (show StepIn (fun _=>True) Y6 (.slice (some ⟨Xb7.heap.size+1+1+1+1+1,0,none⟩) 3 3) exM from step_blk (K:= [(⟨false,5,[1,2],[1]⟩,.slice (some ⟨Xb7.heap.size,0,none⟩) 2 2,.slice (some ⟨Xb7.heap.size+1,0,none⟩) 1 1),(⟨false,6,[2],[1,2]⟩,.slice (some ⟨Xb7.heap.size+1+1,0,none⟩) 1 1,.slice (some ⟨Xb7.heap.size+1+1+1,0,none⟩) 2 2),(⟨false,7,[],[6,3,4]⟩,.slice none 0 0,.slice (some ⟨Xb7.heap.size+1+1+1+1,0,none⟩) 3 3)]) D6 trivial (fun x hx=>by
  rcases List.mem_cons.1 hx with rfl|hx
  ·exact⟨ints_blk (xs:= [1,2]) D1 trivial,ints_blk (xs:= [1]) D2 trivial⟩
  ·rcases List.mem_cons.1 hx with rfl|hx
   ·exact⟨ints_blk (xs:= [2]) D3 trivial,ints_blk (xs:= [1,2]) D4 trivial⟩
   ·obtain rfl:=List.mem_singleton.1 hx
    exact⟨IntsIn.nil _ _,ints_blk (xs:= [6,3,4]) D5 trivial⟩))
 have HT8:=Lib.hid T0
 have HY1:=Lib.hid hY1
 have HY2:=Lib.hid hY2
 have HY3:=Lib.hid hY3
 have HY4:=Lib.hid hY4
 have HY5:=Lib.hid hY5
 have HY6:=Lib.hid hY6
 clear hY1 hc1 hz1 B1 hY2 hc2 hz2 B2 hY3 hc3 hz3 B3 hY4 hc4 hz4 B4 hY5 hc5 hz5 B5 hY6 hc6 hz6 B6 T0 T1 T2 T3 T4 T5 D1 D2 D3 D4 D5 D6
 go_upto_region 9 with fail
 rw[HY1.out,HY2.out,HY3.out,HY4.out,HY5.out,HY6.out]
 have HB8:=Lib.hid (show Below w1.heap.size w1 Y6 from HBX7.out.trans (HT8.out.mono HBX7.out.size))
 have HN68:=Lib.hid (show Below Xb6.heap.size Xb6 Y6 from HNX7.out.trans (HT8.out.mono HNX7.out.size))
 have HN58:=Lib.hid (show Below Xb5.heap.size Xb5 Y6 from HNX6.out.trans (HN68.out.mono HNX6.out.size))
 have HN38:=Lib.hid (show Below W3.heap.size W3 Y6 from HNX5.out.trans (HN58.out.mono HNX5.out.size))
 have HN28:=Lib.hid (show Below W2.heap.size W2 Y6 from HB23.out.trans (HN38.out.mono HB23.out.size))
 have hw1:=heap_lt HX2.out
 have b0:=(HN28.out.cell (p:=⟨w1.heap.size,0,none⟩) hw1).trans (mx_cell (j:=0) HX2.out)
 have b1:=(HN28.out.cell (p:=⟨w1.heap.size,1,none⟩) hw1).trans (mx_cell (j:=1) HX2.out)
 have HC9:=Lib.hid (chk_at (i1:=0) (i2:=92) ex_less' rfl rfl 2 _ _ Y6 (HCL.out.below HN28.out) four_ok.1 (by decide) four_ok.2 (HS5.out.below HN58.out) (by decide) (by decide))
 go_wp2_with fail
 clear b0 b1
 refine HC9.out.mono ?_
 rintro e w4 ⟨rfl,hb4⟩
 have hb24:=HN28.out.trans (hb4.mono HN28.out.size)
 have HB24:=Lib.hid hb24
 have HN64:=Lib.hid (HN68.out.trans (hb4.mono HN68.out.size))
 have HN74:=Lib.hid (HT8.out.trans (hb4.mono HT8.out.size))
 have HN84:=Lib.hid hb4
 obtain⟨Z4,hZ4,hz4,-,-⟩:=al_new w4 #[.bool false,.int .i64 0,.int .i64 0,.int .i64 0,.int .i64 0] 45
 have HB25:=Lib.hid (hb24.trans (hz4.mono hb24.size))
 have HN65:=Lib.hid (HN64.out.trans (hz4.mono HN64.out.size))
 have HN75:=Lib.hid (HN74.out.trans (hz4.mono HN74.out.size))
 have HN85:=Lib.hid (HN84.out.trans (hz4.mono HN84.out.size))
 have HZ4:=Lib.hid hZ4
 have HC10:=Lib.hid (chk_at (i1:=0) (i2:=100) ex_early' rfl rfl 2 _ _ Z4 (HCL.out.below HB25.out) four_ok.1 (by decide) four_ok.2 (HS6.out.below HN65.out) (by decide) (by decide))
 clear hb4 hb24 hZ4 hz4 HC9
 go_upto_region 10 with fail
 rw[HZ4.out]
 have b0:=(HB25.out.cell (p:=⟨w1.heap.size,0,none⟩) hw1).trans (mx_cell (j:=0) HX2.out)
 have b1:=(HB25.out.cell (p:=⟨w1.heap.size,1,none⟩) hw1).trans (mx_cell (j:=1) HX2.out)
 go_wp2_with fail
 clear b0 b1
 refine HC10.out.mono ?_
 rintro e w5 ⟨rfl,hb5⟩
 have hb25:=HB25.out.trans (hb5.mono HB25.out.size)
 have HB26:=Lib.hid hb25
 have HN76:=Lib.hid (HN75.out.trans (hb5.mono HN75.out.size))
 have HN86:=Lib.hid (HN85.out.trans (hb5.mono HN85.out.size))
 obtain⟨Z5,hZ5,hz5,-,-⟩:=al_new w5 #[.bool false,.int .i64 0,.int .i64 0,.int .i64 0,.int .i64 0] 45
 have HB27:=Lib.hid (hb25.trans (hz5.mono hb25.size))
 have HN77:=Lib.hid (HN76.out.trans (hz5.mono HN76.out.size))
 have HN87:=Lib.hid (HN86.out.trans (hz5.mono HN86.out.size))
 have HZ5:=Lib.hid hZ5
 have HC11:=Lib.hid (chk_at (i1:=2) (i2:=91) ex_gone rfl rfl 2 _ _ Z5 (HCL.out.below HB27.out) four_ok.1 (by decide) four_ok.2 (HS7.out.below HN77.out) (by decide) (by decide))
 clear hb5 hb25 hZ5 hz5 HC10
 go_upto_region 11 with fail
 rw[HZ5.out]
 have b0:=(HB27.out.cell (p:=⟨w1.heap.size,0,none⟩) hw1).trans (mx_cell (j:=0) HX2.out)
 have b1:=(HB27.out.cell (p:=⟨w1.heap.size,1,none⟩) hw1).trans (mx_cell (j:=1) HX2.out)
 go_wp2_with fail
 clear b0 b1
 refine HC11.out.mono ?_
 rintro e w6 ⟨rfl,hb6⟩
 have hb26:=HB27.out.trans (hb6.mono HB27.out.size)
 have HN88:=Lib.hid (HN87.out.trans (hb6.mono HN87.out.size))
 obtain⟨Z6,hZ6,hz6,-,-⟩:=al_new w6 #[.bool false,.int .i64 0,.int .i64 0,.int .i64 0,.int .i64 0] 45
 have HB28:=Lib.hid (hb26.trans (hz6.mono hb26.size))
 have HN89:=Lib.hid (HN88.out.trans (hz6.mono HN88.out.size))
 have HZ6:=Lib.hid hZ6
 have HTR:=Lib.hid (trim_at Z6 (HCL.out.below HB28.out) (HS8.out.below HN89.out))
 clear hb6 hb26 hZ6 hz6 HC11
 go_upto_region 12 with fail
 rw[HZ6.out]
 have b0:=(HB28.out.cell (p:=⟨w1.heap.size,0,none⟩) hw1).trans (mx_cell (j:=0) HX2.out)
 have b1:=(HB28.out.cell (p:=⟨w1.heap.size,1,none⟩) hw1).trans (mx_cell (j:=1) HX2.out)
 go_wp2_with fail
 clear b0 b1
 refine HTR.out.mono ?_
 rintro e w7 ⟨g,c,rfl,hid,hb7⟩
 obtain⟨Z7,hZ7,hz7,hx7,hn7⟩:=al_new w7 #[.slice none 0 0] 30
 have HZ7:=Lib.hid hZ7
 have HB7:=Lib.hid (hb7)
 have HBZ:=Lib.hid (hz7)
 have HC13:=Lib.hid (chk_at (O:=fun _=>True) (Os:=fun _=>True) (i1:=0) (i2:=0) ex_zero rfl rfl 0 (.slice (some ⟨w7.heap.size,0,none⟩) 1 1) (.slice none 0 0) Z7 (cls_blk (us:= [.slice none 0 0]) (cs:= [[]]) hx7 trivial (fun i c hi=>by
  match i,hi with
  | 0,hi=>cases hi;exact⟨_,rfl,IntsIn.nil _ _⟩
  | n+1,hi=>exact absurd hi (by simp))) (by decide) (by decide) (by decide) ⟨none,0,rfl,Nat.le_refl _,fun _=>rfl,fun i s hi=>by simp at hi⟩ (by decide) (by decide))
 have HID:=Lib.hid hid
 clear hid hb7 hZ7 hz7 hx7 hn7 HTR
 go_wp2_with fail
 rw[HZ7.out]
 refine HC13.out.mono ?_
 rintro e w8 ⟨rfl,hb8⟩
 have hb9:=HBZ.out.trans (hb8.mono HBZ.out.size)
 obtain⟨Z8,hZ8,hz8,hx8,-⟩:=al_new w8 #[.bool true,.int .i64 0,.int .i64 0,.int .i64 0,.int .i64 1] 45
 have HZ8:=Lib.hid hZ8
 have hb9:=hb9.trans (hz8.mono hb9.size)
 have hid:=(hb9.cell (p:=⟨g,1,none⟩) (World.block_lt_of_cell? _ _ HID.out)).trans HID.out
 have hem:=mx_cell (j:=0) hx8
 have hbE:=HB28.out.trans (((HB7.out.trans (hb9.mono HB7.out.size))).mono HB28.out.size)
 have HBE:=Lib.hid (HB2.out.trans (hbE.mono HB2.out.size))
 clear hb8 hb9 hbE HC13 hZ8 hz8 hx8
 go_upto_region 14 with fail
 rw[HZ8.out]
 go_wp2_with fail
 go_ret
 exact⟨rfl,HBE.out⟩
end Go.Proofs.YtajbmjpodeilpaaGreatDoor
namespace Go.Proofs.YtajbmjpodeilpaaGreatDoor
open Go.RowKit
theorem trim_ex:TrimEx:=by
 intro O Os lv sv w h hs
 refine(proof_trim 2 _ _ fourC exM w h four_ok.1 (by decide) four_ok.2 hs (by decide) (by decide)).mono ?_
 rintro e w' ⟨ht,hb⟩
 unfold TrimOut at ht
 rw[ex_run,if_neg (fun h=>h rfl),ex_trm,if_neg (fun h=>by cases h)]at ht
 obtain⟨v,K,rfl,hK,hm⟩:=ht
 rw[ex_bk]at hK
 have hl:K.length=2:=by simpa using congrArg List.length hK
 obtain⟨x,y,rfl⟩: ∃x y,K= [x,y]:=by
  rcases K with _|⟨x,_|⟨y,_|⟨z,r⟩⟩⟩
  ·cases hl
  ·cases hl
  ·exact⟨x,y,rfl⟩
  ·simp at hl
 have hx:x.1=⟨false,6,[2],[1,2]⟩:=(List.cons.inj hK).1
 obtain⟨g,c,rfl⟩:=ownsRow_succ hm.row
 obtain⟨-,e1,-,-⟩:=stcell_at [x,y] 0 x rfl
 have:=mx_at hm.row e1
 rw[hx]at this
 exact⟨g,c,rfl,this,hb⟩
theorem awake10_any (w:World):Calls Tryz.prog 7 #[] w fun e w'=>e= .returned (.bool true)∧Below w.heap.size w w':=awake10_core trim_ex w
end Go.Proofs.YtajbmjpodeilpaaGreatDoor
namespace Go.Proofs.YtajbmjpodeilpaaGreatDoor
open Go.RowKit
set_option maxRecDepth 100000 in
set_option maxHeartbeats 4000000 in
theorem proofTexts_any {O:Nat→Prop} (vn:Int) (u:Value) (cs:List (List Int)) (S:ByteArray) (w:World) (h:ClsIn O w u cs) (hT:TabW w) (hM:MaxC w) (hE:ErrC w):
  Calls Tryz.prog 3 #[.agg #[.int .i64 vn,u],.string S] w fun e w'=>e= .returned (.bool true)∧Below w.heap.size w w':=by
 obtain⟨W1,hW1,hb1,hx1,hz1⟩:=al_new w #[.int .i64 vn,u] 24
 have hlt1:=heap_lt hx1
 have HX1:=Lib.hid hx1
 have HB1:=Lib.hid hb1
 have HTE:=Lib.hid (show∀W,Below w.heap.size w W→TabW W∧MaxC W∧ErrC W from fun W hW=>⟨hT.next hW,hM.below hW,hE.below hW⟩)
 have HFW:=Lib.hid (few_10 vn u (.slice none 0 0) cs [] W1 (h.below hb1) (stepIn_none (fun _=>True) W1))
 have HDO:=Lib.hid (fun(hf:few10 cs []=true) (hs:S.size≤600) (X:World) (hX:Below W1.heap.size W1 X)=>by
  obtain⟨q1,q2,_,_⟩:=few10_parts hf
  have hw:=HB1.out.trans (hX.mono HB1.out.size)
  have h5:=texts_any vn u cs S.data.toList X ((h.below hb1).below hX) (by omega) (fun c hc=>by have:=q2 c hc;omega) (by rw[drop_size];omega) (HTE.out X hw).1 (HTE.out X hw).2.1 (HTE.out X hw).2.2
  rwa [←ba_list S]at h5)
 have HAW:=Lib.hid (fun X=>awake10_any X)
 have HW1:=Lib.hid hW1
 obtain⟨Af,cf,rfl,hcf,_⟩:=h
 obtain⟨fb,hfb⟩: ∃fb,few10 cs []=fb:=⟨_,rfl⟩
 rw[hfb]at HFW HDO
 have c0:=mx_cell (j:=0) hx1
 have c1:=mx_cell (j:=1) hx1
 clear hW1 hb1 hx1 hfb hT hM hE
 go_enter Tryz.func3,Tryz.ntmps3
 go_upto_region 1 with fail
 rw[HW1.out]
 by_cases hsz:600<S.size
 ·have d0:decide ((600:Int)<(S.size:Int))=true:=decide_eq_true (by omega)
  go_wp2_with fail
  refine(HAW.out W1).mono ?_
  rintro e w2 ⟨rfl,hb⟩
  have HB3:=Lib.hid (HB1.out.trans (hb.mono HB1.out.size))
  clear hb
  go_wp2_with fail
  go_ret
  exact⟨rfl,HB3.out⟩
 have d0:decide ((600:Int)<(S.size:Int))=false:=decide_eq_false (by omega)
 have hsz2:S.size≤600:=by omega
 cases fb with
 | false=>
  go_wp2_with fail
  refine HFW.out.mono ?_
  rintro e w1 ⟨rfl,hb⟩
  have HB2:=Lib.hid (HB1.out.trans (hb.mono HB1.out.size))
  clear hb c0 c1
  go_wp2_with fail
  refine(HAW.out w1).mono ?_
  rintro e w2 ⟨rfl,hb⟩
  have HB3:=Lib.hid (HB2.out.trans (hb.mono HB2.out.size))
  clear hb
  go_wp2_with fail
  go_ret
  exact⟨rfl,HB3.out⟩
 | true=>
  go_wp2_with fail
  refine HFW.out.mono ?_
  rintro e w1 ⟨rfl,hb⟩
  have HBb:=Lib.hid hb
  have HB2:=Lib.hid (HB1.out.trans (hb.mono HB1.out.size))
  have c0:=(hb.cell (p:=⟨w.heap.size,0,none⟩) hlt1).trans c0
  have c1:=(hb.cell (p:=⟨w.heap.size,1,none⟩) hlt1).trans c1
  clear hb
  go_wp2_with fail
  refine(HDO.out (by first|rfl|trivial) hsz2 w1 HBb.out).mono ?_
  rintro e w2 ⟨rfl,hb⟩
  have HB3:=Lib.hid (HB2.out.trans (hb.mono HB2.out.size))
  clear hb
  go_wp2_with fail
  refine(HAW.out w2).mono ?_
  rintro e w3 ⟨rfl,hb⟩
  have HB4:=Lib.hid (HB3.out.trans (hb.mono HB3.out.size))
  clear hb
  go_wp2_with fail
  go_ret
  exact⟨rfl,HB4.out⟩
end Go.Proofs.YtajbmjpodeilpaaGreatDoor
