/- salvorlaw02.Ints, salvorlaw08.Ints; salvorlaw07.Equal at any equal steps. Steps that a program builds: a row of its own, with rows of literals and of hints. -/
import Derived.Test.YtajbmjpodeilpaaGreatV102
namespace Go.Proofs.YtajbmjpodeilpaaGreat
open Go.RowKit
theorem qinfo_int:(Tryz.prog.info? 3).map (fun i=>(i.zero,i.size,i.bytes))=some (some (.int .i64 0),1,8):=by kernel_rfl
set_option maxRecDepth 100000 in
set_option maxHeartbeats 1000000 in
theorem ints02 {O:Nat→Prop} (u:Value) (xs:List Int) (w:World) (h1:IntsIn O w u xs) (hs:xs.length≤1000000):
  Calls Tryz.prog 35 #[u] w fun e w'=> ∃v,e= .returned v∧w'.ownsRow w.heap.size 3 1 v xs.length (xs.map (Value.int .i64))∧Below w.heap.size w w':=by
 obtain⟨i0,hi,hz0,hz1,hz2⟩:=info_parts qinfo_int
 obtain⟨A,c,rfl,hc,_,hx⟩:=h1
 have HX:=Lib.hid hx
 clear hx
 go_enter Tryz.func35,Tryz.ntmps35
 go_wp2_with fail
 go_loopw [3,8] (fun t i wr=> ∃k:Nat,k≤xs.length∧i= .int .i64 k∧Hid (wr.ownsRow w.heap.size 3 1 t k ((xs.take k).map (Value.int .i64)))∧Hid (Below w.heap.size w wr)) (fun _ i _=>xs.length-(intOf i).toNat)
 case atStart=>exact⟨0,Nat.zero_le _,rfl,Lib.hid (World.ownsRow_nil _ _ _ _),Lib.hid (Below.refl _ _)⟩
 case round=>
  obtain⟨k,hk,rfl,HV,HW⟩:=hrel
  have hzw:=HW.out.size
  obtain⟨Av,cv,hv,_⟩:=mx_slice HV.out
  subst hv
  by_cases hlt:k<xs.length
  ·obtain⟨x,hxk⟩:=getElem_of hlt
   obtain⟨g,o,rfl,hg,_,d0⟩:=HX.out k x hxk
   have d1:=(HW.out.cell (p:=⟨g,o+k,none⟩) hg).trans d0
   have hnx:(xs.take (k+1)).map (Value.int .i64)=(xs.take k).map (Value.int .i64)++ [.int .i64 x]:=by rw[List.take_add_one,hxk];simp
   have HNX:=Lib.hid hnx
   obtain⟨XS,hXS⟩: ∃XS,(xs.take k).map (Value.int .i64)=XS:=⟨_,rfl⟩
   rw[hXS]at HV HNX
   clear hXS hnx hxk d0
   go_wp2_with (at_builtin;refine wpList_append_own_at _ rfl _ _ 32 rfl w.heap.size 3 i0 (.int .i64 0) 1 8 Tryz.underlying32 hi hz0 hz1 hz2 rfl (by decide) _ k _ rfl (own_below HV.out (mx_al wr _)) ⟨wr.heap.size,0,none⟩ 1 1 [.int .i64 x] rfl rfl (cell_one_new' _ _ _) (by simp[Value.oneCell']) (by unfold maxLen;omega) (by omega) (by simp;omega) ?_;intro v' w1 hown hgrow hnl hat;obtain⟨Aw,kw,hv2,_⟩:=mx_slice hown;subst hv2;have HOWN:=Lib.hid hown;have HG:=Lib.hid hgrow;clear hown hgrow hnl hat)
   have hw1:Below w.heap.size w w1:=(HW.out.trans ((mx_al wr (.cells #[.int .i64 x] 3)).mono hzw)).grown HG.out (by simp;omega) (fun g hg=>(own_lt HV.out g hg).1)
   go_roundw
   case rel=>exact⟨k+1,by omega,by go_num,Lib.hid (by rw[HNX.out];exact HOWN.out),Lib.hid hw1⟩
   case measure=>simp[intOf];omega
  ·obtain rfl:k=xs.length:=by omega
   rw[List.take_length]at HV
   go_wp2_with fail
   go_ret
   exact⟨_,rfl,HV.out,HW.out⟩
set_option maxRecDepth 100000 in
set_option maxHeartbeats 1000000 in
theorem ints08 {O:Nat→Prop} (u:Value) (xs:List Int) (w:World) (h1:IntsIn O w u xs) (hs:xs.length≤1000000):
  Calls Tryz.prog 119 #[u] w fun e w'=> ∃v,e= .returned v∧w'.ownsRow w.heap.size 3 1 v xs.length (xs.map (Value.int .i64))∧Below w.heap.size w w':=by
 obtain⟨i0,hi,hz0,hz1,hz2⟩:=info_parts qinfo_int
 obtain⟨A,c,rfl,hc,_,hx⟩:=h1
 have HX:=Lib.hid hx
 clear hx
 go_enter Tryz.func119,Tryz.ntmps119
 go_wp2_with fail
 go_loopw [3,8] (fun t i wr=> ∃k:Nat,k≤xs.length∧i= .int .i64 k∧Hid (wr.ownsRow w.heap.size 3 1 t k ((xs.take k).map (Value.int .i64)))∧Hid (Below w.heap.size w wr)) (fun _ i _=>xs.length-(intOf i).toNat)
 case atStart=>exact⟨0,Nat.zero_le _,rfl,Lib.hid (World.ownsRow_nil _ _ _ _),Lib.hid (Below.refl _ _)⟩
 case round=>
  obtain⟨k,hk,rfl,HV,HW⟩:=hrel
  have hzw:=HW.out.size
  obtain⟨Av,cv,hv,_⟩:=mx_slice HV.out
  subst hv
  by_cases hlt:k<xs.length
  ·obtain⟨x,hxk⟩:=getElem_of hlt
   obtain⟨g,o,rfl,hg,_,d0⟩:=HX.out k x hxk
   have d1:=(HW.out.cell (p:=⟨g,o+k,none⟩) hg).trans d0
   have hnx:(xs.take (k+1)).map (Value.int .i64)=(xs.take k).map (Value.int .i64)++ [.int .i64 x]:=by rw[List.take_add_one,hxk];simp
   have HNX:=Lib.hid hnx
   obtain⟨XS,hXS⟩: ∃XS,(xs.take k).map (Value.int .i64)=XS:=⟨_,rfl⟩
   rw[hXS]at HV HNX
   clear hXS hnx hxk d0
   go_wp2_with (at_builtin;refine wpList_append_own_at _ rfl _ _ 32 rfl w.heap.size 3 i0 (.int .i64 0) 1 8 Tryz.underlying32 hi hz0 hz1 hz2 rfl (by decide) _ k _ rfl (own_below HV.out (mx_al wr _)) ⟨wr.heap.size,0,none⟩ 1 1 [.int .i64 x] rfl rfl (cell_one_new' _ _ _) (by simp[Value.oneCell']) (by unfold maxLen;omega) (by omega) (by simp;omega) ?_;intro v' w1 hown hgrow hnl hat;obtain⟨Aw,kw,hv2,_⟩:=mx_slice hown;subst hv2;have HOWN:=Lib.hid hown;have HG:=Lib.hid hgrow;clear hown hgrow hnl hat)
   have hw1:Below w.heap.size w w1:=(HW.out.trans ((mx_al wr (.cells #[.int .i64 x] 3)).mono hzw)).grown HG.out (by simp;omega) (fun g hg=>(own_lt HV.out g hg).1)
   go_roundw
   case rel=>exact⟨k+1,by omega,by go_num,Lib.hid (by rw[HNX.out];exact HOWN.out),Lib.hid hw1⟩
   case measure=>simp[intOf];omega
  ·obtain rfl:k=xs.length:=by omega
   rw[List.take_length]at HV
   go_wp2_with fail
   go_ret
   exact⟨_,rfl,HV.out,HW.out⟩
set_option maxRecDepth 100000 in
set_option maxHeartbeats 4000000 in
theorem eq7_step {O O':Nat→Prop} (s:EStep) (lv hv lv' hv':Value) (w:World) (hl:IntsIn O w lv s.lits) (hh:IntsIn O w hv s.hints) (hl':IntsIn O' w lv' s.lits) (hh':IntsIn O' w hv' s.hints) (hll:s.lits.length≤1000000) (hhl:s.hints.length≤1000000):
  Calls Tryz.prog 47 #[.agg #[.bool s.del,.int .i64 s.id,lv,hv],.agg #[.bool s.del,.int .i64 s.id,lv',hv']] w fun e w'=>e= .returned (.bool true)∧Below w.heap.size w w':=by
 obtain⟨del,id,lits,hints⟩:=s
 simp only[]at hl hh hl' hh' hll hhl
 have HL:=Lib.hid hl
 have HH:=Lib.hid hh
 have HL':=Lib.hid hl'
 have HH':=Lib.hid hh'
 obtain⟨A1,c1,rfl,_,_,_⟩:=hl
 obtain⟨A2,c2,rfl,_,_,_⟩:=hh
 obtain⟨A3,c3,rfl,_,_,_⟩:=hl'
 obtain⟨A4,c4,rfl,_,_,_⟩:=hh'
 obtain⟨wb,hwb⟩: ∃x,(w.alloc (.cells #[.bool del,.int .i64 id,.slice A1 lits.length c1,.slice A2 hints.length c2] 34)).alloc (.cells #[.bool del,.int .i64 id,.slice A3 lits.length c3,.slice A4 hints.length c4] 78)=x:=⟨_,rfl⟩
 have hB:Below w.heap.size w wb:=by rw[←hwb];exact((Below.refl _ _).alloc (Nat.le_refl _) _).alloc (by simp) _
 have hzb:wb.heap.size=w.heap.size+2:=by rw[←hwb];simp
 have hb3:wb.heap[w.heap.size+1]? =some (.cells #[.bool del,.int .i64 id,.slice A3 lits.length c3,.slice A4 hints.length c4] 78 (0,0)):=by
  rw[←hwb]
  have:=World.alloc_heap_new (w.alloc (.cells #[.bool del,.int .i64 id,.slice A1 lits.length c1,.slice A2 hints.length c2] 34)) (.cells #[.bool del,.int .i64 id,.slice A3 lits.length c3,.slice A4 hints.length c4] 78)
  rwa [World.size_alloc]at this
 have hb2:wb.heap[w.heap.size]? =some (.cells #[.bool del,.int .i64 id,.slice A1 lits.length c1,.slice A2 hints.length c2] 34 (0,0)):=by
  rw[←hwb,Below.heap_alloc _ _ _ (by simp)]
  exact World.alloc_heap_new _ _
 have HWB:=Lib.hid hwb
 have HB:=Lib.hid hB
 have b0:=mx_cell (j:=0) hb2
 have b1:=mx_cell (j:=1) hb2
 have b2:=mx_cell (j:=2) hb2
 have b3:=mx_cell (j:=3) hb2
 have e0:=mx_cell (j:=0) hb3
 have e1:=mx_cell (j:=1) hb3
 have e2:=mx_cell (j:=2) hb3
 have e3:=mx_cell (j:=3) hb3
 have HS0:=Lib.hid (show wb.cell? ⟨w.heap.size,0,none⟩=some (.bool del)∧wb.cell? ⟨w.heap.size,1,none⟩=some (.int .i64 id)∧wb.cell? ⟨w.heap.size,2,none⟩=some (.slice A1 lits.length c1)∧wb.cell? ⟨w.heap.size,3,none⟩=some (.slice A2 hints.length c2)∧wb.cell? ⟨w.heap.size+1,0,none⟩=some (.bool del)∧wb.cell? ⟨w.heap.size+1,1,none⟩=some (.int .i64 id)∧wb.cell? ⟨w.heap.size+1,2,none⟩=some (.slice A3 lits.length c3)∧wb.cell? ⟨w.heap.size+1,3,none⟩=some (.slice A4 hints.length c4)from⟨b0,b1,b2,b3,e0,e1,e2,e3⟩)
 clear hwb hB b0 b1 b2 b3 e0 e1 e2 e3 hb2 hb3
 go_enter Tryz.func47,Tryz.ntmps47
 go_wp2_with fail
 rw[HWB.out]
 refine wp_region_held_drew (S:=fun w'=>w'.cell? ⟨w.heap.size,0,none⟩=some (.bool del)∧w'.cell? ⟨w.heap.size,1,none⟩=some (.int .i64 id)∧w'.cell? ⟨w.heap.size,2,none⟩=some (.slice A1 lits.length c1)∧w'.cell? ⟨w.heap.size,3,none⟩=some (.slice A2 hints.length c2)∧w'.cell? ⟨w.heap.size+1,0,none⟩=some (.bool del)∧w'.cell? ⟨w.heap.size+1,1,none⟩=some (.int .i64 id)∧w'.cell? ⟨w.heap.size+1,2,none⟩=some (.slice A3 lits.length c3)∧w'.cell? ⟨w.heap.size+1,3,none⟩=some (.slice A4 hints.length c4)) (by kernel_rfl) HS0.out (fun hHeld=>?_)
 obtain⟨wD,hwD⟩: ∃x,wb.drew=x:=⟨_,rfl⟩
 have hbD:Below wb.heap.size wb wD:=by rw[←hwD];exact mx_drew wb
 rw[hwD]at hHeld⊢
 have hzD:wD.heap.size=w.heap.size+2:=by rw[←hwD];exact hzb
 clear hwD
 refine takeS 0 5 ?_
 refine takeS 1 6 ?_
 refine takeS 2 7 ?_
 refine takeS 3 8 ?_
 refine takeS 4 9 ?_
 refine takeS 5 10 ?_
 refine takeS 6 11 ?_
 refine takeS 7 12 ?_
 refine takeS 8 13 ?_
 refine takeS 9 14 ?_
 refine takeS 10 15 ?_
 refine takeS 11 16 ?_
 refine takeS 12 17 ?_
 refine takeS 13 18 ?_
 refine takeS 14 19 ?_
 refine takeS 16 21 ?_
 refine takeS 17 22 ?_
 refine ready1 15 (fun K hK=>?_)
 go_simp
 refine(ints02 (.slice A1 lits.length c1) lits wD (HL.out.below (HB.out.trans (hbD.mono HB.out.size))) (by omega)).mono ?_
 rintro e w1 ⟨v1,rfl,ho1,hb1⟩
 obtain⟨Ai,ki,hv1,_⟩:=mx_slice ho1
 subst hv1
 have hz1:=hb1.size
 have HI1:=Lib.hid (IntsIn.of_own ho1)
 have HB1:=Lib.hid (HB.out.trans ((hbD.trans (hb1.mono hbD.size)).mono HB.out.size))
 refine hK.out _ _ ⟨(hb1.cell (p:=⟨w.heap.size,0,none⟩) (by show w.heap.size<_;omega)).trans hHeld.1,(hb1.cell (p:=⟨w.heap.size,1,none⟩) (by show w.heap.size<_;omega)).trans hHeld.2.1,(hb1.cell (p:=⟨w.heap.size,2,none⟩) (by show w.heap.size<_;omega)).trans hHeld.2.2.1,(hb1.cell (p:=⟨w.heap.size,3,none⟩) (by show w.heap.size<_;omega)).trans hHeld.2.2.2.1,(hb1.cell (p:=⟨w.heap.size+1,0,none⟩) (by show w.heap.size+1<_;omega)).trans hHeld.2.2.2.2.1,(hb1.cell (p:=⟨w.heap.size+1,1,none⟩) (by show w.heap.size+1<_;omega)).trans hHeld.2.2.2.2.2.1,(hb1.cell (p:=⟨w.heap.size+1,2,none⟩) (by show w.heap.size+1<_;omega)).trans hHeld.2.2.2.2.2.2.1,(hb1.cell (p:=⟨w.heap.size+1,3,none⟩) (by show w.heap.size+1<_;omega)).trans hHeld.2.2.2.2.2.2.2⟩ (fun hHeld1=>?_)
 clear hK hHeld ho1 hb1 hbD
 have hHeld:=hHeld1
 clear hHeld1
 refine ready1 18 (fun K hK=>?_)
 go_simp
 have he:=eq_i _ _ lits lits w1 HI1.out (HL'.out.below HB1.out) (by omega)
 rw[beq_self_eq_true]at he
 refine he.mono ?_
 rintro e w2 ⟨rfl,n2,hn2⟩
 have hb2:Below w1.heap.size w1 w2:=by rw[hn2];exact mx_drewN w1 n2
 have hz2:=hb2.size
 have HB2:=Lib.hid (HB1.out.trans (hb2.mono HB1.out.size))
 refine hK.out _ _ ⟨(hb2.cell (p:=⟨w.heap.size,0,none⟩) (by show w.heap.size<_;omega)).trans hHeld.1,(hb2.cell (p:=⟨w.heap.size,1,none⟩) (by show w.heap.size<_;omega)).trans hHeld.2.1,(hb2.cell (p:=⟨w.heap.size,2,none⟩) (by show w.heap.size<_;omega)).trans hHeld.2.2.1,(hb2.cell (p:=⟨w.heap.size,3,none⟩) (by show w.heap.size<_;omega)).trans hHeld.2.2.2.1,(hb2.cell (p:=⟨w.heap.size+1,0,none⟩) (by show w.heap.size+1<_;omega)).trans hHeld.2.2.2.2.1,(hb2.cell (p:=⟨w.heap.size+1,1,none⟩) (by show w.heap.size+1<_;omega)).trans hHeld.2.2.2.2.2.1,(hb2.cell (p:=⟨w.heap.size+1,2,none⟩) (by show w.heap.size+1<_;omega)).trans hHeld.2.2.2.2.2.2.1,(hb2.cell (p:=⟨w.heap.size+1,3,none⟩) (by show w.heap.size+1<_;omega)).trans hHeld.2.2.2.2.2.2.2⟩ (fun hHeld1=>?_)
 clear hK hHeld hb2 hn2 he
 have hHeld:=hHeld1
 clear hHeld1
 refine takeS 19 24 ?_
 refine takeS 20 25 ?_
 refine takeS 21 26 ?_
 refine takeS 22 27 ?_
 refine takeS 23 28 ?_
 refine takeS 24 29 ?_
 refine ready1 25 (fun K hK=>?_)
 go_simp
 have he:=eq_i _ _ hints hints w2 (HH.out.below HB2.out) (HH'.out.below HB2.out) (by omega)
 rw[beq_self_eq_true]at he
 refine he.mono ?_
 rintro e w3 ⟨rfl,n3,hn3⟩
 have hb3:Below w2.heap.size w2 w3:=by rw[hn3];exact mx_drewN w2 n3
 have hz3:=hb3.size
 have HB3:=Lib.hid (HB2.out.trans (hb3.mono HB2.out.size))
 refine hK.out _ _ ⟨(hb3.cell (p:=⟨w.heap.size,0,none⟩) (by show w.heap.size<_;omega)).trans hHeld.1,(hb3.cell (p:=⟨w.heap.size,1,none⟩) (by show w.heap.size<_;omega)).trans hHeld.2.1,(hb3.cell (p:=⟨w.heap.size,2,none⟩) (by show w.heap.size<_;omega)).trans hHeld.2.2.1,(hb3.cell (p:=⟨w.heap.size,3,none⟩) (by show w.heap.size<_;omega)).trans hHeld.2.2.2.1,(hb3.cell (p:=⟨w.heap.size+1,0,none⟩) (by show w.heap.size+1<_;omega)).trans hHeld.2.2.2.2.1,(hb3.cell (p:=⟨w.heap.size+1,1,none⟩) (by show w.heap.size+1<_;omega)).trans hHeld.2.2.2.2.2.1,(hb3.cell (p:=⟨w.heap.size+1,2,none⟩) (by show w.heap.size+1<_;omega)).trans hHeld.2.2.2.2.2.2.1,(hb3.cell (p:=⟨w.heap.size+1,3,none⟩) (by show w.heap.size+1<_;omega)).trans hHeld.2.2.2.2.2.2.2⟩ (fun hHeld1=>?_)
 clear hK hHeld hb3 hn3 he
 refine takeS 26 31 ?_
 refine takeS 27 4 ?_
 refine wpAnyH_done (by kernel_rfl) ?_ _
 go_wp2_with fail
 go_ret
 exact⟨rfl,HB3.out⟩
set_option maxRecDepth 100000 in
set_option maxHeartbeats 1000000 in
theorem eq7_any {O O':Nat→Prop} (u v:Value) (xs:List EStep) (w:World) (h1:StepIn O w u xs) (h2:StepIn O' w v xs) (hn:xs.length≤1000000) (hs: ∀s∈xs,s.lits.length≤1000000∧s.hints.length≤1000000):
  Calls Tryz.prog 18 #[u,v] w fun e w'=>e= .returned (.bool true)∧Below w.heap.size w w':=by
 have H1:=Lib.hid h1
 have H2:=Lib.hid h2
 have HS:=Lib.hid hs
 obtain⟨A1,c1,rfl,hc1,_,_⟩:=h1
 obtain⟨A2,c2,rfl,hc2,_,_⟩:=h2
 obtain⟨L,hL⟩: ∃L,xs.length=L:=⟨_,rfl⟩
 have HL:=Lib.hid hL
 rw[hL]at H1 H2 hc1 hc2 hn⊢
 have hEF:Calls Tryz.prog 46 #[.slice A1 L c1,.slice A2 L c2,.func (.func 47) #[] #[]] w fun e w'=>e= .returned (.bool true)∧Below w.heap.size w w':=by
  clear hL hs
  have hEN: ∀args w,(callFunc 47 args).run Tryz.prog w= .ok (.enter 47 args) w:=enters_of Tryz.func47 (by kernel_rfl) rfl
  go_enter Tryz.func46,Tryz.ntmps46
  go_wp2_with fail
  go_loopw [17] (fun iv wr=> ∃i:Nat,i≤L∧iv= .int .i64 i∧Hid (Below w.heap.size w wr)) (fun iv _=>L-(intOf iv).toNat)
  case atStart=>exact⟨0,Nat.zero_le _,rfl,Lib.hid (Below.refl _ _)⟩
  case round=>
   obtain⟨i,hi,rfl,HB⟩:=hrel
   by_cases hlt:i<L
   ·obtain⟨s,hs⟩: ∃s,xs[i]? =some s:=⟨_,List.getElem?_eq_getElem (by rw[HL.out];exact hlt)⟩
    obtain⟨A',c',hAc,_,_,hxs⟩:=H1.out.below HB.out
    obtain⟨A'',c'',hAc',_,_,hys⟩:=H2.out.below HB.out
    simp only[Value.slice.injEq]at hAc hAc'
    obtain⟨rfl,-,rfl⟩:=hAc
    obtain⟨rfl,-,rfl⟩:=hAc'
    obtain⟨g,o,ul,uh,rfl,hg,_,d0,d1,d2,d3,hul,huh⟩:=hxs i s hs
    obtain⟨g',o',vl,vh,rfl,hg',_,e0,e1,e2,e3,hvl,hvh⟩:=hys i s hs
    obtain⟨hsl,hsh⟩:=HS.out s (List.mem_of_getElem? hs)
    obtain⟨W1,hW1,hb1,hx1,hz1⟩:=al_new wr #[.bool s.del,.int .i64 s.id,ul,uh] 34
    obtain⟨W2,hW2,hb2,hx2,hz2⟩:=al_new W1 #[.bool s.del,.int .i64 s.id,vl,vh] 78
    have hb12:=hb1.trans (hb2.mono hb1.size)
    have hx12:=(hb2.block _ (heap_lt hx1)).trans hx1
    have HSM:=Lib.hid (eq7_step s ul uh vl vh W2 (hul.below hb12) (huh.below hb12) (hvl.below hb12) (hvh.below hb12) hsl hsh)
    have HB2:=Lib.hid (HB.out.trans (hb12.mono HB.out.size))
    obtain⟨Al,cl,rfl,_⟩:=hul
    obtain⟨Ah,ch,rfl,_⟩:=huh
    obtain⟨Bl,dl,rfl,_⟩:=hvl
    obtain⟨Bh,dh,rfl,_⟩:=hvh
    have e0:=(hb1.cell (p:=⟨g',o'+i*4,none⟩) hg').trans e0
    have e1:=(hb1.cell (p:=⟨g',o'+i*4+1,none⟩) hg').trans e1
    have e2:=(hb1.cell (p:=⟨g',o'+i*4+2,none⟩) hg').trans e2
    have e3:=(hb1.cell (p:=⟨g',o'+i*4+3,none⟩) hg').trans e3
    have x0:=mx_cell (j:=0) hx12
    have x1:=mx_cell (j:=1) hx12
    have x2:=mx_cell (j:=2) hx12
    have x3:=mx_cell (j:=3) hx12
    have y0:=mx_cell (j:=0) hx2
    have y1:=mx_cell (j:=1) hx2
    have y2:=mx_cell (j:=2) hx2
    have y3:=mx_cell (j:=3) hx2
    have HW1:=Lib.hid hW1
    have HW2:=Lib.hid hW2
    clear hW1 hW2 hb1 hb2 hb12 hx1 hx2 hx12 hz1 hz2 hxs hys hs hsl hsh
    go_upto_region 6 with fail
    rw[HW1.out]
    go_upto_region 7 with fail
    rw[HW2.out]
    go_wp2_with fail
    refine HSM.out.mono ?_
    rintro e w3 ⟨rfl,hb3⟩
    have HB3:=Lib.hid (HB2.out.trans (hb3.mono HB2.out.size))
    clear hb3 x0 x1 x2 x3 y0 y1 y2 y3 d0 d1 d2 d3 e0 e1 e2 e3
    go_wp2_with fail
    go_roundw
    case rel=>exact⟨i+1,by omega,by go_num,HB3⟩
    case measure=>simp[intOf];omega
   ·obtain rfl:i=L:=by omega
    go_wp2_with fail
    go_ret
    exact⟨rfl,HB.out⟩
 have HEF:=Lib.hid hEF
 clear hEF hs
 go_enter Tryz.func18,Tryz.ntmps18
 go_wp2_with fail
 refine HEF.out.mono ?_
 rintro e w1 ⟨rfl,hb1⟩
 have HB1:=Lib.hid hb1
 clear hb1
 go_wp2_with fail
 go_ret
 exact⟨rfl,HB1.out⟩
end Go.Proofs.YtajbmjpodeilpaaGreat
namespace Go.Proofs.YtajbmjpodeilpaaGreat
open Go.RowKit
abbrev StV:=EStep×(Option Addr×Nat)×(Option Addr×Nat)
def stcell (x:StV):List Value:= [.bool x.1.del,.int .i64 x.1.id,(Value.slice x.2.1.1 x.1.lits.length x.2.1.2),(Value.slice x.2.2.1 x.1.hints.length x.2.2.2)]
theorem stcell_at: ∀(K:List StV) (i:Nat) (x:StV),K[i]? =some x→(K.flatMap stcell)[i*4]? =some (.bool x.1.del)∧(K.flatMap stcell)[i*4+1]? =some (.int .i64 x.1.id)∧(K.flatMap stcell)[i*4+2]? =some (Value.slice x.2.1.1 x.1.lits.length x.2.1.2)∧(K.flatMap stcell)[i*4+3]? =some (Value.slice x.2.2.1 x.1.hints.length x.2.2.2)
 | [],i,x,h=>by simp at h
 | y::K,0,x,h=>by
  obtain rfl:y=x:=by simpa using h
  exact⟨rfl,rfl,rfl,rfl⟩
 | y::K,i+1,x,h=>by
  have:=stcell_at K i x (by simpa using h)
  rw[show(i+1)*4=i*4+4 by omega]
  exact this
theorem stinfo:(Tryz.prog.info? 34).map (fun i=>(i.zero,i.size,i.bytes))=some (some (.agg #[.bool false,.int .i64 0,.slice none 0 0,.slice none 0 0]),4,64):=by kernel_rfl
structure StMem (n0:Nat) (w:World) (v:Value) (K:List StV):Prop where
 row:w.ownsRow n0 34 4 v K.length (K.flatMap stcell)
 lit: ∀x∈K,w.ownsRow n0 55 1 (Value.slice x.2.1.1 x.1.lits.length x.2.1.2) x.1.lits.length (x.1.lits.map (Value.int .i64))
 hnt: ∀x∈K,w.ownsRow n0 3 1 (Value.slice x.2.2.1 x.1.hints.length x.2.2.2) x.1.hints.length (x.1.hints.map (Value.int .i64))
section
variable {n0:Nat} {w w1:World} {v v':Value} {K:List StV}
theorem StMem.nil (n0:Nat) (w:World):StMem n0 w (.slice none 0 0) []:=⟨World.ownsRow_nil _ _ _ _,(fun x hx=>by cases hx),(fun x hx=>by cases hx)⟩
theorem StMem.kept {O:Nat→Prop} (h:StMem n0 w v K) (k:Kept O w w1) (h1: ∀g,v.ownBlock=some g→¬O g) (h2: ∀x∈K,∀g,(Value.slice x.2.1.1 x.1.lits.length x.2.1.2).ownBlock=some g→¬O g) (h3: ∀x∈K,∀g,(Value.slice x.2.2.1 x.1.hints.length x.2.2.2).ownBlock=some g→¬O g):StMem n0 w1 v K:=
 ⟨own_kept h.row k h1,fun x hx=>own_kept (h.lit x hx) k (h2 x hx),fun x hx=>own_kept (h.hnt x hx) k (h3 x hx)⟩
theorem StMem.below (h:StMem n0 w v K) (k:Below w.heap.size w w1):StMem n0 w1 v K:=⟨own_below h.row k,fun x hx=>own_below (h.lit x hx) k,fun x hx=>own_below (h.hnt x hx) k⟩
theorem StMem.push (h:StMem n0 w v K) (hg:w.grownBy w1 v.ownBlock) (x:StV) (hr:w1.ownsRow n0 34 4 v' (K.length+1) (K.flatMap stcell++stcell x)) (hl:w.ownsRow n0 55 1 (Value.slice x.2.1.1 x.1.lits.length x.2.1.2) x.1.lits.length (x.1.lits.map (Value.int .i64))) (hh:w.ownsRow n0 3 1 (Value.slice x.2.2.1 x.1.hints.length x.2.2.2) x.1.hints.length (x.1.hints.map (Value.int .i64))):StMem n0 w1 v' (K++ [x]) where
 row:=by
  rw[List.length_append,List.flatMap_append]
  simpa using hr
 lit:=fun y hy=>by
  have hy2:w.ownsRow n0 55 1 (Value.slice y.2.1.1 y.1.lits.length y.2.1.2) y.1.lits.length (y.1.lits.map (Value.int .i64)):=by
   rcases List.mem_append.1 hy with hy|hy
   ·exact h.lit y hy
   ·rw[List.mem_singleton.1 hy];exact hl
  exact own_kept hy2 (Kept.grown hg) (fun g h1 h2=>mx_apart hy2 h.row (by decide) h1 h2.symm)
 hnt:=fun y hy=>by
  have hy2:w.ownsRow n0 3 1 (Value.slice y.2.2.1 y.1.hints.length y.2.2.2) y.1.hints.length (y.1.hints.map (Value.int .i64)):=by
   rcases List.mem_append.1 hy with hy|hy
   ·exact h.hnt y hy
   ·rw[List.mem_singleton.1 hy];exact hh
  exact own_kept hy2 (Kept.grown hg) (fun g h1 h2=>mx_apart hy2 h.row (by decide) h1 h2.symm)
theorem StMem.mono {n1:Nat} (h:StMem n0 w v K) (hn:n1≤n0):StMem n1 w v K:=⟨own_mono h.row hn,fun x hx=>own_mono (h.lit x hx) hn,fun x hx=>own_mono (h.hnt x hx) hn⟩
theorem StMem.stepIn (h:StMem n0 w v K):StepIn (fun g=>n0≤g) w v (K.map Prod.fst):=by
 have hrow:=h.row
 rcases hrow.2 with⟨rfl,h0⟩|⟨g,cap,cur,rfl,hb,hg,hle,_⟩
 ·exact⟨none,0,by rw[List.length_map,h0],by rw[List.length_map,h0];exact Nat.le_refl _,fun _=>rfl,fun i p hi=>by
   have:=(List.getElem?_eq_some_iff.1 hi).1
   rw[List.length_map]at this
   omega⟩
 ·refine⟨_,cap,by rw[List.length_map],by rw[List.length_map];exact hle,(fun h=>by cases h),fun i p hi=>?_⟩
  rw[List.getElem?_map]at hi
  cases hx:K[i]? with
  | none=>rw[hx]at hi;cases hi
  | some x=>
   rw[hx]at hi
   obtain rfl:=Option.some.inj hi
   obtain⟨e0,e1,e2,e3⟩:=stcell_at K i x hx
   have hxm:=List.mem_of_getElem? hx
   exact⟨g,0,(Value.slice x.2.1.1 x.1.lits.length x.2.1.2),(Value.slice x.2.2.1 x.1.hints.length x.2.2.2),rfl,heap_lt hg,hb,by rw[Nat.zero_add];exact mx_at hrow e0,by rw[Nat.zero_add];exact mx_at hrow e1,by rw[Nat.zero_add];exact mx_at hrow e2,by rw[Nat.zero_add];exact mx_at hrow e3,(IntsIn.of_own (h.lit x hxm)).mono fun _ h=>h.1,(IntsIn.of_own (h.hnt x hxm)).mono fun _ h=>h.1⟩
end
end Go.Proofs.YtajbmjpodeilpaaGreat
