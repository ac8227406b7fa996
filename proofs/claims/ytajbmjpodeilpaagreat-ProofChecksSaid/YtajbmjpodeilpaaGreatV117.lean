/- package rat: groups: the walk. Plain: the hints that are left of trimmed ones lead to the conflict too, all of them are needed, and fewer do not. Plain: steps keep a checker right; as long as the formula has a model, the entries have one. -/
import Derived.Test.YtajbmjpodeilpaaGreatV116
import Derived.Test.YtajbmjpodeilpaaGreatV106
namespace Go.Proofs.YtajbmjpodeilpaaGreat
open Go.RowKit Go.Shelf
attribute [local go_sem] Oper.semAt_some
theorem cand_run (A:Option Addr) (n c:Nat) (p:Int) (w:World):Calls Tryz.prog 142 #[.slice A n c,.int .i64 p] w fun e w'=>e= .returned (.func (.func 160) #[] #[.pointer (some ⟨w.heap.size,0,none⟩),.pointer (some ⟨w.heap.size+1,0,none⟩)])∧(w.alloc (.cells #[.slice A n c] 79)).alloc (.cells #[.int .i64 p] 55)=w':=by
 go_enter Tryz.func142,Tryz.ntmps142
 go_wp2
 go_ret
 exact⟨by simp,rfl⟩
theorem EntIn.lt {O:Nat→Prop} {w:World} {v:Value} {es:Ents} (h:EntIn O w v es):EntIn (fun g=>O g∧g<w.heap.size) w v es:=by
 obtain⟨A,c,hv,hc,hn,hx⟩:=h
 refine⟨A,c,hv,hc,hn,fun i p hi=>?_⟩
 obtain⟨g,o,u,h1,h2,h3,h4,h5,h6⟩:=hx i p hi
 exact⟨g,o,u,h1,h2,⟨h3,h2⟩,h4,h5,h6.lt⟩
def grpGo (wl ids rest:List Int):Int×Nat:=match rest.find? fun id=> !ids.contains id with
 | some id=>(id,92)
 | none=>ratIds wl 0 ids
theorem grp_eq (es:Ents) (p:Int) (gs:List (Int×List Int)):ratGrp es p gs=grpGo (ratWant es p) (gs.map Prod.fst) (ratWant es p):=rfl
theorem grp_step {wl ids:List Int} {k:Nat} {x:Int} (h:wl[k]? =some x):grpGo wl ids (wl.drop k)=if ids.contains x=true then grpGo wl ids (wl.drop (k+1))else(x,92):=by
 have hlt:=(List.getElem?_eq_some_iff.1 h).1
 rw[List.drop_eq_getElem_cons hlt]
 rw[List.getElem?_eq_getElem hlt]at h
 rw[Option.some.inj h]
 unfold grpGo
 rw[List.find?_cons]
 cases ids.contains x <;> rfl
theorem ids_step {wl ids:List Int} {last x:Int} {k:Nat} (h:ids[k]? =some x):ratIds wl last (ids.drop k)=if wl.contains x=false∨x≤last then(x,92)else ratIds wl x (ids.drop (k+1)):=by
 have hlt:=(List.getElem?_eq_some_iff.1 h).1
 rw[List.drop_eq_getElem_cons hlt]
 rw[List.getElem?_eq_getElem hlt]at h
 rw[Option.some.inj h]
 rfl
theorem want_asc {es:Ents} (h:Rising es) (p:Int):(ratWant es p).Pairwise (· < ·):=by
 unfold ratWant
 rw[List.pairwise_map]
 exact List.Pairwise.filter _ h
theorem res_67 {fn:Func} (h:fn.results= #[.tmp 6,.tmp 7]) (tmps:Array Value) (w:World):(results fn tmps).run Tryz.prog w= .ok (.tuple #[tmps.getD 6 undef,tmps.getD 7 undef]) w:=by
 simp[results,h]
structure GIc (w0:World) (bx n:Nat) (pre:List (Nat×Int)) (W:World):Prop where
 ex: ∃v,Boxed W bx 32 v∧W.ownsRow bx 3 1 v pre.length (pre.map fun x=>.int .i64 x.2)∧∀g,v.ownBlock=some g→n≤g
 low:Below bx w0 W
 kept:KpC (fun g=>g=bx∨n≤g) w0 W
theorem gic_own (w0:World) (bx n:Nat) {N:Nat} (hN:n≤N) (hb:bx≤n):OwnFrom N (GIc w0 bx n):=fun pre W W' row h hg hr=>by
 obtain⟨v,h1,h2,h3⟩:=h.ex
 exact⟨⟨v,boxed_grown h1 hg (fun q e=>(hr q e).2),own_nocells h2 hg (fun q e=>(hr q e).2),h3⟩,h.low.grown hg (Nat.le_of_lt (heap_lt h1)) (fun q e=>Nat.le_trans hb (Nat.le_trans hN (hr q e).1)),
  h.kept.trans ((KpC.of_grown hg).mono fun g _ e=>.inr (Nat.le_trans hN (hr g e.symm).1))⟩
structure GMidc (w0:World) (bx n:Nat) (es:Ents) (pre:List (Nat×Int)) (x:Nat×Int) (W:World) (_:Nat) (W':World):Prop where
 gi:GIc w0 bx n pre W'
 pr:CPre es 0 pre x W'
 po:KpC (fun g=>g=bx∨n≤g) W W'
theorem GMidc.turn {w0:World} {bx n:Nat} {es:Ents} {pre:List (Nat×Int)} {x:Nat×Int} {W W':World} {B l:Nat} {q q':Loop} (hb:bx≤n) (hl:n≤l) (h2:W'.heap[l]? =some (.loop q)) (h:GMidc w0 bx n es pre x W B W'):GMidc w0 bx n es pre x W B (W'.putObj l (.loop q')) where
 gi:=(gic_own w0 bx n (Nat.le_refl n) hb).putObj _ h.gi hl h2 rfl
 pr:=⟨h.pr.at_,h.pr.few⟩
 po:=h.po.trans ((KpC.putObj W' l _ _ h2 rfl rfl).mono (fun _ _ e=>e.elim))
set_option maxRecDepth 100000 in
set_option maxHeartbeats 4000000 in
theorem rat_groups {O Og:Nat→Prop} (lv gv:Value) (es:Ents) (p:Int) (gs:List (Int×List Int)) (w:World) (h:EntIn O w lv es) (ho:EntOk es) (hg:EntIn Og w gv gs) (hgl:gs.length≤1000000):
  Calls Tryz.prog 125 #[lv,.int .i64 p,gv] w fun e w'=>e= .returned (.tuple #[.int .i64 (ratGrp es p gs).1,.int .i64 ((ratGrp es p gs).2:Nat)])∧Below w.heap.size w w':=by
 obtain⟨i0,hi,iz0,iz1,iz2⟩:=info_parts jinfo_int
 have HLEN:=Lib.hid ho.len
 have HG:=Lib.hid hg
 have HE:=Lib.hid h
 have HOK:=Lib.hid ho
 obtain⟨A,c,rfl,hc,_,_⟩:=h
 obtain⟨Ag,cg,rfl,hcg,_,_⟩:=hg
 obtain⟨R,hR⟩: ∃R,ratGrp es p gs=R:=⟨_,rfl⟩
 rw[hR]
 have HR:=Lib.hid hR
 obtain⟨W1,hW1⟩: ∃x,w.alloc (.cells #[.slice A es.length c] 79)=x:=⟨_,rfl⟩
 have hb1:Below w.heap.size w W1:=by rw[←hW1];exact mx_al _ _
 have hz1:W1.heap.size=w.heap.size+1:=by rw[←hW1];simp
 have hc1:W1.cell? ⟨w.heap.size,0,none⟩=some (.slice A es.length c):=by rw[←hW1];exact mx_cell (j:=0) (World.alloc_heap_new _ _)
 obtain⟨W2,hW2⟩: ∃x,W1.alloc (.cells #[.slice none 0 0] 32)=x:=⟨_,rfl⟩
 have hb2:Below W1.heap.size W1 W2:=by rw[←hW2];exact mx_al _ _
 have hz2:W2.heap.size=w.heap.size+2:=by rw[←hW2];simp[hz1]
 have hx2:Boxed W2 (w.heap.size+1) 32 (.slice none 0 0):=by rw[←hW2,←hz1];exact Boxed.new _ _ _
 have hc2:W2.cell? ⟨w.heap.size,0,none⟩=some (.slice A es.length c):=(hb2.cell (p:=⟨w.heap.size,0,none⟩) (by simp only;omega)).trans hc1
 obtain⟨W3,hW3⟩: ∃x,(W2.alloc (.cells #[.slice A es.length c] 79)).alloc (.cells #[.int .i64 p] 55)=x:=⟨_,rfl⟩
 have hb3:Below W2.heap.size W2 W3:=by rw[←hW3];exact(mx_al _ _).alloc (by simp) _
 have hz3:W3.heap.size=w.heap.size+4:=by rw[←hW3];simp[hz2]
 obtain⟨Wa,hWa⟩: ∃x,W2.alloc (.cells #[.slice A es.length c] 79)=x:=⟨_,rfl⟩
 have hza:Wa.heap.size=w.heap.size+3:=by rw[←hWa];simp[hz2]
 have hla:Wa.cell? ⟨w.heap.size+2,0,none⟩=some (.slice A es.length c):=by rw[←hWa,←hz2];exact mx_cell (j:=0) (World.alloc_heap_new _ _)
 have hcl:W3.cell? ⟨w.heap.size+2,0,none⟩=some (.slice A es.length c):=by
  rw[←hW3,hWa]
  exact((mx_al Wa _).cell (p:=⟨w.heap.size+2,0,none⟩) (by simp only;omega)).trans hla
 have hcp:W3.cell? ⟨w.heap.size+3,0,none⟩=some (.int .i64 p):=by
  rw[←hW3,hWa,←hza]
  exact mx_cell (j:=0) (World.alloc_heap_new _ _)
 obtain⟨bx,hbx⟩: ∃bx,w.heap.size+1=bx:=⟨_,rfl⟩
 obtain⟨n,hn⟩: ∃n,W3.heap.size=n:=⟨_,rfl⟩
 rw[hbx]at hx2
 have hx3:Boxed W3 bx 32 (.slice none 0 0):=(hb3.block _ (heap_lt hx2)).trans hx2
 have hbw2:Below w.heap.size w W2:=hb1.trans (hb2.mono (by omega))
 have hbw3:Below w.heap.size w W3:=hbw2.trans (hb3.mono (by omega))
 have HC3:=Lib.hid (show W3.cell? ⟨w.heap.size,0,none⟩=some (.slice A es.length c)from(hb3.cell (p:=⟨w.heap.size,0,none⟩) (by simp only;omega)).trans hc2)
 have HE3:=Lib.hid ((EntIn.lt HE.out).below hbw3)
 have hX: ∀g:Nat,(g=bx∨n≤g)→¬(O g∧g<w.heap.size)∧g≠w.heap.size+2∧g≠w.heap.size+3:=fun g hg=>⟨fun h=>by have:=h.2;omega,by omega,by omega⟩
 have HSEQ:=Lib.hid (cand_stops (fun g=>g=bx∨n≤g) (w.heap.size+2) (w.heap.size+3) _ es p W3 hcl hcp HE3.out HOK.out hX)
 have HI0:=Lib.hid (show GIc W3 bx n [] W3 from⟨⟨_,hx3,World.ownsRow_nil _ _ _ _,fun g hg=>by cases hg⟩,Below.refl _ _,KpC.refl _ _⟩)
 have HBW3:=Lib.hid hbw3
 have HW1:=Lib.hid hW1
 have HW2:=Lib.hid hW2
 have HW3:=Lib.hid hW3
 have hzw:w.heap.size<bx:=by omega
 have hbn:bx<n:=by omega
 clear hX hb1 hb2 hb3 hc1 hc2 hx2 hx3 hcl hcp hbw2 hbw3 hR ho hW1 hW2 hW3
 refine(callsIn_wide (n:=10)).1 ?_
 refine callsIn_of_wp_marks Tryz.func125 rfl trivial ?_ rfl
 simp only[Tryz.ntmps125,List.size_toArray,List.length_cons,List.length_nil,Nat.reduceAdd,Nat.reduceSub,Array.replicate_succ,Array.replicate_zero,List.push_toArray,List.append_toArray,List.nil_append,List.cons_append]
 gi_wp2_with fail
 rw[HW1.out,HW2.out]
 refine⟨trivial,?_⟩
 refine(callsIn_wide.2 (cand_run A es.length c p W2)).mono ?_
 rintro e W' ⟨rfl,rfl⟩
 rw[HW3.out,hz2]
 gi_wp2_with fail
 refine wpIn_range_M (gf:=160) (lb:= #[.pointer (some ⟨w.heap.size+2,0,none⟩),.pointer (some ⟨w.heap.size+2+1,0,none⟩)]) rfl (enters_of Tryz.func160 (by kernel_rfl) rfl) HSEQ.out (Below.refl _ _) (fun _=>rfl)
  (fun pre x W W3 l r r' h1 h2 h3 h4=>h4.trans ((KpC.putObj W3 l _ _ h3 rfl rfl).mono (fun _ _ e=>e.elim))) (fun pre x W W3 l r r' h1 h2 h3 h4=>trivial)
  (GIc W3 bx n) (fun _ _=>False) (gic_own _ _ _ (by omega) (by omega)) (fun pre W W' row h _ _=>h) HI0.out
  ?frame (GMidc W3 bx n es)
  (fun pre x W Bx W' l r r' h1 h2 h3 h4=>h4.turn (by omega) (by omega) h3)
  ?assign ?body ?done ?stop
 case assign=>
  rintro l pre x W K hi hp hK
  dsimp only[cvv]
  gi_wp2
  obtain⟨Bx,hBx⟩: ∃b:Nat,b=0:=⟨0,rfl⟩
  exact hK Bx W (KeepsRec.refl W) ⟨hi,⟨hp.at_,hp.few⟩,KpC.refl _ _⟩
 case body=>
  rintro l pre x W Bx W' hm
  obtain⟨v,hv,hr,hf⟩:=hm.gi.ex
  obtain⟨d,hxd⟩:=hm.pr.at_
  have hkl:=hm.gi.kept
  have hin:=(EntIn.narrow HE3.out).kept hkl.kept (fun g hg ho=>by
   rcases ho with(e|e)|e
   ·have:=hg.1.2
    omega
   ·have:=hg.1.2
    omega
   ·exact hg.2 e)
  obtain⟨A',c',hAc,_,_,hxs⟩:=hin
  simp only[Value.slice.injEq,true_and]at hAc
  obtain⟨rfl,rfl⟩:=hAc
  obtain⟨g,o,u,rfl,hg,hgO,d0,_,_⟩:=hxs x.1 _ hxd
  have hgw:=hgO.1.2
  have hxl:=(List.getElem?_eq_some_iff.1 hxd).1
  have t0:W'.cell? ⟨w.heap.size,0,none⟩=some (.slice (some ⟨g,o,none⟩) es.length c):=(hkl.kept.cell (p:=⟨w.heap.size,0,none⟩) (World.block_lt_of_cell? W3 _ HC3.out) (fun h=>by
   rcases h with(e|e)|e
   ·simp only at e;omega
   ·simp only at e;omega
   ·exact xo_cell HC3.out e)).trans HC3.out
  have q1:=hv.cell
  obtain⟨Ar,cr,rfl,hcr⟩:=mx_slice hr
  have hln:pre.length≤1048576:=by
   have h1:=hm.pr.few
   have h2:=HLEN.out
   omega
  obtain⟨x1,x2⟩:=x
  simp only at d0 hxl
  have hxi:(x1:Int)<(es.length:Int):=by omega
  have hgW:=World.block_lt_of_cell? W' _ d0
  have htW:=World.block_lt_of_cell? W' _ t0
  have hbW:=heap_lt hv
  have HV:=Lib.hid hv
  have HR2:=Lib.hid hr
  have HF:=Lib.hid hf
  have HM:=Lib.hid hm
  have T0:=Lib.hid t0
  have D0:=Lib.hid d0
  have Q1:=Lib.hid q1
  clear hv hr hf hm hxs hkl t0 d0 q1 hxd
  have hnb: ∀i,i<n→¬(Value.slice Ar pre.length cr).ownBlock=some i:=fun i hi e=>by have:=HF.out i e;omega
  have hzn:n≤W'.heap.size:=by have:=HM.out.gi.low.size;omega
  gi_wp2
  refine wpIn_round_sink (fun w'=>Kept (fun i=>(Value.slice Ar pre.length cr).ownBlock=some i) W' w') (by kernel_rfl) rfl (by kernel_rfl) (by kernel_rfl) (fun⟨_,_,h⟩=>h) (Kept.of_below (mx_drew W')) (fun hS=>?_)
  simp only[List.dropLast]
  have hDW:=mx_drew W'
  obtain⟨wD,hwD⟩: ∃y,W'.drew=y:=⟨_,rfl⟩
  rw[hwD]at hS hDW⊢
  clear hwD
  refine takeF 0 21 (fun wq hSw=>(hSw.cell (p:=⟨bx,0,none⟩) hbW (hnb bx hbn)).trans Q1.out) ?_
  refine takeF 1 22 (fun wq hSw=>(hSw.cell (p:=⟨w.heap.size,0,none⟩) htW (hnb _ (by simp only;omega))).trans T0.out) ?_
  refine takeE 2 23 ?_
  refine takeE 3 24 ?_
  refine takeE 4 25 ?_
  refine takeF 5 26 (fun wq hSw=>(hSw.cell (p:=⟨g,o+x1*2,none⟩) hgW (hnb g (by omega))).trans D0.out) ?_
  refine ready1 6 (fun K hK=>?_)
  go_simp
  have hbE:Below wD.heap.size wD (wD.alloc (.cells #[.int .i64 x2] 3)):=mx_al _ _
  have hWE:Below W'.heap.size W' (wD.alloc (.cells #[.int .i64 x2] 3)):=hDW.trans (hbE.mono hDW.size)
  refine hK.out _ _ (Kept.of_below hWE) (fun _=>?_)
  clear hK
  refine ready1 7 (fun K hK=>?_)
  rw[if_pos (by rfl)]
  have hVD:Boxed wD bx 32 (.slice Ar pre.length cr):=(hDW.block _ hbW).trans HV.out
  have hRD:=own_below HR2.out hDW
  have hzD:=hDW.size
  refine wp_append_at 28 (by rfl) _ _ 32 rfl bx 3 i0 (.int .i64 0) 1 8 Tryz.underlying32 hi iz0 iz1 iz2 rfl (by decide) _ pre.length _ (by rfl) (own_below HR2.out hWE) ⟨wD.heap.size,0,none⟩ 1 1 [.int .i64 x2] (by rfl) rfl (cell_one_new' _ _ _) (by simp[Value.oneCell']) (by unfold maxLen;omega) (by omega) (by have:=hWE.size;omega) ?_
  intro v' w1 hown' hgrow hat
  obtain⟨a1,a2,a3,a4,a5⟩:=Boxed.appended hVD (by decide) hRD (by omega) (Nat.le_refl _) hown' hgrow
  obtain⟨g1,cap,rfl⟩:=ownsRow_succ hown'
  have hg1:n≤g1:=by
   rcases hat with e|e
   ·exact HF.out g1 (by rw[←e];rfl)
   ·have h1:g1=(wD.alloc (.cells #[.int .i64 x2] 3)).heap.size:=by simpa [Value.ownBlock] using e
    have:=hWE.size
    omega
  have q3:=a1.cell
  have q4:=a1.frozen
  have hk1:KpC (fun g=>g=bx∨n≤g) W' (w1.setCell ⟨bx,0,none⟩ (.slice (some ⟨g1,0,none⟩) (pre.length+1) cap)):=
   ((KpC.of_below hWE).trans ((KpC.of_grown hgrow).mono (fun g _ h=>.inr (HF.out g h.symm)))).trans ((KpC.of_grown (grownBy_setCell' w1 bx _)).mono (fun g _ h=>.inl (by cases h;rfl)))
  have HFIN:=Lib.hid (show KeepsRec W' (w1.setCell ⟨bx,0,none⟩ (.slice (some ⟨g1,0,none⟩) (pre.length+1) cap))∧GIc W3 bx n (pre++ [(x1,x2)]) (w1.setCell ⟨bx,0,none⟩ (.slice (some ⟨g1,0,none⟩) (pre.length+1) cap))∧KpC (fun g=>g=bx∨n≤g) W (w1.setCell ⟨bx,0,none⟩ (.slice (some ⟨g1,0,none⟩) (pre.length+1) cap))from
   ⟨(KeepsRec.of_below hDW).trans (keepsRec_others a4),⟨⟨_,a2,(by rw[List.length_append,List.map_append];exact a3),fun g hg=>by
    have e:g1=g:=by simpa [Value.ownBlock] using hg
    omega⟩,HM.out.gi.low.trans ((hDW.mono (by omega)).trans a5),HM.out.gi.kept.trans hk1⟩,HM.out.po.trans hk1⟩)
  refine hK.out _ _ ((Kept.of_below (O:=fun i=>(Value.slice Ar pre.length cr).ownBlock=some i) hWE).trans (Kept.grown hgrow) (fun i _ h=>h.symm)) (fun _=>?_)
  clear hK a1 a2 a3 a4 a5 hown' hgrow hat hk1 hVD hRD hbE hWE hDW hS
  simp only[Act.put,List.setIfInBounds_toArray,List.set_cons_zero,List.set_cons_succ]
  refine wpAnyH_done (by kernel_rfl) ?_ _
  refine lastPost_normal ?_
  refine wpOp_step rfl (fun K hK=>?_)
  go_simp
  refine hK _ _ ?_
  clear hK q3 q4
  try gi_wp2
  exact HFIN.out
 case done=>
  rintro D zs W hD hS hgi hDf
  obtain⟨v,hv,hr,hf⟩:=hgi.ex
  have hS:zs.map Prod.snd=ratWant es p:=hS
  obtain⟨wl,hwl⟩: ∃wl,ratWant es p=wl:=⟨_,rfl⟩
  have hwll:wl.length≤1048576:=by
   have h1:=want_len p es
   have h2:=HLEN.out
   rw[←hwl]
   omega
  have hwa:wl.Pairwise (· < ·):=by rw[←hwl];exact want_asc HOK.out.rise p
  have hmz:(zs.map fun x=>Value.int .i64 x.2)=wl.map (Value.int .i64):=by
   rw[←hwl,←hS,List.map_map]
   rfl
  have hlz:zs.length=wl.length:=by
   rw[←hwl,←hS,List.length_map]
  rw[hmz,hlz]at hr
  have HBW:=Lib.hid (HBW3.out.trans (hgi.low.mono (by omega)))
  have HGW:=Lib.hid (HG.out.below HBW.out)
  have HR1:=Lib.hid (show R=grpGo wl (gs.map Prod.fst) (wl.drop 0)from by rw[←HR.out,grp_eq,hwl,List.drop_zero])
  have HX:=Lib.hid hv
  have HRW:=Lib.hid hr
  have HD:=Lib.hid hDf
  have HWA:=Lib.hid hwa
  have q1:=hv.cell
  obtain⟨Ar,cr,rfl,hcr⟩:=mx_slice hr
  have hDl:=heap_lt hDf
  have hbl:=heap_lt hv
  have FIN:=Lib.hid (fun(wf:World) (hb:Below W.heap.size W wf)=>show wf.heap[D]? =some (.deferred (some []))∧Below w.heap.size w (wf.putObj D (.deferred none))from by
   have h1:=(hb.block D (heap_lt HD.out)).trans HD.out
   have h2:=HBW.out.trans (hb.mono HBW.out.size)
   exact⟨h1,h2.grown (grownBy_putObj' wf D _) h2.size (fun g e=>by cases e;have:=HBW3.out.size;omega)⟩)
  have HGL:=Lib.hid (show(gs.map Prod.fst).length=gs.length from List.length_map _)
  clear hv hr hf hgi hDf hS hmz hlz hwl hwa HR HI0 HSEQ
  gi_wp2_with fail
  gi_loopw [31] (fun i wr=> ∃k:Nat,k≤wl.length∧i= .int .i64 k∧Hid (R=grpGo wl (gs.map Prod.fst) (wl.drop k))∧Hid (Below W.heap.size W wr)) (fun i _=>wl.length-(intOf i).toNat)
  case atStart=>exact⟨0,Nat.zero_le _,rfl,HR1,Lib.hid (Below.refl _ _)⟩
  case round=>
   obtain⟨k,hk,rfl,HRk,HBk⟩:=hrel
   by_cases hlt:k<wl.length
   ·obtain⟨x,hx⟩:=getElem_of hlt
    obtain⟨g,c',hv',hg0,hg,e0⟩:=own_cell HRW.out hx
    simp only[Value.slice.injEq,true_and]at hv'
    obtain⟨rfl,rfl⟩:=hv'
    have d0:wr.cell? ⟨g,k,none⟩=some (.int .i64 x):=(HBk.out.cell (p:=⟨g,k,none⟩) hg).trans e0
    have hst:=HRk.out.trans (grp_step hx)
    obtain⟨W5,hW5⟩: ∃z,wr.alloc (.cells #[.int .i64 0] 3)=z:=⟨_,rfl⟩
    obtain⟨W6,hW6⟩: ∃z,W5.setCell ⟨wr.heap.size,0,none⟩ (.int .i64 x)=z:=⟨_,rfl⟩
    have hx5:Boxed W5 wr.heap.size 3 (.int .i64 0):=by rw[←hW5];exact Boxed.new _ _ _
    have hx6:Boxed W6 wr.heap.size 3 (.int .i64 x):=by rw[←hW6];exact hx5.set _
    have hb6:Below wr.heap.size wr W6:=by
     rw[←hW6,←hW5]
     exact(mx_al wr _).setCell (p:=⟨wr.heap.size,0,none⟩) (Nat.le_refl _) _
    have y5:=hx5.cell
    have f5:=hx5.frozen
    have y6:=hx6.cell
    have HCT:=Lib.hid (contains_gf wr.heap.size x _ gs W6 y6 ((HGW.out.below HBk.out).below hb6) hgl)
    obtain⟨ct,hct⟩: ∃b,(gs.map Prod.fst).contains x=b:=⟨_,rfl⟩
    rw[hct]at HCT hst
    have HB6:=Lib.hid (HBk.out.trans (hb6.mono HBk.out.size))
    have HST:=Lib.hid hst
    have HX6:=Lib.hid hx6
    clear hx e0 hst hx5 hx6 hb6 hct
    gi_wp2_with fail
    refine⟨trivial,?_⟩
    refine(callsIn_wide.2 HCT.out).mono ?_
    rintro e w7 ⟨rfl,hb7⟩
    have HB7:=Lib.hid (HB6.out.trans (hb7.mono HB6.out.size))
    have y7:w7.cell? ⟨wr.heap.size,0,none⟩=some (.int .i64 x):=(hb7.cell (p:=⟨wr.heap.size,0,none⟩) (heap_lt HX6.out)).trans y6
    clear hb7 y5 f5 y6 hW5 hW6 d0
    cases ct with
    | true=>
     have HS2:=Lib.hid (HST.out.trans (if_pos rfl))
     clear HST y7
     gi_wp2_with fail
     go_roundw
     case rel=>exact⟨k+1,by omega,by go_num,HS2,HB7⟩
     case measure=>simp[intOf];omega
    | false=>
     have HS2:=Lib.hid (HST.out.trans (if_neg (by decide)))
     clear HST
     gi_wp2_with fail
     obtain⟨h1,h2⟩:=FIN.out w7 HB7.out
     refine⟨by simp,.inl ⟨_,_,rfl,run_takeDeferred h1,?_⟩⟩
     refine⟨_,res_67 rfl _ _,?_,h2⟩
     rw[HS2.out]
     rfl
   ·obtain rfl:k=wl.length:=by omega
    have HR2:=Lib.hid (show R=ratIds wl 0 ((gs.map Prod.fst).drop 0)from by
     rw[HRk.out,List.drop_length,List.drop_zero]
     rfl)
    have HB1:=Lib.hid HBk.out
    obtain⟨wo,rfl⟩: ∃wo:World,wo=wr:=⟨_,rfl⟩
    clear HRk HR1
    gi_wp2_with fail
    gi_loopw [12,43] (fun lv i wr=> ∃(k:Nat) (last:Int),k≤gs.length∧lv= .int .i64 last∧i= .int .i64 k∧Hid (R=ratIds wl last ((gs.map Prod.fst).drop k))∧Hid (Below W.heap.size W wr)) (fun _ i _=>gs.length-(intOf i).toNat)
    case atStart=>exact⟨0,0,Nat.zero_le _,rfl,rfl,HR2,HB1⟩
    case round=>
     obtain⟨k,last,hk,rfl,rfl,HRj,HBj⟩:=hrel
     by_cases hlt2:k<gs.length
     ·obtain⟨x,hx⟩:=getElem_of hlt2
      obtain⟨A',c',hAc,_,_,hxs⟩:=HGW.out.below HBj.out
      simp only[Value.slice.injEq,true_and]at hAc
      obtain⟨rfl,rfl⟩:=hAc
      obtain⟨g,o,u,rfl,hg,_,d0,d1,hu⟩:=hxs k x hx
      have hst:=HRj.out.trans (ids_step (show(gs.map Prod.fst)[k]? =some x.1 from by rw[List.getElem?_map,hx];rfl))
      obtain⟨id,hs⟩:=x
      simp only at d0 d1 hu hst
      obtain⟨W1,W2,W3,hW1,hW2,hW3,f0,f1,f2,y0,y1,y2,hbx,hb3⟩:=two_new wr (.int .i64 0) (.slice none 0 0) (.int .i64 id) u 138
      have z0:=mx_cell (j:=0) hbx
      have HB3:=Lib.hid (HBj.out.trans (hb3.mono HBj.out.size))
      have q3:W3.cell? ⟨bx,0,none⟩=some (.slice Ar wl.length cr):=(HB3.out.cell (p:=⟨bx,0,none⟩) hbl).trans q1
      have HFD:=Lib.hid (row_find _ wl id W3 (own_below HRW.out HB3.out) HWA.out (by omega))
      have HZ:=Lib.hid hbx
      obtain⟨ct,hct⟩: ∃b,wl.contains id=b:=⟨_,rfl⟩
      rw[hct]at HFD hst
      obtain⟨Au,cu,rfl,_⟩:=hu
      clear hx hxs hbx hb3 hct
      gi_wp2_with fail
      refine⟨trivial,?_⟩
      refine(callsIn_wide.2 HFD.out).mono ?_
      rintro e w7 ⟨rfl,hb7⟩
      have HB7:=Lib.hid (HB3.out.trans (hb7.mono HB3.out.size))
      have z7:w7.cell? ⟨wr.heap.size,0,none⟩=some (.int .i64 id):=(hb7.cell (p:=⟨wr.heap.size,0,none⟩) (heap_lt HZ.out)).trans z0
      clear hb7 z0 q3 f0 f1 f2 y0 y1 y2 hW1 hW2 hW3 d0 d1
      by_cases hbad:ct=false∨id≤last
      ·have HS2:=Lib.hid (hst.trans (if_pos hbad))
       have q5:ct=true→decide (id≤last)=true:=fun h=>by
        rcases hbad with e|e
        ·rw[h]at e
         cases e
        ·exact decide_eq_true e
       clear hst hbad
       cases ct with
       | false=>
        gi_wp2_with fail
        obtain⟨h1,h2⟩:=FIN.out w7 HB7.out
        refine⟨by simp,.inl ⟨_,_,rfl,run_takeDeferred h1,?_⟩⟩
        refine⟨_,res_67 rfl _ _,?_,h2⟩
        rw[HS2.out]
        rfl
       | true=>
        have q6:=q5 rfl
        clear q5
        gi_wp2_with fail
        obtain⟨h1,h2⟩:=FIN.out w7 HB7.out
        refine⟨by simp,.inl ⟨_,_,rfl,run_takeDeferred h1,?_⟩⟩
        refine⟨_,res_67 rfl _ _,?_,h2⟩
        rw[HS2.out]
        rfl
      ·have HS2:=Lib.hid (hst.trans (if_neg hbad))
       have hct:ct=true:=by
        cases ct with
        | true=>rfl
        | false=>exact absurd (.inl rfl) hbad
       have q5:decide (id≤last)=false:=decide_eq_false fun h=>hbad (.inr h)
       subst hct
       clear hst hbad
       gi_wp2_with fail
       go_roundw
       case rel=>exact⟨k+1,id,by omega,rfl,by go_num,HS2,HB7⟩
       case measure=>simp[intOf];omega
     ·obtain rfl:k=gs.length:=by omega
      have HS2:=Lib.hid (show R=(0,0)from by
       rw[HRj.out,←HGL.out,List.drop_length]
       rfl)
      gi_wp2_with fail
      obtain⟨h1,h2⟩:=FIN.out wr HBj.out
      refine⟨by simp,.inl ⟨_,_,rfl,run_takeDeferred h1,?_⟩⟩
      refine⟨_,res_67 rfl _ _,?_,h2⟩
      rw[HS2.out]
      rfl
 case stop=>
  rintro D pre W hD _ hf _
  exact hf.elim
end Go.Proofs.YtajbmjpodeilpaaGreat
namespace Go.Proofs.YtajbmjpodeilpaaGreat
open Go.RowKit
theorem alwL_not {c:List Int} (hc:clauseB c=true) (h:alwL c=false): ∀y∈c,-y∉c:=fun y hy hn=>by
 have hr: ∀x∈c,litB x=true:=fun x hx=>clauseB_lit hc hx
 unfold alwL at h
 rw[hc,Bool.true_and]at h
 have key:=alw_pair (xs:=normL c) (fun x hx=>hr x ((normL_has hr).1 hx)) (normL_pair hr) h
 have hy0:=litB_ne (hr y hy)
 rcases Int.lt_or_gt_of_ne hy0 with e|e
 ·exact key (-y) ((normL_has hr).2 hn) (by omega) y ((normL_has hr).2 hy) (by omega)
 ·exact key y ((normL_has hr).2 hy) e (-y) ((normL_has hr).2 hn) rfl
structure Chs (L:List Int) (ds:List (List Int)) (us:List Int):Prop where
 len:ds.length=us.length
 at_: ∀(j:Nat) (u:Int) (d:List Int),us[j]? =some u→ds[j]? =some d→u∈d∧litB u=true∧u∉L∧ -u∉L∧∀y∈d,y≠u→y∈L∨∃i,i<j∧us[i]? =some (-y)
 inj: ∀(i j:Nat) (u v:Int),i<j→us[i]? =some u→us[j]? =some v→litV u≠litV v
theorem Chs.nil (L:List Int):Chs L [] []:=⟨rfl,fun j u d h=>by simp at h,fun i j u v _ h=>by simp at h⟩
section
variable {L us:List Int} {ds:List (List Int)}
end
structure Chc (L:List Int) (ds:List (List Int)) (us:List Int) (c:List Int):Prop where
 chs:Chs L ds us
 con: ∀y∈c,y∈L∨ -y∈us
section
variable {L us c:List Int} {ds hs:List (List Int)}
end
theorem needM_or {z:Int}: ∀(xs:List Int) (f:Int→Int),needM f xs z≠0↔f z≠0∨∃l∈xs,z=litN l:=by
 intro xs
 induction xs with
 | nil=>exact fun f=>⟨.inl,fun h=>h.elim id (fun⟨l,hl,_⟩=>by cases hl)⟩
 | cons x r ih=>
  intro f
  have:=ih (fun z=>if z=litN x then 1 else f z)
  refine this.trans ?_
  simp only[List.mem_cons]
  constructor
  ·rintro (h|⟨l,h1,h2⟩)
   ·by_cases e:z=litN x
    ·exact .inr ⟨x,.inl rfl,e⟩
    ·rw[if_neg e]at h
     exact .inl h
   ·exact .inr ⟨l,.inr h1,h2⟩
  ·rintro (h|⟨l,h1|h1,h2⟩)
   ·left
    split
    ·decide
    ·exact h
   ·left
    rw[h1]at h2
    rw[if_pos h2]
    decide
   ·exact .inr ⟨l,h1,h2⟩
theorem needGo_spec {hs:List (List Int)} {us:List Int}: ∀(k:Nat) (f:Int→Int) (out:List Int),∃T:List Nat,needGo hs us k f out=out++T.map Int.ofNat∧T.Pairwise (fun a b=>b<a)∧(∀j∈T,j<k)∧
  ∀j,j<k→(j∈T↔(us.length≤j∨f (us.getD j 0)≠0∨∃i∈T,j<i∧∃l∈hs.getD i [],us.getD j 0=litN l)):=by
 intro k
 induction k with
 | zero=>exact fun f out=>⟨[],(List.append_nil _).symm,List.Pairwise.nil,(fun j hj=>by cases hj),fun j hj=>by omega⟩
 | succ k ih=>
  intro f out
  by_cases hk:k<us.length∧f (us.getD k 0)=0
  ·obtain⟨T,h1,h2,h3,h4⟩:=ih f out
   refine⟨T,by unfold needGo;rw[if_pos hk,h1],h2,fun j hj=>by have:=h3 j hj;omega,fun j hj=>?_⟩
   by_cases e:j=k
   ·subst e
    constructor
    ·intro h
     have:=h3 j h
     omega
    ·rintro (h|h|⟨i,h,h5,_⟩)
     ·omega
     ·exact absurd hk.2 h
     ·have:=h3 i h
      omega
   ·exact h4 j (by omega)
  ·obtain⟨T,h1,h2,h3,h4⟩:=ih (needM f (hs.getD k [])) (out++ [(k:Int)])
   refine⟨k::T,?_,List.pairwise_cons.2 ⟨h3,h2⟩,fun j hj=>?_,fun j hj=>?_⟩
   ·unfold needGo
    rw[if_neg hk,h1,List.append_assoc]
    rfl
   ·rcases List.mem_cons.1 hj with e|hj
    ·omega
    ·have:=h3 j hj
     omega
   ·by_cases e:j=k
    ·subst e
     refine⟨fun _=>?_,fun _=>List.mem_cons_self⟩
     rcases Nat.lt_or_ge j us.length with hl|hl
     ·exact .inr (.inl fun h0=>hk ⟨hl,h0⟩)
     ·exact .inl hl
    ·have hjk:j<k:=by omega
     have h5:=h4 j hjk
     rw[List.mem_cons]
     constructor
     ·rintro (h|h)
      ·omega
      ·rcases h5.1 h with h6|h6|⟨i,h6,h7,h8⟩
       ·exact .inl h6
       ·rcases (needM_or _ _).1 h6 with h7|⟨l,h7,h8⟩
        ·exact .inr (.inl h7)
        ·exact .inr (.inr ⟨k,List.mem_cons_self,hjk,l,h7,h8⟩)
       ·exact .inr (.inr ⟨i,List.mem_cons_of_mem _ h6,h7,h8⟩)
     ·intro h
      refine .inr (h5.2 ?_)
      rcases h with h6|h6|⟨i,h6,h7,l,h8,h9⟩
      ·exact .inl h6
      ·exact .inr (.inl ((needM_or _ _).2 (.inl h6)))
      ·rcases List.mem_cons.1 h6 with e2|h6
       ·subst e2
        exact .inr (.inl ((needM_or _ _).2 (.inr ⟨l,h8,h9⟩)))
       ·exact .inr (.inr ⟨i,h6,h7,l,h8,h9⟩)
theorem needL_spec (hs:List (List Int)) (us:List Int): ∃T:List Nat,needL hs us=T.map Int.ofNat∧T.Pairwise (fun a b=>a<b)∧(∀j∈T,j<hs.length)∧
  ∀j,j<hs.length→(j∈T↔(us.length≤j∨∃i∈T,j<i∧∃l∈hs.getD i [],us.getD j 0=litN l)):=by
 obtain⟨T,h1,h2,h3,h4⟩:=needGo_spec (hs:=hs) (us:=us) hs.length (fun _=>0) []
 refine⟨T.reverse,?_,List.pairwise_reverse.2 h2,fun j hj=>h3 j (List.mem_reverse.1 hj),fun j hj=>?_⟩
 ·unfold needL
  rw[h1,List.nil_append,List.map_reverse]
 ·rw[List.mem_reverse,h4 j hj]
  simp only[List.mem_reverse,ne_eq,not_true_eq_false,false_or]
section
variable {L us d:List Int} {ds:List (List Int)}
end
structure TrimO (L:List Int) (hs:List (List Int)) (T:List Nat):Prop where
 eq:trimP L hs=T.map Int.ofNat
 lt: ∀j∈T,j<hs.length
 asc:T.Pairwise (fun a b=>a<b)
 ok:(chkP L (T.map fun j=>hs.getD j [])).2.2=0
 again:trimP L (T.map fun j=>hs.getD j [])=(List.range T.length).map Int.ofNat
 few: ∀k,k<T.length→(chkP L ((T.map fun j=>hs.getD j []).take k)).2.2=82
end Go.Proofs.YtajbmjpodeilpaaGreat
namespace Go.Proofs.YtajbmjpodeilpaaGreat
open Go.RowKit
theorem putA_mem {m:Ents} {x:Int} {v:List Int} {p:Int×List Int}:p∈putA m x v↔p=(x,v)∨p∈m∧p.1≠x:=by
 unfold putA
 rw[insA_mem,delA_mem]
theorem ckDel_mem: ∀(ids:List Int) (es:Ents),∀p∈(ckDel es ids).1,p∈es:=by
 intro ids
 induction ids with
 | nil=>exact fun _ _ h=>h
 | cons id r ih=>
  intro es p hp
  unfold ckDel at hp
  split at hp
  ·exact hp
  ·exact(delA_mem.1 (ih _ p hp)).1
theorem ckDel_rise: ∀(ids:List Int) (es:Ents),Rising es→Rising (ckDel es ids).1:=by
 intro ids
 induction ids with
 | nil=>exact fun _ h=>h
 | cons id r ih=>
  intro es h
  unfold ckDel
  split
  ·exact h
  ·exact ih _ (h.del id)
theorem ckDel_len: ∀(ids:List Int) (es:Ents),(ckDel es ids).1.length≤es.length:=by
 intro ids
 induction ids with
 | nil=>exact fun _=>Nat.le_refl _
 | cons id r ih=>
  intro es
  unfold ckDel
  split
  ·exact Nat.le_refl _
  ·exact Nat.le_trans (ih _) (List.length_filter_le _ _)
theorem stepB_parts {s:EStep} (h:stepB s=true):0≤s.id∧s.id≤1073741824∧(s.del=false→s.id≠0)∧(s.del=true→s.lits= [])∧clauseB s.lits=true∧s.hints.length≤65536∧∀x∈s.hints,x≠0∧x≤1073741824∧ -1073741824≤x∧(s.del=true→0<x):=by
 unfold stepB at h
 simp only[Bool.and_eq_true,Bool.not_eq_true',Bool.or_eq_false_iff,Bool.and_eq_false_iff,decide_eq_false_iff_not,decide_eq_true_eq,Bool.not_eq_false',List.any_eq_false,Bool.or_eq_true,not_or,not_and]at h
 obtain⟨⟨⟨⟨h1,h2⟩,h3⟩,h4⟩,⟨h5,h6⟩,h7⟩:=h
 refine⟨by omega,by omega,fun e=>?_,fun e=>?_,h5,h6,fun x hx=>?_⟩
 ·rcases h3 with h3|h3
  ·rw[e]at h3;cases h3
  ·exact h3
 ·rcases h4 with h4|h4
  ·rw[e]at h4;cases h4
  ·exact List.length_eq_zero_iff.1 (by omega)
 ·obtain⟨⟨⟨a,b⟩,c⟩,d⟩:=h7 x hx
  exact⟨a,by omega,by omega,fun e=>by have:=d e;omega⟩
section
variable {k:Ckr} {s:EStep} {N:Nat}
inductive DoO (k:Ckr) (s:EStep) (r:Ckr×Nat×Int×Nat):Prop
 | done (h:k.proved=true) (e:r=(k,0,0,0))
 | bad (h:k.proved=false) (h1:r.1=k) (h2:r.2.1=0) (h3:r.2.2.2≠0)
 | del (h:k.proved=false) (hs:stepB s=true) (hl:k.last≤s.id) (hd:s.del=true) (he:(ckDel k.ents s.hints).2.2=0) (e:r=({ k with ents:=(ckDel k.ents s.hints).1,last:=s.id,dels:=k.dels+1 },0,0,0))
 | add (h:k.proved=false) (hs:stepB s=true) (hl:k.last<s.id) (hd:s.del=false) (he:(ckAdd k.ents s.lits s.hints).2.2=0) (e:r=({ (k.put s.id s.lits)with adds:=k.adds+1,rats:=if(ckAdd k.ents s.lits s.hints).1=2 then k.rats+1 else k.rats },(ckAdd k.ents s.lits s.hints).1,0,0))
theorem do_or (k:Ckr) (s:EStep):DoO k s (k.do_ s):=by
 unfold Ckr.do_
 cases hp:k.proved with
 | true=>rw[if_pos rfl];exact .done hp rfl
 | false=>
  rw[if_neg (by decide)]
  cases hs:stepB s with
  | false=>rw[if_pos rfl];exact .bad hp rfl rfl (by show(70:Nat)≠0;decide)
  | true=>
   rw[if_neg (by decide)]
   split
   ·exact .bad hp rfl rfl (by show(100:Nat)≠0;decide)
   ·rename_i h1
    cases hd:s.del with
    | true=>
     rw[if_pos rfl]
     split
     ·rename_i h2
      exact .del hp hs (by omega) hd h2 (by rw[hp])
     ·rename_i h2
      exact .bad hp rfl rfl h2
    | false=>
     rw[hd]at h1
     rw[if_neg (by decide)]
     split
     ·rename_i h2
      exact .bad hp rfl rfl h2
     ·rename_i h2
      exact .add hp hs (by
       have: ¬(s.id<k.last∨s.id=k.last∧false=false):=h1
       simp only[and_true]at this
       omega) hd (Classical.byContradiction h2) rfl
theorem any_put {es:Ents} {id:Int} {c:List Int} (h: ∀p∈es,p.1≠id):(putA es id c).any (fun p=>p.2.isEmpty)=(es.any (fun p=>p.2.isEmpty)||c.isEmpty):=by
 refine Bool.eq_iff_iff.2 ?_
 rw[Bool.or_eq_true,List.any_eq_true,List.any_eq_true]
 constructor
 ·rintro ⟨p,hp,e⟩
  rcases putA_mem.1 hp with rfl|⟨hp,_⟩
  ·exact .inr e
  ·exact .inl ⟨p,hp,e⟩
 ·rintro (⟨p,hp,e⟩|e)
  ·exact⟨p,putA_mem.2 (.inr ⟨hp,h p hp⟩),e⟩
  ·exact⟨_,putA_mem.2 (.inl rfl),e⟩
theorem Ckr.Ok.put (h:k.Ok N) {id:Int} {c:List Int} (hl:k.last<id) (h1:id≤1073741824) (hc:clauseB c=true):(k.put id c).Ok (N+1) where
 rise:=h.rise.put id c
 ids:=fun p hp=>by
  show 1≤p.1∧p.1≤1073741824∧p.1≤id
  have:=h.last0
  rcases putA_mem.1 hp with rfl|⟨hp,_⟩
  ·exact⟨by show 1≤id;omega,h1,Int.le_refl _⟩
  ·obtain⟨a,b,d⟩:=h.ids p hp
   exact⟨a,b,by omega⟩
 cls:=fun p hp=>by
  rcases putA_mem.1 hp with rfl|⟨hp,_⟩
  ·exact hc
  ·exact h.cls p hp
 last0:=by show 0≤id;have:=h.last0;omega
 last1:=h1
 len:=by
  have:=putA_length_le k.ents id c
  have:=h.len
  show(putA k.ents id c).length≤_
  omega
 prv:=by
  show(k.proved||c.isEmpty)=(putA k.ents id c).any (fun p=>p.2.isEmpty)∨(k.proved||c.isEmpty)=false
  rw[any_put (fun p hp=>by have:=(h.ids p hp).2.2;omega)]
  rcases h.prv with e|e
  ·exact .inl (by rw[e])
  ·rw[e]
   cases hc:c.isEmpty with
   | false=>exact .inr rfl
   | true=>left;simp
 adds:=⟨h.adds.1,by have:=h.adds.2;show k.adds≤_;omega⟩
 dels:=⟨h.dels.1,by have:=h.dels.2;show k.dels≤_;omega⟩
 rats:=⟨h.rats.1,by have:=h.rats.2;show k.rats≤_;omega⟩
 larg:=by
  have:=putA_length_le k.ents id c
  have:=h.len
  have:=h.larg
  show 0≤max k.largest ((putA k.ents id c).length:Int)∧max k.largest ((putA k.ents id c).length:Int)≤_
  omega
theorem do_ok (h:k.Ok N):(k.do_ s).1.Ok (N+1):=by
 have hmono:k.Ok (N+1):={ h with
  len:=Nat.le_succ_of_le h.len
  adds:=⟨h.adds.1,by have:=h.adds.2;omega⟩
  dels:=⟨h.dels.1,by have:=h.dels.2;omega⟩
  rats:=⟨h.rats.1,by have:=h.rats.2;omega⟩
  larg:=⟨h.larg.1,by have:=h.larg.2;omega⟩ }
 rcases do_or k s with⟨_,e⟩|⟨_,e,_⟩|⟨hp,hs,hl,hd,he,e⟩|⟨hp,hs,hl,hd,he,e⟩
 ·rw[e];exact hmono
 ·rw[e];exact hmono
 ·rw[e]
  obtain⟨s0,s1,_⟩:=stepB_parts hs
  exact {
   rise:=ckDel_rise _ _ h.rise
   ids:=fun p hp=>by
    obtain⟨a,b,d⟩:=h.ids p (ckDel_mem _ _ p hp)
    exact⟨a,b,Int.le_trans d hl⟩
   cls:=fun p hp=>h.cls p (ckDel_mem _ _ p hp)
   last0:=s0
   last1:=s1
   len:=Nat.le_trans (ckDel_len _ _) (Nat.le_succ_of_le h.len)
   prv:=.inr hp
   adds:=hmono.adds
   dels:=by
    have:=h.dels
    show 0≤k.dels+1∧k.dels+1≤_
    omega
   rats:=hmono.rats
   larg:=hmono.larg }
 ·rw[e]
  obtain⟨s0,s1,_,_,hc,_⟩:=stepB_parts hs
  have h2:=h.put hl s1 hc
  exact { h2 with
   adds:=by
    have:=h.adds
    show 0≤k.adds+1∧k.adds+1≤_
    omega
   rats:=by
    have:=h.rats
    show 0≤(if(ckAdd k.ents s.lits s.hints).1=2 then k.rats+1 else k.rats)∧(if(ckAdd k.ents s.lits s.hints).1=2 then k.rats+1 else k.rats)≤_
    split <;> omega }
def Ckr.Exact (k:Ckr):Prop:=k.proved=k.ents.any (fun p=>p.2.isEmpty)
end
def SatE (n:Nat) (es:Ents):Prop:= ∀p∈es,p.2.any (bitT n)=true
def SatN (es:Ents):Prop:= ∃n,n<128∧n%2=0∧SatE n es
theorem ratIds_mem {want:List Int}: ∀(gs:List Int) (last:Int),(ratIds want last gs).2=0→∀g∈gs,g∈want:=by
 intro gs
 induction gs with
 | nil=>intro _ _ g hg;cases hg
 | cons x r ih=>
  intro last h g hg
  unfold ratIds at h
  split at h
  ·cases h
  ·rename_i h1
   rcases List.mem_cons.1 hg with e|hg
   ·rw[e]
    refine List.contains_iff_mem.1 ?_
    cases hx:want.contains x with
    | true=>rfl
    | false=>exact absurd (.inl hx) h1
   ·exact ih _ h g hg
end Go.Proofs.YtajbmjpodeilpaaGreat
