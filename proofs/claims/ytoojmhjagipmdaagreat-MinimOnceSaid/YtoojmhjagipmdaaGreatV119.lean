/- The watch: put, drop. An arena, a trail and their watch; the watch's small functions. The watch: Remove, once, Back, New; arena.Has. -/
import Derived.Test.YtoojmhjagipmdaaGreatV118
import Derived.Test.YtoojmhjagipmdaaGreatV100
import Derived.Test.YtoojmhjagipmdaaGreatV113
import Derived.Test.YtoojmhjagipmdaaGreatV105
import Derived.Test.YtoojmhjagipmdaaGreatV104
import Derived.Test.YtoojmhjagipmdaaGreatV107
import Derived.Test.YtoojmhjagipmdaaGreatV111
import Derived.Test.YtoojmhjagipmdaaGreatV114
import Derived.Deep.DeepMust
namespace Go.Proofs.YtoojmhjagipmdaaGreat
open Go.RowKit Go.Maps Go.Shelf
theorem wp_putS_at {P:Program} {kt t et:TypeId} {w:World} {b:Nat} {m:List (Int×Value)} {o:Oper} {a:Act} {K:Act→World→Prop} {Q:Exit→Act→World→Prop} (h:MapS P kt w b m) (KK:Keyed P kt) (hk:P.underlying kt=some (.int .i64)) (ht:P.underlying t=some (.map kt et))
  (mm x v:Operand) (hop:o.op=Op.mapUpdate t mm x v) (hm:a.eval mm= .map (some b)) (hn:m.length<maxLen) (i:Int) (y:Value) (hx:a.eval x= .int .i64 i) (hv:a.eval v=y) (hi:(Lit.int .i64 i).wf=true)
  (hK: ∀w',MapS P kt w' b (putA m i y)→w.grownBy w' (some b)→K (a.put o.dst undef) w'):Oper.wp P o a w K Q:=by
 obtain⟨w',hr,h2,h3⟩:=h.update KK hk ht hn hi y
 unfold Oper.wp execOp
 simp only[hop,hm,hx,hv,Sem.run_bind,Sem.run_pure,Result.andThen_ok,hr]
 exact hK w' h2 h3
theorem look_rows {w:World} {ob:Nat} {F:List (Int×OfM)} (h:MapO w ob (mapV OfM.v F)) {l:Int} (hl:(Lit.int .i64 l).wf=true):(Instr.lookup 155 (.map (some ob)) (.int .i64 l) false).run Tryz.prog w= .ok (rowV F l) w:=by
 have:=h.look lit_law Tryz.underlying32 Tryz.underlying155 (lit_zero_slice w) false hl
 rw[mapV_get]at this
 exact this
theorem kept_or {O O':Nat→Prop} {a b c:World} (h:Kept O a b) (k:Kept O' b c):Kept (fun g=>O g∨O' g) a c:=(h.mono (fun _ _ h=>Or.inl h)).trans k (fun _ _ h=>.inr h)
def WF (O:Nat→Prop) (ob:Nat) (w:World) (g:Nat):Prop:=O g∧(g=ob∨∃c,w.heap[g]? =some (.cells c 3 (0,0)))
def WaMNext (O:Nat→Prop) (w w':World) (b ab tb:Nat) (S':Wst) (kb ob:Nat) (K:List (Int×KnM)):Prop:=(∃F' tg',WaMem (fun g=>O g∨w.heap.size≤g∧g<w'.heap.size) w' b ab tb S' kb ob K F' tg')∧Kept (WF O ob w) w w'
def WaNext (O:Nat→Prop) (w w':World) (b ab tb:Nat) (S':Wst):Prop:=WaAt (fun g=>O g∨w.heap.size≤g∧g<w'.heap.size) w' b ab tb S'∧Kept O w w'
theorem wf_lit {l:Int} (h:litB l=true):(Lit.int .i64 l).wf=true:=by
 have:=(litB_iff l).1 h
 exact wf64 (by omega) (by omega)
set_option maxRecDepth 100000 in
set_option maxHeartbeats 2000000 in
theorem wa_put_m {O:Nat→Prop} (b ab tb:Nat) (S:Wst) (kb ob:Nat) (K:List (Int×KnM)) (F:List (Int×OfM)) (tg:Nat→Option WTag) (l id:Int) (w:World) (hb:S.Bnd) (hm:WaMem O w b ab tb S kb ob K F tg) (hl:litB l=true) (hid:1≤id∧id≤1073741824):
  Calls Tryz.prog 109 #[.pointer (some ⟨b,0,none⟩),.int .i64 l,.int .i64 id] w fun e w'=>e= .returned (.tuple #[])∧WaMNext O w w' b ab tb (S.put l id) kb ob K:=by
 obtain⟨hrow,htag⟩:=hm.rowAt l
 have hwf:=wf_lit hl
 have c3:w.cell? ⟨b,3,none⟩=some (.map (some ob)):=mx_cell (j:=3) hm.block
 have hse:=row_search (rowV F l) (S.row l) id w hrow (hb.row l).1 (hb.rowLen l)
 have hins:=fun(vb:Nat) (W:World) (h1:W.ownsRow 0 3 1 (rowV F l) (S.row l).length ((S.row l).map (Value.int .i64))) (h2:W.heap[vb]? =some (.cells #[.int .i64 id] 3 (0,0))) (h3:(rowV F l).ownBlock≠some vb)=>row_insert (vb:=vb) (rowV F l) (S.row l) id W h1 (Nat.zero_le _) h2 h3 (hb.rowLen l)
 have hil:=insI_length (S.row l) id
 obtain⟨i,hi⟩: ∃i,(S.row l).countP (· <id)=i:=⟨_,rfl⟩
 obtain⟨q,hq⟩: ∃q,(S.row l).contains id=q:=⟨_,rfl⟩
 rw[hi,hq]at hse
 rw[hi]at hins
 have HM:=Lib.hid hm
 have HB:=Lib.hid hb
 have hlt:=heap_lt hm.block
 obtain⟨v,hv⟩: ∃v,rowV F l=v:=⟨_,rfl⟩
 have HV:=Lib.hid hv
 rw[hv]at hse hins
 have HSE:=Lib.hid hse
 have HIN:=Lib.hid hins
 have HLK:=Lib.hid (hv▸hm.lookO hwf)
 have HROW:=Lib.hid (hv▸hrow)
 have HIL:=Lib.hid hil
 have HWI:=Lib.hid (wf64 (x:=id) (by omega) (by omega))
 have hlk:=HLK.out
 clear hb hm hrow htag hl hid hv hi hq hse hins hil
 go_enter Tryz.func109,Tryz.ntmps109
 go_wp2_with fail
 refine HSE.out.mono ?_
 rintro e w1 ⟨rfl,n,rfl⟩
 obtain⟨W,hW⟩: ∃W,w.drewN n=W:=⟨_,rfl⟩
 have hbW:Below w.heap.size w W:=by rw[←hW];exact mx_drewN _ _
 have HZW:=Lib.hid (show W.heap.size=w.heap.size by rw[←hW];rfl)
 rw[hW]
 clear hW
 have HRW:=Lib.hid (own_below HROW.out hbW)
 have HBW:=Lib.hid hbW
 have HMW:=Lib.hid (HM.out.kept (O':=fun _=>False) (Kept.of_below hbW) (fun _ _ h=>h))
 clear hlk c3
 go_upto_region 1 with fail
 have HVO:=Lib.hid (show v.ownBlock≠some b from fun e=>mx_not HRW.out HMW.out.block (by decide) e)
 have HVM:=Lib.hid (show v.ownBlock≠some ob from fun e=>by
  obtain⟨c,hc⟩:=own_type HRW.out ob e
  exact HMW.out.omap.not_cells hc rfl)
 have HC3:=Lib.hid (show∀wq,Kept (fun g=>v.ownBlock=some g) W wq→wq.cell? ⟨b,3,none⟩=some (.map (some ob))from fun wq hq=>mx_cell (j:=3) ((hq.block b (heap_lt HMW.out.block) HVO.out).trans HMW.out.block))
 have HLW:=Lib.hid (show∀wq,Kept (fun g=>v.ownBlock=some g) W wq→(Instr.lookup 155 (.map (some ob)) (.int .i64 l) false).run Tryz.prog wq= .ok v wq from fun wq hq=>by
  have:=look_rows (HMW.out.omap.kept hq HVM.out) hwf
  rwa [HV.out]at this)
 refine wp_region_sink_at (fun w'=>Kept (fun g=>v.ownBlock=some g) W w') (by kernel_rfl) (by rfl) (by kernel_rfl) (Kept.of_below (mx_drew W)) (fun hS=>?_)
 refine takeE 0 19 ?_
 refine takeE 1 20 ?_
 refine takeE 2 21 ?_
 refine takeF 3 22 (fun wq hSw=>HC3.out wq hSw) ?_
 refine takeE 4 23 ?_
 refine takeE 5 24 ?_
 refine takeE 6 25 ?_
 refine takeE 7 26 ?_
 refine takeF 8 27 (fun wq hSw=>HC3.out wq hSw) ?_
 refine takeE 9 28 ?_
 refine takeF 10 29 (fun wq hSw=>HLW.out wq hSw) ?_
 refine takeE 11 30 ?_
 refine takeE 12 31 ?_
 refine ready1 13 (fun KK hKK=>?_)
 go_simp
 obtain⟨W2,hW2⟩: ∃X,(W.alloc (.cells #[.int .i64 id] 3)).drew=X:=⟨_,rfl⟩
 have hb2:Below W.heap.size W W2:=by rw[←hW2];exact(mx_al _ _).drew
 have hn2:W2.heap[W.heap.size]? =some (.cells #[.int .i64 id] 3 (0,0)):=by rw[←hW2];exact World.alloc_heap_new _ _
 rw[hW2]
 have HB2':=Lib.hid hb2
 have HN2:=Lib.hid hn2
 have HR2:=Lib.hid (own_below HRW.out hb2)
 have HNE:=Lib.hid (show v.ownBlock≠some W.heap.size from fun e=>by have:=(own_lt HRW.out _ e).2;omega)
 clear hW2 hn2
 refine hKK.out _ _ (Kept.of_below hb2) (fun _=>?_)
 clear hKK hS
 refine ready1 14 (fun KK hKK=>?_)
 go_simp
 refine(HIN.out W.heap.size W2 HR2.out HN2.out HNE.out).mono ?_
 rintro e w3 ⟨v',rfl,hr3,hk3,hv3⟩
 have hk3':=(Kept.of_below (O:=fun g=>v.ownBlock=some g) hb2).trans hk3 (fun _ _ h=>h)
 refine hKK.out _ _ hk3' (fun _=>?_)
 clear hKK hb2
 refine wpAnyH_done (by kernel_rfl) ?_ _
 refine lastPost_normal ?_
 refine wpOp_step rfl (fun KK hKK=>?_)
 rw[if_pos (by rfl)]
 refine wp_putS_at (HMW.out.omap.kept hk3' HVM.out) lit_law Tryz.underlying32 Tryz.underlying155 _ _ _ rfl rfl (by have:=HB.out.ofLen;have h2:=mapV_length OfM.v F;have h3:=congrArg List.length HMW.out.oS;rw[mapV_length]at h3;unfold maxLen;omega) l v' rfl rfl hwf ?_
 intro w4 hm4 hg4
 refine hKK _ _ ?_
 clear hKK
 have hk4:Kept (fun g=>(rowV F l).ownBlock=some g∨g=ob) W w4:=by
  rw[HV.out]
  exact(kept_or hk3' (Kept.grown hg4)).mono (fun g _ h=>h.imp_right (fun e=>Option.some.inj e))
 have hr4:=own_kept hr3 (Kept.grown hg4) (fun g hg e=>by
  obtain⟨c,hc⟩:=own_type hr3 g hg
  exact(HMW.out.omap.kept hk3' HVM.out).not_cells hc (Option.some.inj e))
 obtain⟨tg',hm'⟩:=HMW.out.setRow (l:=l) (r':=insI (S.row l) id) hk4 (by rw[HIL.out];exact hr4) (by
  rw[HV.out]
  refine hv3.imp_right (fun e=>⟨_,e,?_⟩)
  exact HB2'.out.size) hm4
 have hzw:=HZW.out
 have HKW:=Lib.hid (show Kept (WF O ob w) w w4 from(Kept.of_below HBW.out).trans hk4 (fun g _ h=>by
  rcases h with h|h
  ·obtain⟨hr,ht⟩:=HM.out.rowAt l
   exact⟨HM.out.intg _ _ (ht g h),.inr (own_type hr g h)⟩
  ·exact⟨h▸HM.out.ino,.inl h⟩))
 rw[hzw]at hm'
 have HFIN:=Lib.hid (show∃F' tg',WaMem (fun g=>O g∨w.heap.size≤g∧g<w4.heap.size) w4 b ab tb (S.put l id) kb ob K F' tg' from⟨_,_,hm'⟩)
 clear hm' hk4 hr4 hm4 hg4 hr3 hk3 hv3 hk3' hzw
 go_wp2_with fail
 go_end0
 exact⟨rfl,HFIN.out,HKW.out⟩
theorem WaMem.grow {O:Nat→Prop} {w w':World} {b ab tb kb ob:Nat} {S:Wst} {K:List (Int×KnM)} {F:List (Int×OfM)} {tg:Nat→Option WTag} (hm:WaMem O w b ab tb S kb ob K F tg) (hb:Below w.heap.size w w'):WaMem (fun g=>O g∨w.heap.size≤g∧g<w'.heap.size) w' b ab tb S kb ob K F tg:=by
 have h2:=hm.kept (O':=fun _=>False) (Kept.of_below hb) (fun _ _ h=>h)
 exact { h2 with own:=fun g hg=>hg.elim (fun h=>Nat.lt_of_lt_of_le (hm.own g h) hb.size) (fun h=>h.2),inb:=.inl h2.inb,ink:=.inl h2.ink,ino:=.inl h2.ino,intg:=fun g t ht=>.inl (h2.intg g t ht) }
theorem WaMNext.refl {O:Nat→Prop} {w w':World} {b ab tb kb ob:Nat} {S:Wst} {K:List (Int×KnM)} {F:List (Int×OfM)} {tg:Nat→Option WTag} (hm:WaMem O w b ab tb S kb ob K F tg) (hb:Below w.heap.size w w'):WaMNext O w w' b ab tb S kb ob K:=
 ⟨⟨F,tg,hm.grow hb⟩,Kept.of_below hb⟩
theorem WaNext.refl {O:Nat→Prop} {w w':World} {b ab tb:Nat} {S:Wst} (h:WaAt O w b ab tb S) (hb:Below w.heap.size w w'):WaNext O w w' b ab tb S:=by
 obtain⟨hbn,kb,ob,K,F,tg,hm⟩:=h
 exact⟨⟨hbn,kb,ob,K,F,tg,hm.grow hb⟩,Kept.of_below hb⟩
theorem WaMNext.trans {O:Nat→Prop} {w w1 w2:World} {b ab tb kb ob:Nat} {S:Wst} {K:List (Int×KnM)} (hk:Kept (WF O ob w) w w1) (h:WaMNext (fun g=>O g∨w.heap.size≤g∧g<w1.heap.size) w1 w2 b ab tb S kb ob K):WaMNext O w w2 b ab tb S kb ob K:=by
 obtain⟨⟨F,tg,hm⟩,k⟩:=h
 refine⟨⟨F,tg,hm.congr (fun g=>?_)⟩,hk.trans k (fun i hi h=>?_)⟩
 ·have h1:=hk.size
  have h2:=k.size
  constructor
  ·rintro ((h|h)|h)
   ·exact .inl h
   ·exact .inr ⟨h.1,by omega⟩
   ·exact .inr ⟨by omega,h.2⟩
  ·rintro (h|h)
   ·exact .inl (.inl h)
   ·by_cases hg:g<w1.heap.size
    ·exact .inl (.inr ⟨h.1,hg⟩)
    ·exact .inr ⟨by omega,h.2⟩
 ·obtain⟨ho,hc⟩:=h
  have ho':O i:=ho.elim (fun h=>h) (fun h=>by omega)
  refine⟨ho',?_⟩
  rcases hc with hc|hc
  ·exact .inl hc
  ·by_cases hw:WF O ob w i
   ·exact hw.2
   ·rw[hk.block i hi hw]at hc
    exact .inr hc
theorem WaMNext.at_ {O:Nat→Prop} {w w':World} {b ab tb kb ob:Nat} {S':Wst} {K:List (Int×KnM)} (h:WaMNext O w w' b ab tb S' kb ob K) (hb:S'.Bnd):WaNext O w w' b ab tb S':=by
 obtain⟨⟨F,tg,hm⟩,k⟩:=h
 exact⟨⟨hb,kb,ob,K,F,tg,hm⟩,k.mono (fun _ _ h=>h.1)⟩
set_option maxRecDepth 100000 in
set_option maxHeartbeats 2000000 in
theorem wa_drop_m {O:Nat→Prop} (b ab tb:Nat) (S:Wst) (kb ob:Nat) (K:List (Int×KnM)) (F:List (Int×OfM)) (tg:Nat→Option WTag) (l id:Int) (w:World) (hb:S.Bnd) (hm:WaMem O w b ab tb S kb ob K F tg) (hwf:(Lit.int .i64 l).wf=true):
  Calls Tryz.prog 137 #[.pointer (some ⟨b,0,none⟩),.int .i64 l,.int .i64 id] w fun e w'=>e= .returned (.tuple #[])∧WaMNext O w w' b ab tb (S.drop l id) kb ob K:=by
 obtain⟨hrow,htag⟩:=hm.rowAt l
 have c3:w.cell? ⟨b,3,none⟩=some (.map (some ob)):=mx_cell (j:=3) hm.block
 have hse:=row_search (rowV F l) (S.row l) id w hrow (hb.row l).1 (hb.rowLen l)
 have hrl:=hb.rowLen l
 have hil:=countP_le_len (S.row l) id
 have hat:=fun hx=>up_at (hb.row l).1 (x:=id) hx
 have hrem: ∀j,(S.row l).countP (· <id)=j→(S.row l).contains id=true→remI (S.row l) id=(S.row l).eraseIdx j:=fun j hj hc=>by
  unfold remI
  rw[if_pos hc,hj]
 have HDN:(S.row l).contains id=false→S.drop l id=S:=fun hc=>by
  unfold Wst.drop
  rw[if_neg (by rw[hc];decide)]
 have HDY:(S.row l).contains id=true→S.drop l id=⟨S.known,putA S.of l (remI (S.row l) id),S.looked⟩:=fun hc=>by
  unfold Wst.drop
  rw[if_pos hc]
 have hmem:(S.row l).contains id=true→id∈S.row l:=fun hc=>by simpa using hc
 obtain⟨i,hi⟩: ∃i,(S.row l).countP (· <id)=i:=⟨_,rfl⟩
 obtain⟨q,hq⟩: ∃q,(S.row l).contains id=q:=⟨_,rfl⟩
 rw[hi]at hse hil hat
 have hrem:=hrem i hi
 rw[hq]at hse HDN HDY hrem hmem
 have HM:=Lib.hid hm
 have HB:=Lib.hid hb
 have hlt:=heap_lt hm.block
 obtain⟨v,hv⟩: ∃v,rowV F l=v:=⟨_,rfl⟩
 have HV:=Lib.hid hv
 rw[hv]at hse
 have HSE:=Lib.hid hse
 have hlk:=hv▸hm.lookO hwf
 have HROW:=Lib.hid (hv▸hrow)
 have hwi:IntKind.i64.wrap ((i:Int)+1)=(i:Int)+1:=IntWalk.i64_in _ (by omega)
 cases q with
 | false=>
  have HDD:=Lib.hid (HDN rfl)
  clear hb hm hrow htag hv hi hq hse hil HDN HDY hrem hat hmem hrl
  go_enter Tryz.func137,Tryz.ntmps137
  go_wp2_with fail
  refine HSE.out.mono ?_
  rintro e w1 ⟨rfl,n,rfl⟩
  clear hlk c3
  go_wp2_with fail
  go_end0
  refine⟨rfl,?_⟩
  rw[HDD.out]
  exact WaMNext.refl HM.out (mx_drewN _ _)
 | true=>
  have HDD:=Lib.hid (HDY rfl)
  have hilt:=(List.getElem?_eq_some_iff.1 (hat (hmem rfl))).1
  have HRE:=Lib.hid (hrem rfl)
  have HEL:=Lib.hid (show((S.row l).eraseIdx i).length=(S.row l).length-1 by rw[List.length_eraseIdx,if_pos hilt])
  have HIN:=Lib.hid (fun(W:World) (h1:W.ownsRow 0 3 1 v (S.row l).length ((S.row l).map (Value.int .i64)))=>row_delete v (S.row l) i W h1 hilt)
  clear hb hm hrow htag hv hi hq hse hil HDN HDY hrem hat hmem hilt hrl
  go_enter Tryz.func137,Tryz.ntmps137
  go_wp2_with fail
  refine HSE.out.mono ?_
  rintro e w1 ⟨rfl,n,rfl⟩
  obtain⟨W,hW⟩: ∃W,w.drewN n=W:=⟨_,rfl⟩
  have hbW:Below w.heap.size w W:=by rw[←hW];exact mx_drewN _ _
  have HZW:=Lib.hid (show W.heap.size=w.heap.size by rw[←hW];rfl)
  rw[hW]
  clear hW
  have HRW:=Lib.hid (own_below HROW.out hbW)
  have HBW:=Lib.hid hbW
  have HMW:=Lib.hid (HM.out.kept (O':=fun _=>False) (Kept.of_below hbW) (fun _ _ h=>h))
  clear hlk c3
  go_upto_region 2 with fail
  have HVO:=Lib.hid (show v.ownBlock≠some b from fun e=>mx_not HRW.out HMW.out.block (by decide) e)
  have HVM:=Lib.hid (show v.ownBlock≠some ob from fun e=>by
   obtain⟨c,hc⟩:=own_type HRW.out ob e
   exact HMW.out.omap.not_cells hc rfl)
  have HC3:=Lib.hid (show∀wq,Kept (fun g=>v.ownBlock=some g) W wq→wq.cell? ⟨b,3,none⟩=some (.map (some ob))from fun wq hq=>mx_cell (j:=3) ((hq.block b (heap_lt HMW.out.block) HVO.out).trans HMW.out.block))
  have HLW:=Lib.hid (show∀wq,Kept (fun g=>v.ownBlock=some g) W wq→(Instr.lookup 155 (.map (some ob)) (.int .i64 l) false).run Tryz.prog wq= .ok v wq from fun wq hq=>by
   have:=look_rows (HMW.out.omap.kept hq HVM.out) hwf
   rwa [HV.out]at this)
  refine wp_region_sink_at (fun w'=>Kept (fun g=>v.ownBlock=some g) W w') (by kernel_rfl) (by rfl) (by kernel_rfl) (Kept.of_below (mx_drew W)) (fun hS=>?_)
  refine takeE 0 20 ?_
  refine takeE 1 21 ?_
  refine takeE 2 22 ?_
  refine takeF 3 23 (fun wq hSw=>HC3.out wq hSw) ?_
  refine takeE 4 24 ?_
  refine takeE 5 25 ?_
  refine takeE 6 26 ?_
  refine takeE 7 27 ?_
  refine takeF 8 28 (fun wq hSw=>HC3.out wq hSw) ?_
  refine takeE 9 29 ?_
  refine takeF 10 30 (fun wq hSw=>HLW.out wq hSw) ?_
  refine takeE 11 31 ?_
  refine takeE 12 32 ?_
  refine takeE 13 33 ?_
  refine ready1 14 (fun KK hKK=>?_)
  go_simp
  refine(HIN.out _ (own_below HRW.out (mx_drew W))).mono ?_
  rintro e w3 ⟨v',rfl,hr3,hk3,hv3⟩
  have hk3':=hS.trans hk3 (fun _ _ h=>h)
  refine hKK.out _ _ hk3' (fun _=>?_)
  clear hKK hS
  refine wpAnyH_done (by kernel_rfl) ?_ _
  refine lastPost_normal ?_
  refine wpOp_step rfl (fun KK hKK=>?_)
  rw[if_pos (by rfl)]
  refine wp_putS_at (HMW.out.omap.kept hk3' HVM.out) lit_law Tryz.underlying32 Tryz.underlying155 _ _ _ rfl rfl (by have:=HB.out.ofLen;have h2:=mapV_length OfM.v F;have h3:=congrArg List.length HMW.out.oS;rw[mapV_length]at h3;unfold maxLen;omega) l v' rfl rfl hwf ?_
  intro w4 hm4 hg4
  refine hKK _ _ ?_
  clear hKK
  have hk4:Kept (fun g=>(rowV F l).ownBlock=some g∨g=ob) W w4:=by
   rw[HV.out]
   exact(kept_or hk3' (Kept.grown hg4)).mono (fun g _ h=>h.imp_right (fun e=>Option.some.inj e))
  have hr4:=own_kept hr3 (Kept.grown hg4) (fun g hg e=>by
   obtain⟨c,hc⟩:=own_type hr3 g hg
   exact(HMW.out.omap.kept hk3' HVM.out).not_cells hc (Option.some.inj e))
  obtain⟨tg',hm'⟩:=HMW.out.setRow (l:=l) (r':=(S.row l).eraseIdx i) hk4 (by rw[HEL.out];exact hr4) (by
   rw[HV.out]
   exact .inl hv3) hm4
  have hzw:=HZW.out
  have HKW:=Lib.hid (show Kept (WF O ob w) w w4 from(Kept.of_below HBW.out).trans hk4 (fun g _ h=>by
   rcases h with h|h
   ·obtain⟨hr,ht⟩:=HM.out.rowAt l
    exact⟨HM.out.intg _ _ (ht g h),.inr (own_type hr g h)⟩
   ·exact⟨h▸HM.out.ino,.inl h⟩))
  rw[hzw,←HRE.out]at hm'
  have HFIN:=Lib.hid (show∃F' tg',WaMem (fun g=>O g∨w.heap.size≤g∧g<w4.heap.size) w4 b ab tb (S.drop l id) kb ob K F' tg' from by
   rw[HDD.out]
   exact⟨_,_,hm'⟩)
  clear hm' hk4 hr4 hm4 hg4 hr3 hk3 hv3 hk3' hzw
  go_wp2_with fail
  go_end0
  exact⟨rfl,HFIN.out,HKW.out⟩
end Go.Proofs.YtoojmhjagipmdaaGreat
namespace Go.Proofs.YtoojmhjagipmdaaGreat
open Go.RowKit Go.Maps Go.Shelf
structure SysAt (w:World) (lab:Nat→Nat) (b ab tb:Nat) (A:Arn) (T:Trl) (S:Wst):Prop where
 ar:ArAt (fun g=>lab g=1) w ab A
 tr:TrAt (fun g=>lab g=2) w tb T
 wa:WaAt (fun g=>lab g=3) w b ab tb S
 lt: ∀g,lab g≠0→g<w.heap.size
structure Labs (lab lab':Nat→Nat) (w w':World):Prop where
 kept:Kept (fun g=>lab g≠0) w w'
 same: ∀g,g<w.heap.size→lab' g=lab g
def SysNext (w w':World) (lab:Nat→Nat) (b ab tb:Nat) (A:Arn) (T:Trl) (S:Wst):Prop:= ∃lab',SysAt w' lab' b ab tb A T S∧Labs lab lab' w w'
theorem Labs.trans {l1 l2 l3:Nat→Nat} {a b c:World} (h:Labs l1 l2 a b) (k:Labs l2 l3 b c):Labs l1 l3 a c:=
 ⟨h.kept.trans k.kept (fun i hi hn=>by rwa [h.same i hi]at hn),fun g hg=>(k.same g (Nat.lt_of_lt_of_le hg h.kept.size)).trans (h.same g hg)⟩
theorem Labs.of_below {l:Nat→Nat} {a b:World} (h:Below a.heap.size a b):Labs l l a b:=⟨Kept.of_below h,fun _ _=>rfl⟩
section
variable {w w':World} {lab:Nat→Nat} {b ab tb:Nat} {A:Arn} {T:Trl} {S:Wst}
theorem SysAt.kept {O:Nat→Prop} (h:SysAt w lab b ab tb A T S) (k:Kept O w w') (hO: ∀g,lab g≠0→¬O g):SysAt w' lab b ab tb A T S:=
 ⟨h.ar.kept k (fun g hg=>hO g (by rw[hg];decide)),h.tr.kept k (fun g hg=>hO g (by rw[hg];decide)),h.wa.kept k (fun g hg=>hO g (by rw[hg];decide)),fun g hg=>Nat.lt_of_lt_of_le (h.lt g hg) k.size⟩
theorem SysAt.below (h:SysAt w lab b ab tb A T S) (k:Below w.heap.size w w'):SysAt w' lab b ab tb A T S:=h.kept (O:=fun _=>False) (Kept.of_below k) (fun _ _ h=>h)
theorem SysNext.refl (h:SysAt w lab b ab tb A T S) (k:Below w.heap.size w w'):SysNext w w' lab b ab tb A T S:=⟨lab,h.below k,Labs.of_below k⟩
theorem SysNext.trans {w2:World} {A2:Arn} {T2:Trl} {S2:Wst} {lab1:Nat→Nat} (h:Labs lab lab1 w w') (k:SysNext w' w2 lab1 b ab tb A2 T2 S2):SysNext w w2 lab b ab tb A2 T2 S2:=by
 obtain⟨l,h1,h2⟩:=k
 exact⟨l,h1,h.trans h2⟩
def labN (lab:Nat→Nat) (n m k:Nat) (g:Nat):Nat:=if g<n then lab g else if g<m then k else 0
theorem labN_iff (h: ∀g,lab g≠0→g<w.heap.size) {m k:Nat} (hk:k≠0) (g:Nat):labN lab w.heap.size m k g=k↔lab g=k∨w.heap.size≤g∧g<m:=by
 unfold labN
 split
 ·rename_i hg
  constructor
  ·exact .inl
  ·rintro (e|e)
   ·exact e
   ·omega
 ·rename_i hg
  have h0:lab g=0:=Classical.byContradiction fun e=>hg (h g e)
  split
  ·exact⟨fun _=>.inr ⟨by omega,by assumption⟩,fun _=>rfl⟩
  ·constructor
   ·exact fun e=>absurd e.symm hk
   ·rintro (e|e)
    ·exact absurd (e.symm.trans h0) hk
    ·omega
theorem labN_other (h: ∀g,lab g≠0→g<w.heap.size) {m k j:Nat} (hj:j≠0) (hjk:j≠k) (g:Nat):labN lab w.heap.size m k g=j↔lab g=j:=by
 unfold labN
 split
 ·exact Iff.rfl
 ·rename_i hg
  have h0:lab g=0:=Classical.byContradiction fun e=>hg (h g e)
  split
  ·exact⟨fun e=>absurd e.symm hjk,fun e=>absurd (e.symm.trans h0) hj⟩
  ·exact⟨fun e=>absurd e.symm hj,fun e=>absurd (e.symm.trans h0) hj⟩
theorem ArAt.congr {O O':Nat→Prop} {w:World} {b:Nat} {A:Arn} (h:ArAt O w b A) (hO: ∀g,O g↔O' g):ArAt O' w b A:=by
 rw[show O'=O from funext fun g=>propext (hO g).symm]
 exact h
theorem TrAt.congr {O O':Nat→Prop} {w:World} {b:Nat} {T:Trl} (h:TrAt O w b T) (hO: ∀g,O g↔O' g):TrAt O' w b T:=by
 rw[show O'=O from funext fun g=>propext (hO g).symm]
 exact h
theorem WaAt.congr {O O':Nat→Prop} {w:World} {S:Wst} (h:WaAt O w b ab tb S) (hO: ∀g,O g↔O' g):WaAt O' w b ab tb S:=by
 rw[show O'=O from funext fun g=>propext (hO g).symm]
 exact h
theorem labN_labs {j:Nat} (hj:j≠0) (k:Kept (fun g=>lab g=j) w w'):Labs lab (labN lab w.heap.size w'.heap.size j) w w':=
 ⟨k.mono (fun g _ e=>by rw[e];exact hj),fun g hg=>if_pos hg⟩
theorem labN_lt {j m:Nat} (hm:w.heap.size≤m) (g:Nat) (hg:labN lab w.heap.size m j g≠0):g<m:=by
 unfold labN at hg
 split at hg
 ·omega
 ·split at hg
  ·assumption
  ·exact absurd rfl hg
theorem SysAt.wa_next {S':Wst} (h:SysAt w lab b ab tb A T S) (hw:WaNext (fun g=>lab g=3) w w' b ab tb S'):SysNext w w' lab b ab tb A T S':=by
 obtain⟨h1,k⟩:=hw
 refine⟨labN lab w.heap.size w'.heap.size 3,⟨?_,?_,?_,labN_lt k.size⟩,labN_labs (by decide) k⟩
 ·exact(h.ar.kept k (fun g hg e=>by rw[hg]at e;cases e)).congr (fun g=>(labN_other h.lt (by decide) (by decide) g).symm)
 ·exact(h.tr.kept k (fun g hg e=>by rw[hg]at e;cases e)).congr (fun g=>(labN_other h.lt (by decide) (by decide) g).symm)
 ·exact h1.congr (fun g=>(labN_iff h.lt (by decide) g).symm)
theorem SysAt.tr_next {T':Trl} (h:SysAt w lab b ab tb A T S) (hw:TrNext (fun g=>lab g=2) w w' tb T'):SysNext w w' lab b ab tb A T' S:=by
 obtain⟨h1,k⟩:=hw
 refine⟨labN lab w.heap.size w'.heap.size 2,⟨?_,?_,?_,labN_lt k.size⟩,labN_labs (by decide) k⟩
 ·exact(h.ar.kept k (fun g hg e=>by rw[hg]at e;cases e)).congr (fun g=>(labN_other h.lt (by decide) (by decide) g).symm)
 ·exact h1.congr (fun g=>(labN_iff h.lt (by decide) g).symm)
 ·exact(h.wa.kept k (fun g hg e=>by rw[hg]at e;cases e)).congr (fun g=>(labN_other h.lt (by decide) (by decide) g).symm)
theorem SysAt.box (h:SysAt w lab b ab tb A T S): ∃kb ob,w.heap[b]? =some (.cells #[.pointer (some ⟨ab,0,none⟩),.pointer (some ⟨tb,0,none⟩),.map (some kb),.map (some ob),.int .i64 (S.looked:Nat)] 157 (0,0)):=by
 obtain⟨_,kb,ob,K,F,tg,hm⟩:=h.wa
 exact⟨kb,ob,hm.block⟩
theorem SysAt.c0 (h:SysAt w lab b ab tb A T S):w.cell? ⟨b,0,none⟩=some (.pointer (some ⟨ab,0,none⟩)):=by
 obtain⟨kb,ob,hb⟩:=h.box
 exact mx_cell (j:=0) hb
theorem SysAt.c1 (h:SysAt w lab b ab tb A T S):w.cell? ⟨b,1,none⟩=some (.pointer (some ⟨tb,0,none⟩)):=by
 obtain⟨kb,ob,hb⟩:=h.box
 exact mx_cell (j:=1) hb
theorem SysAt.c4 (h:SysAt w lab b ab tb A T S):w.cell? ⟨b,4,none⟩=some (.int .i64 (S.looked:Nat)):=by
 obtain⟨kb,ob,hb⟩:=h.box
 exact mx_cell (j:=4) hb
end
theorem wa_false {O:Nat→Prop} (b tb:Nat) (T:Trl) (l:Int) (w:World) (h:TrAt O w tb T) (c1:w.cell? ⟨b,1,none⟩=some (.pointer (some ⟨tb,0,none⟩))):
  Calls Tryz.prog 110 #[.pointer (some ⟨b,0,none⟩),.int .i64 l] w fun e w'=>e= .returned (.bool (T.fal l))∧Below w.heap.size w w':=by
 have HV:=Lib.hid (tr_value tb T l w h)
 unfold Trl.fal
 obtain⟨v,hv⟩: ∃v,T.val l=v:=⟨_,rfl⟩
 rw[hv]at HV⊢
 clear h hv
 go_enter Tryz.func110,Tryz.ntmps110
 go_wp2_with fail
 refine HV.out.mono ?_
 rintro e w1 ⟨rfl,hb⟩
 clear c1
 go_wp2_with fail
 go_ret
 exact⟨rfl,hb⟩
theorem wa_true {O:Nat→Prop} (b tb:Nat) (T:Trl) (l:Int) (w:World) (h:TrAt O w tb T) (c1:w.cell? ⟨b,1,none⟩=some (.pointer (some ⟨tb,0,none⟩))):
  Calls Tryz.prog 111 #[.pointer (some ⟨b,0,none⟩),.int .i64 l] w fun e w'=>e= .returned (.bool (T.tru l))∧Below w.heap.size w w':=by
 have HV:=Lib.hid (tr_value tb T l w h)
 unfold Trl.tru
 obtain⟨v,hv⟩: ∃v,T.val l=v:=⟨_,rfl⟩
 rw[hv]at HV⊢
 clear h hv
 go_enter Tryz.func111,Tryz.ntmps111
 go_wp2_with fail
 refine HV.out.mono ?_
 rintro e w1 ⟨rfl,hb⟩
 clear c1
 go_wp2_with fail
 go_ret
 exact⟨rfl,hb⟩
theorem TrNext.wide {O O':Nat→Prop} {w w':World} {b:Nat} {T:Trl} (h:TrNext O w w' b T) (hO: ∀g,O g→O' g) (hl: ∀g,O' g→g<w.heap.size):TrNext O' w w' b T:=by
 obtain⟨⟨hk,gv,cv,ov,sv,hm⟩,k⟩:=h
 exact⟨⟨hk,gv,cv,ov,sv,fun g hg=>hg.elim (fun h=>Nat.lt_of_lt_of_le (hl g h) k.size) (fun h=>h.2),hm.inb.imp_left (hO _),hm.invs.imp_left (hO _),hm.block,hm.vars,hm.order,fun g hg=>(hm.orderb g hg).imp_left (hO _),hm.starts,fun g hg=>(hm.startsb g hg).imp_left (hO _)⟩,k.mono (fun g _ h=>hO g h)⟩
theorem wa_assign (b ab tb:Nat) (A:Arn) (T:Trl) (S:Wst) (l id:Int) (w:World) (lab:Nat→Nat) (h:SysAt w lab b ab tb A T S) (hno:T.order.length<1048576):
  Calls Tryz.prog 112 #[.pointer (some ⟨b,0,none⟩),.int .i64 l,.int .i64 id] w fun e w'=>e= .returned (.tuple #[])∧SysNext w w' lab b ab tb A (T.assigned l id) S∧KeepsRec w w':=by
 have c1:=h.c1
 have HC:=Lib.hid (tr_assign tb T l id w h.tr.narrow hno)
 have H:=Lib.hid h
 clear h hno
 go_enter Tryz.func112,Tryz.ntmps112
 go_wp2_with fail
 refine HC.out.mono ?_
 rintro e w1 ⟨rfl,hb⟩
 have HN:=Lib.hid (H.out.tr_next (hb.wide (fun _ h=>h.1) (fun g h=>H.out.lt g (by rw[h];decide))))
 have HK:=Lib.hid (show KeepsRec w w1 from fun k o hk h1 h2=>(hb.2.block k (heap_lt hk) (fun e=>e.2 ⟨o,hk,h1,h2⟩)).trans hk)
 clear hb c1
 go_wp2_with fail
 go_end0
 exact⟨rfl,HN.out,HK.out⟩
end Go.Proofs.YtoojmhjagipmdaaGreat
namespace Go.Proofs.YtoojmhjagipmdaaGreat
open Go.RowKit Go.Maps Go.Shelf
theorem own_get {w:World} {base:Nat} {e:TypeId} {v:Value} {xs:List Int} {j:Nat} {x:Int} (h:w.ownsRow base e 1 v xs.length (xs.map (Value.int .i64))) (hj:xs[j]? =some x): ∃g c,v= .slice (some ⟨g,0,none⟩) xs.length c∧g<w.heap.size∧w.cell? ⟨g,j,none⟩=some (.int .i64 x):=by
 have hl:=(List.getElem?_eq_some_iff.1 hj).1
 obtain⟨g,c,cs,hv,_,_,hg,_⟩:=mx_some h (by omega)
 subst hv
 exact⟨g,c,rfl,hg,mx_at h (by rw[List.getElem?_map,hj];rfl)⟩
theorem WaMem.widen {O O':Nat→Prop} {w:World} {b ab tb kb ob:Nat} {S:Wst} {K:List (Int×KnM)} {F:List (Int×OfM)} {tg:Nat→Option WTag} (h:WaMem O w b ab tb S kb ob K F tg) (hO: ∀g,O g→O' g) (hl: ∀g,O' g→g<w.heap.size):WaMem O' w b ab tb S kb ob K F tg:=
 { h with own:=hl,inb:=hO _ h.inb,ink:=hO _ h.ink,ino:=hO _ h.ino,intg:=fun g t ht=>hO g (h.intg g t ht) }
theorem dropAll_snoc (id l:Int) (ls:List Int): ∀S:Wst,S.dropAll id (ls++ [l])=(S.dropAll id ls).drop l id:=by
 induction ls with
 | nil=>exact fun S=>rfl
 | cons y r ih=>exact fun S=>ih (S.drop y id)
theorem wpList_delK {w:World} {b:Nat} {m:List (Int×Value)} {ops:Array Oper} {rest:List Oper} {o:Oper} {a:Act} {Q:Exit→Act→World→Prop} (h:MapK w b m)
  (hg:o.guard=none) (mm x:Operand) (hop:o.op=Op.call { callee:=Callee.builtin Builtin.delete,args:= #[mm,x],argTypes:= #[154,3] }) (hm:a.eval mm= .map (some b)) (i:Int) (hx:a.eval x= .int .i64 i) (hi:(Lit.int .i64 i).wf=true)
  (hK: ∀w',MapK w' b (delA m i)→w.grownBy w' (some b)→wpList Tryz.prog ops Q rest (a.put o.dst (.tuple #[])) w'):wpList Tryz.prog ops Q (o::rest) a w:=
 wpList_delS h int_law Tryz.underlying3 Tryz.underlying154 hg mm x hop hm i hx hi hK
set_option maxRecDepth 100000 in
set_option maxHeartbeats 4000000 in
theorem wa_remove_some (b ab tb:Nat) (A:Arn) (T:Trl) (S:Wst) (id:Int) (w:World) (lab:Nat→Nat) (h:SysAt w lab b ab tb A T S) (hwf:(Lit.int .i64 id).wf=true) {k:Kn} (hk:S.kn id=some k):
  Calls Tryz.prog 135 #[.pointer (some ⟨b,0,none⟩),.int .i64 id] w fun e w'=>e= .returned (.int .i64 0)∧SysNext w w' lab b ab tb A T (S.remove id):=by
 have H:=Lib.hid h
 obtain⟨hb,kb,ob,K,F,tg,hm⟩:=h.wa
 have c2:w.cell? ⟨b,2,none⟩=some (.map (some kb)):=mx_cell (j:=2) hm.block
 have hlk:=hm.lookK hwf
 obtain⟨x,hx,rfl,hkx,hkv⟩:=hm.knAt hk
 rw[hkv]at hlk
 have d0:w.cell? ⟨x.g,0,none⟩=some x.bv:=mx_cell (j:=0) hkx.block
 obtain⟨Ab,cb,hbv,_⟩:=mx_slice hkx.by_
 have HBV:=Lib.hid hbv
 rw[hbv]at d0
 have HX:=Lib.hid hx
 have HM0:=Lib.hid (WaMNext.refl hm (Below.refl _ w))
 have HB:=Lib.hid hb
 have HRM:=Lib.hid (show S.remove id=(S.dropAll id x.k.by_).del id from by unfold Wst.remove;rw[hk])
 obtain⟨n,hn⟩: ∃n,x.k.by_.length=n:=⟨_,rfl⟩
 have hn2:n≤2:=by
  rcases (hb.kn hk).2.1 with e|⟨a,c,_,e,_⟩
  ·rw[←hn,e];simp
  ·rw[←hn,e];simp
 have HLI:=Lib.hid (fun y (hy:y∈x.k.by_)=>wf_lit ((hb.kn hk).2.2.2 y (Kn.by_lits (hb.kn hk).2.1 hy)))
 rw[hn]at d0 hbv
 have HN:=Lib.hid hn
 clear h hb hm hk hx hkx hkv hbv hn
 go_enter Tryz.func135,Tryz.ntmps135
 go_wp2_with fail
 go_loopw [24] (fun iv wq=> ∃j:Nat,j≤n∧iv= .int .i64 j∧Hid (WaMNext (fun g=>lab g=3) w wq b ab tb (S.dropAll id (x.k.by_.take j)) kb ob K)) (fun iv _=>n-(intOf iv).toNat)
 case atStart=>exact⟨0,Nat.zero_le _,rfl,HM0⟩
 case round=>
  obtain⟨j,hj,rfl,HMQ⟩:=hrel
  clear d0 c2 hlk
  by_cases hlt:j<n
  ·obtain⟨y,hy⟩:=getElem_of (l:=x.k.by_) (i:=j) (by rw[HN.out];exact hlt)
   obtain⟨⟨F1,tg1,hm1⟩,hk1⟩:=HMQ.out
   have hkx:=hm1.kn _ (getA_some HX.out)
   obtain⟨g,c,hv,hg,e0⟩:=own_get hkx.by_ hy
   have hv':=HBV.out.symm.trans hv
   simp only[Value.slice.injEq]at hv'
   obtain⟨rfl,_,rfl⟩:=hv'
   have HD:=Lib.hid (wa_drop_m b ab tb _ kb ob K F1 tg1 y id wr (dropAll_bnd id _ HB.out).1 hm1 (HLI.out y (List.mem_of_getElem? hy)))
   have HK1:=Lib.hid hk1
   have HTK:=Lib.hid (show S.dropAll id (x.k.by_.take (j+1))=(S.dropAll id (x.k.by_.take j)).drop y id from by rw[List.take_add_one,hy];exact dropAll_snoc _ _ _ _)
   clear hy hm1 hk1 hkx hv
   go_wp2_with fail
   refine HD.out.mono ?_
   rintro e w1 ⟨rfl,hn1⟩
   have HN1:=Lib.hid (WaMNext.trans HK1.out hn1)
   clear hn1 e0
   go_wp2_with fail
   go_roundw
   case rel=>exact⟨j+1,by omega,by go_num,by rw[HTK.out];exact HN1⟩
   case measure=>simp[intOf];omega
  ·obtain rfl:j=n:=by omega
   have hmq:=HMQ.out
   rw[List.take_of_length_le (by rw[HN.out];exact Nat.le_refl _)]at hmq
   obtain⟨⟨F1,tg1,hm1⟩,hk1⟩:=hmq
   have c2:wr.cell? ⟨b,2,none⟩=some (.map (some kb)):=mx_cell (j:=2) hm1.block
   have HM1:=Lib.hid hm1
   have HK1:=Lib.hid hk1
   clear hm1 hk1
   go_wp2_with (at_delete;go_must (refine wpList_delK HM1.out.kmap rfl _ _ rfl rfl id rfl hwf ?_);intro w2 hm2 hg2)
   have hd:=HM1.out.delKn (id:=id) ((Kept.grown hg2).mono (fun g _ e=>Option.some.inj e)) hm2
   have HW:=Lib.hid (show WaNext (fun g=>lab g=3) w w2 b ab tb (S.remove id)from by
    rw[HRM.out]
    refine⟨⟨(dropAll_bnd id _ HB.out).1.del id,kb,ob,_,_,_,hd.widen (fun g h=>h.imp_right (fun h=>⟨h.1,Nat.lt_of_lt_of_le h.2 hg2.size⟩)) (fun g h=>h.elim (fun h=>hd.own g (.inl h)) (fun h=>?_))⟩,(HK1.out.mono (fun _ _ h=>h.1)).trans (Kept.grown hg2) (fun g hg e=>?_)⟩
    ·exact h.2
    ·obtain rfl:=Option.some.inj e
     exact HM1.out.ink.elim (fun h=>h) (fun h=>by omega))
   clear hm2 hg2 hd c2
   go_wp2_with fail
   go_ret
   exact⟨rfl,H.out.wa_next HW.out⟩
theorem eachGo_snoc (x:Int) (c:List Int): ∀o:List Int,eachGo o (c++ [x])=if(eachGo o c).contains x=true then eachGo o c else eachGo o c++ [x]:=by
 induction c with
 | nil=>exact fun o=>rfl
 | cons y r ih=>exact fun o=>ih _
theorem eachL_snoc (x:Int) (c:List Int):eachL (c++ [x])=if(eachL c).contains x=true then eachL c else eachL c++ [x]:=eachGo_snoc x c []
set_option maxRecDepth 100000 in
set_option maxHeartbeats 4000000 in
theorem wa_once {O:Nat→Prop} (u:Value) (c:List Int) (w:World) (h:IntsIn O w u c) (hl:c.length≤1000000):
  Calls Tryz.prog 106 #[u] w fun e w'=> ∃v,e= .returned v∧w'.ownsRow w.heap.size 32 1 v (eachL c).length ((eachL c).map (Value.int .i64))∧Below w.heap.size w w':=by
 obtain⟨i0,hi,hz0,hz1,hz2⟩:=info_parts cinfo_lit
 have HU:=Lib.hid h
 obtain⟨A,k,rfl,_⟩:=h
 obtain⟨n,hn⟩: ∃n,c.length=n:=⟨_,rfl⟩
 rw[hn]at HU hl⊢
 have HN:=Lib.hid hn
 clear hn
 go_enter Tryz.func106,Tryz.ntmps106
 go_wp2_with fail
 go_loopw [3,8] (fun ov iv wq=> ∃j:Nat,j≤n∧iv= .int .i64 j∧Hid (wq.ownsRow w.heap.size 32 1 ov (eachL (c.take j)).length ((eachL (c.take j)).map (Value.int .i64)))∧Hid (Below w.heap.size w wq)) (fun _ iv _=>n-(intOf iv).toNat)
 case atStart=>exact⟨0,Nat.zero_le _,rfl,Lib.hid (World.ownsRow_nil _ _ _ _),Lib.hid (Below.refl _ _)⟩
 case round=>
  obtain⟨j,hj,rfl,HO,HBQ⟩:=hrel
  by_cases hlt:j<n
  ·obtain⟨y,hy⟩:=getElem_of (l:=c) (i:=j) (by rw[HN.out];exact hlt)
   obtain⟨g,o,rfl,hg,_,e0⟩: ∃g o,A=some ⟨g,o,none⟩∧g<w.heap.size∧O g∧w.cell? ⟨g,o+j,none⟩=some (.int .i64 y):=by
    obtain⟨A',c',hv,_,_,hx⟩:=HU.out
    simp only[Value.slice.injEq]at hv
    obtain⟨rfl,_,rfl⟩:=hv
    exact hx j y hy
   have e1:=(HBQ.out.cell (p:=⟨g,o+j,none⟩) hg).trans e0
   have HTK:=Lib.hid (show c.take (j+1)=c.take j++ [y]from by rw[List.take_add_one,hy];rfl)
   have hel:=eachL_len (c.take j)
   rw[List.length_take]at hel
   obtain⟨xs,hxs⟩: ∃z,eachL (c.take j)=z:=⟨_,rfl⟩
   rw[hxs]at HO hel
   have hsn:eachL (c.take (j+1))=if xs.contains y=true then xs else xs++ [y]:=by rw[HTK.out,eachL_snoc,hxs]
   obtain⟨Ao,co,rfl,_⟩:=mx_slice HO.out
   have HCT:=Lib.hid (contains_l _ xs y wr (IntsIn.of_own HO.out) (by omega))
   have hz:=HBQ.out.size
   obtain⟨q,hq⟩: ∃q,xs.contains y=q:=⟨_,rfl⟩
   rw[hq]at hsn HCT
   clear hy e0 hxs hq
   cases q with
   | true=>
    have HSN:=Lib.hid (show eachL (c.take (j+1))=xs from hsn)
    clear hsn
    go_wp2_with fail
    refine HCT.out.mono ?_
    rintro e w1 ⟨rfl,rfl⟩
    go_wp2_with fail
    go_roundw
    case rel=>
     refine⟨j+1,by omega,by go_num,?_,HBQ⟩
     rw[HSN.out]
     exact HO
    case measure=>simp[intOf];omega
   | false=>
    have HSN:=Lib.hid (show eachL (c.take (j+1))=xs++ [y]from hsn)
    clear hsn
    go_wp2_with fail
    refine HCT.out.mono ?_
    rintro e w1 ⟨rfl,rfl⟩
    go_wp2_with (at_builtin;refine wpList_append_own_at _ rfl _ _ 33 rfl w.heap.size 32 i0 (.int .i64 0) 1 8 Tryz.underlying33 hi hz0 hz1 hz2 rfl (by decide) _ xs.length _ rfl (own_below HO.out (mx_al wr _)) ⟨wr.heap.size,0,none⟩ 1 1 [.int .i64 y] rfl rfl (cell_one_new' _ _ _) (by simp[Value.oneCell']) (by unfold maxLen;omega) (by omega) (by simp;omega) ?_;intro v' w2' hown hgrow hnl2 hat)
    have HO2':=Lib.hid hown
    have HB2':=Lib.hid (HBQ.out.trans (((mx_al wr (.cells #[.int .i64 y] 32)).mono hz).grown hgrow (by simp;omega) (fun g hg=>(own_lt HO.out g hg).1)))
    clear hown hgrow hnl2 hat
    go_wp2
    go_roundw
    case rel=>
     refine⟨j+1,by omega,by go_num,?_,HB2'⟩
     rw[HSN.out,List.length_append,List.map_append]
     exact HO2'
    case measure=>simp[intOf];omega
  ·obtain rfl:j=n:=by omega
   have ho:=HO.out
   rw[List.take_of_length_le (by rw[HN.out];exact Nat.le_refl _)]at ho
   obtain⟨Ao,co,rfl,_⟩:=mx_slice ho
   have HO2:=Lib.hid ho
   clear ho
   go_wp2_with fail
   go_ret
   exact⟨_,rfl,HO2.out,HBQ.out⟩
theorem ar_has {O:Nat→Prop} (b:Nat) (A:Arn) (id:Int) (w:World) (h:ArAt O w b A):
  Calls Tryz.prog 134 #[.pointer (some ⟨b,0,none⟩),.int .i64 id] w fun e w'=>e= .returned (.bool (A.find id).isSome)∧Below w.heap.size w w':=by
 have HIS:=Lib.hid (ar_is b A w h)
 have hf:=ar_find b A id w h
 cases hp:A.find id with
 | none=>
  rw[hp]at hf
  have HF:=Lib.hid hf
  clear hf hp h
  go_enter Tryz.func134,Tryz.ntmps134
  go_wp2_with fail
  refine HIS.out.mono ?_
  rintro e w1 ⟨rfl,rfl⟩
  go_wp2_with fail
  refine HF.out.mono ?_
  rintro e w2 ⟨rfl,hb⟩
  have HB:=Lib.hid hb
  clear hb
  go_wp2_with fail
  go_ret
  exact⟨rfl,HB.out⟩
 | some p=>
  rw[hp]at hf
  have HF:=Lib.hid hf
  clear hf hp h
  go_enter Tryz.func134,Tryz.ntmps134
  go_wp2_with fail
  refine HIS.out.mono ?_
  rintro e w1 ⟨rfl,rfl⟩
  go_wp2_with fail
  refine HF.out.mono ?_
  rintro e w2 ⟨rfl,hb⟩
  have HB:=Lib.hid hb
  have hq:decide ((0:Int)≤(p:Int))=true:=by simp
  clear hb
  simp only[findInt]
  go_wp2_with fail
  go_ret
  exact⟨rfl,HB.out⟩
end Go.Proofs.YtoojmhjagipmdaaGreat
