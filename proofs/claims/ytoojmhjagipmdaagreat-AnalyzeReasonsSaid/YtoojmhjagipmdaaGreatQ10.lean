/- The watch: put, drop. The arena: Add. -/
import Derived.Test.YtoojmhjagipmdaaGreatQ09
import Derived.Test.YtoojmhjagipmdaaGreatQ02
import Derived.Test.YtoojmhjagipmdaaGreatQ03
import Derived.Test.YtoojmhjagipmdaaGreatQ04
import Derived.Deep.DeepCutAuto
import Derived.Deep.CutBlock
namespace Go.Proofs.YtoojmhjagipmdaaGreat
open Go.RowKit Go.Maps Go.Shelf

/-- a store into a map at an operation of a region that draws -/
theorem wp_putS_at {P : Program} {kt t et : TypeId} {w : World} {b : Nat} {m : List (Int × Value)} {o : Oper} {a : Act} {K : Act → World → Prop} {Q : Exit → Act → World → Prop} (h : MapS P kt w b m) (KK : Keyed P kt) (hk : P.underlying kt = some (.int .i64)) (ht : P.underlying t = some (.map kt et))
    (mm x v : Operand) (hop : o.op = Op.mapUpdate t mm x v) (hm : a.eval mm = .map (some b)) (hn : m.length < maxLen) (i : Int) (y : Value) (hx : a.eval x = .int .i64 i) (hv : a.eval v = y) (hi : (Lit.int .i64 i).wf = true)
    (hK : ∀ w', MapS P kt w' b (putA m i y) → w.grownBy w' (some b) → K (a.put o.dst undef) w') : Oper.wp P o a w K Q := by
  obtain ⟨w', hr, h2, h3⟩ := h.update KK hk ht hn hi y
  unfold Oper.wp execOp
  simp only [hop, hm, hx, hv, Sem.run_bind, Sem.run_pure, Result.andThen_ok, hr]
  exact hK w' h2 h3
theorem look_rows {w : World} {ob : Nat} {F : List (Int × OfM)} (h : MapO w ob (mapV OfM.v F)) {l : Int} (hl : (Lit.int .i64 l).wf = true) : (Instr.lookup 155 (.map (some ob)) (.int .i64 l) false).run Tryz.prog w = .ok (rowV F l) w := by
  have := h.look lit_law Tryz.underlying32 Tryz.underlying155 (lit_zero_slice w) false hl
  rw [mapV_get] at this
  exact this
theorem kept_or {O O' : Nat → Prop} {a b c : World} (h : Kept O a b) (k : Kept O' b c) : Kept (fun g => O g ∨ O' g) a c := (h.mono (fun _ _ h => Or.inl h)).trans k (fun _ _ h => .inr h)
/-- what put and drop may write: rows of numbers, and the map of them -/
def WF (O : Nat → Prop) (ob : Nat) (w : World) (g : Nat) : Prop := O g ∧ (g = ob ∨ ∃ c, w.heap[g]? = some (.cells c 3 (0, 0)))
def WaMNext (O : Nat → Prop) (w w' : World) (b ab tb : Nat) (S' : Wst) (kb ob : Nat) (K : List (Int × KnM)) : Prop := (∃ F' tg', WaMem (fun g => O g ∨ w.heap.size ≤ g ∧ g < w'.heap.size) w' b ab tb S' kb ob K F' tg') ∧ Kept (WF O ob w) w w'
/-- the world then, of a watch -/
def WaNext (O : Nat → Prop) (w w' : World) (b ab tb : Nat) (S' : Wst) : Prop := WaAt (fun g => O g ∨ w.heap.size ≤ g ∧ g < w'.heap.size) w' b ab tb S' ∧ Kept O w w'
theorem wf_lit {l : Int} (h : litB l = true) : (Lit.int .i64 l).wf = true := by
  have := (litB_iff l).1 h
  exact wf64 (by omega) (by omega)
set_option maxRecDepth 100000 in
set_option maxHeartbeats 2000000 in
theorem wa_put_m {O : Nat → Prop} (b ab tb : Nat) (S : Wst) (kb ob : Nat) (K : List (Int × KnM)) (F : List (Int × OfM)) (tg : Nat → Option WTag) (l id : Int) (w : World) (hb : S.Bnd) (hm : WaMem O w b ab tb S kb ob K F tg) (hl : litB l = true) (hid : 1 ≤ id ∧ id ≤ 1073741824) :
    Calls Tryz.prog 109 #[.pointer (some ⟨b, 0, none⟩), .int .i64 l, .int .i64 id] w fun e w' => e = .returned (.tuple #[]) ∧ WaMNext O w w' b ab tb (S.put l id) kb ob K := by
  obtain ⟨hrow, htag⟩ := hm.rowAt l
  have hwf := wf_lit hl
  have c3 : w.cell? ⟨b, 3, none⟩ = some (.map (some ob)) := mx_cell (j := 3) hm.block
  have hse := row_search (rowV F l) (S.row l) id w hrow (hb.row l).1 (hb.rowLen l)
  have hins := fun (vb : Nat) (W : World) (h1 : W.ownsRow 0 3 1 (rowV F l) (S.row l).length ((S.row l).map (Value.int .i64))) (h2 : W.heap[vb]? = some (.cells #[.int .i64 id] 3 (0, 0))) (h3 : (rowV F l).ownBlock ≠ some vb) => row_insert (vb := vb) (rowV F l) (S.row l) id W h1 (Nat.zero_le _) h2 h3 (hb.rowLen l)
  have hil := insI_length (S.row l) id
  obtain ⟨i, hi⟩ : ∃ i, (S.row l).countP (· < id) = i := ⟨_, rfl⟩
  obtain ⟨q, hq⟩ : ∃ q, (S.row l).contains id = q := ⟨_, rfl⟩
  rw [hi, hq] at hse
  rw [hi] at hins
  have HM := Lib.hid hm
  have HB := Lib.hid hb
  have hlt := heap_lt hm.block
  obtain ⟨v, hv⟩ : ∃ v, rowV F l = v := ⟨_, rfl⟩
  have HV := Lib.hid hv
  rw [hv] at hse hins
  have HSE := Lib.hid hse
  have HIN := Lib.hid hins
  have HLK := Lib.hid (hv ▸ hm.lookO hwf)
  have HROW := Lib.hid (hv ▸ hrow)
  have HIL := Lib.hid hil
  have HWI := Lib.hid (wf64 (x := id) (by omega) (by omega))
  have hlk := HLK.out
  clear hb hm hrow htag hl hid hv hi hq hse hins hil
  go_enter Tryz.func109, Tryz.ntmps109
  go_wp2_with fail
  refine HSE.out.mono ?_
  rintro e w1 ⟨rfl, n, rfl⟩
  obtain ⟨W, hW⟩ : ∃ W, w.drewN n = W := ⟨_, rfl⟩
  have hbW : Below w.heap.size w W := by rw [← hW]; exact mx_drewN _ _
  have HZW := Lib.hid (show W.heap.size = w.heap.size by rw [← hW]; rfl)
  rw [hW]
  clear hW
  have HRW := Lib.hid (own_below HROW.out hbW)
  have HBW := Lib.hid hbW
  have HMW := Lib.hid (HM.out.kept (O' := fun _ => False) (Kept.of_below hbW) (fun _ _ h => h))
  clear hlk c3
  go_upto_region 1 with fail
  have HVO := Lib.hid (show v.ownBlock ≠ some b from fun e => mx_not HRW.out HMW.out.block (by decide) e)
  have HVM := Lib.hid (show v.ownBlock ≠ some ob from fun e => by
    obtain ⟨c, hc⟩ := own_type HRW.out ob e
    exact HMW.out.omap.not_cells hc rfl)
  have HC3 := Lib.hid (show ∀ wq, Kept (fun g => v.ownBlock = some g) W wq → wq.cell? ⟨b, 3, none⟩ = some (.map (some ob)) from fun wq hq => mx_cell (j := 3) ((hq.block b (heap_lt HMW.out.block) HVO.out).trans HMW.out.block))
  have HLW := Lib.hid (show ∀ wq, Kept (fun g => v.ownBlock = some g) W wq → (Instr.lookup 155 (.map (some ob)) (.int .i64 l) false).run Tryz.prog wq = .ok v wq from fun wq hq => by
    have := look_rows (HMW.out.omap.kept hq HVM.out) hwf
    rwa [HV.out] at this)
  refine wp_region_sink_at (fun w' => Kept (fun g => v.ownBlock = some g) W w') (by kernel_rfl) (by rfl) (by kernel_rfl) (Kept.of_below (mx_drew W)) (fun hS => ?_)
  refine takeE 0 19 ?_
  refine takeE 1 20 ?_
  refine takeE 2 21 ?_
  refine takeF 3 22 (fun wq hSw => HC3.out wq hSw) ?_
  refine takeE 4 23 ?_
  refine takeE 5 24 ?_
  refine takeE 6 25 ?_
  refine takeE 7 26 ?_
  refine takeF 8 27 (fun wq hSw => HC3.out wq hSw) ?_
  refine takeE 9 28 ?_
  refine takeF 10 29 (fun wq hSw => HLW.out wq hSw) ?_
  refine takeE 11 30 ?_
  refine takeE 12 31 ?_
  refine ready1 13 (fun KK hKK => ?_)
  go_simp
  obtain ⟨W2, hW2⟩ : ∃ X, (W.alloc (.cells #[.int .i64 id] 3)).drew = X := ⟨_, rfl⟩
  have hb2 : Below W.heap.size W W2 := by rw [← hW2]; exact (mx_al _ _).drew
  have hn2 : W2.heap[W.heap.size]? = some (.cells #[.int .i64 id] 3 (0, 0)) := by rw [← hW2]; exact World.alloc_heap_new _ _
  rw [hW2]
  have HB2' := Lib.hid hb2
  have HN2 := Lib.hid hn2
  have HR2 := Lib.hid (own_below HRW.out hb2)
  have HNE := Lib.hid (show v.ownBlock ≠ some W.heap.size from fun e => by have := (own_lt HRW.out _ e).2; omega)
  clear hW2 hn2
  refine hKK.out _ _ (Kept.of_below hb2) (fun _ => ?_)
  clear hKK hS
  refine ready1 14 (fun KK hKK => ?_)
  go_simp
  refine (HIN.out W.heap.size W2 HR2.out HN2.out HNE.out).mono ?_
  rintro e w3 ⟨v', rfl, hr3, hk3, hv3⟩
  have hk3' := (Kept.of_below (O := fun g => v.ownBlock = some g) hb2).trans hk3 (fun _ _ h => h)
  refine hKK.out _ _ hk3' (fun _ => ?_)
  clear hKK hb2
  refine wpAnyH_done (by kernel_rfl) ?_ _
  refine lastPost_normal ?_
  refine wpOp_step rfl (fun KK hKK => ?_)
  rw [if_pos (by rfl)]
  refine wp_putS_at (HMW.out.omap.kept hk3' HVM.out) lit_law Tryz.underlying32 Tryz.underlying155 _ _ _ rfl rfl (by have := HB.out.ofLen; have h2 := mapV_length OfM.v F; have h3 := congrArg List.length HMW.out.oS; rw [mapV_length] at h3; unfold maxLen; omega) l v' rfl rfl hwf ?_
  intro w4 hm4 hg4
  refine hKK _ _ ?_
  clear hKK
  have hk4 : Kept (fun g => (rowV F l).ownBlock = some g ∨ g = ob) W w4 := by
    rw [HV.out]
    exact (kept_or hk3' (Kept.grown hg4)).mono (fun g _ h => h.imp_right (fun e => Option.some.inj e))
  have hr4 := own_kept hr3 (Kept.grown hg4) (fun g hg e => by
    obtain ⟨c, hc⟩ := own_type hr3 g hg
    exact (HMW.out.omap.kept hk3' HVM.out).not_cells hc (Option.some.inj e))
  obtain ⟨tg', hm'⟩ := HMW.out.setRow (l := l) (r' := insI (S.row l) id) hk4 (by rw [HIL.out]; exact hr4) (by
    rw [HV.out]
    refine hv3.imp_right (fun e => ⟨_, e, ?_⟩)
    exact HB2'.out.size) hm4
  have hzw := HZW.out
  have HKW := Lib.hid (show Kept (WF O ob w) w w4 from (Kept.of_below HBW.out).trans hk4 (fun g _ h => by
    rcases h with h | h
    · obtain ⟨hr, ht⟩ := HM.out.rowAt l
      exact ⟨HM.out.intg _ _ (ht g h), .inr (own_type hr g h)⟩
    · exact ⟨h ▸ HM.out.ino, .inl h⟩))
  rw [hzw] at hm'
  have HFIN := Lib.hid (show ∃ F' tg', WaMem (fun g => O g ∨ w.heap.size ≤ g ∧ g < w4.heap.size) w4 b ab tb (S.put l id) kb ob K F' tg' from ⟨_, _, hm'⟩)
  clear hm' hk4 hr4 hm4 hg4 hr3 hk3 hv3 hk3' hzw
  go_wp2_with fail
  go_end0
  exact ⟨rfl, HFIN.out, HKW.out⟩
theorem WaMem.grow {O : Nat → Prop} {w w' : World} {b ab tb kb ob : Nat} {S : Wst} {K : List (Int × KnM)} {F : List (Int × OfM)} {tg : Nat → Option WTag} (hm : WaMem O w b ab tb S kb ob K F tg) (hb : Below w.heap.size w w') : WaMem (fun g => O g ∨ w.heap.size ≤ g ∧ g < w'.heap.size) w' b ab tb S kb ob K F tg := by
  have h2 := hm.kept (O' := fun _ => False) (Kept.of_below hb) (fun _ _ h => h)
  exact { h2 with own := fun g hg => hg.elim (fun h => Nat.lt_of_lt_of_le (hm.own g h) hb.size) (fun h => h.2), inb := .inl h2.inb, ink := .inl h2.ink, ino := .inl h2.ino, intg := fun g t ht => .inl (h2.intg g t ht) }
theorem WaMNext.refl {O : Nat → Prop} {w w' : World} {b ab tb kb ob : Nat} {S : Wst} {K : List (Int × KnM)} {F : List (Int × OfM)} {tg : Nat → Option WTag} (hm : WaMem O w b ab tb S kb ob K F tg) (hb : Below w.heap.size w w') : WaMNext O w w' b ab tb S kb ob K :=
  ⟨⟨F, tg, hm.grow hb⟩, Kept.of_below hb⟩
theorem WaNext.refl {O : Nat → Prop} {w w' : World} {b ab tb : Nat} {S : Wst} (h : WaAt O w b ab tb S) (hb : Below w.heap.size w w') : WaNext O w w' b ab tb S := by
  obtain ⟨hbn, kb, ob, K, F, tg, hm⟩ := h
  exact ⟨⟨hbn, kb, ob, K, F, tg, hm.grow hb⟩, Kept.of_below hb⟩
/-- two calls, one behind the other -/
theorem WaMNext.trans {O : Nat → Prop} {w w1 w2 : World} {b ab tb kb ob : Nat} {S : Wst} {K : List (Int × KnM)} (hk : Kept (WF O ob w) w w1) (h : WaMNext (fun g => O g ∨ w.heap.size ≤ g ∧ g < w1.heap.size) w1 w2 b ab tb S kb ob K) : WaMNext O w w2 b ab tb S kb ob K := by
  obtain ⟨⟨F, tg, hm⟩, k⟩ := h
  refine ⟨⟨F, tg, hm.congr (fun g => ?_)⟩, hk.trans k (fun i hi h => ?_)⟩
  · have h1 := hk.size
    have h2 := k.size
    constructor
    · rintro ((h | h) | h)
      · exact .inl h
      · exact .inr ⟨h.1, by omega⟩
      · exact .inr ⟨by omega, h.2⟩
    · rintro (h | h)
      · exact .inl (.inl h)
      · by_cases hg : g < w1.heap.size
        · exact .inl (.inr ⟨h.1, hg⟩)
        · exact .inr ⟨by omega, h.2⟩
  · obtain ⟨ho, hc⟩ := h
    have ho' : O i := ho.elim (fun h => h) (fun h => by omega)
    refine ⟨ho', ?_⟩
    rcases hc with hc | hc
    · exact .inl hc
    · by_cases hw : WF O ob w i
      · exact hw.2
      · rw [hk.block i hi hw] at hc
        exact .inr hc
theorem WaMNext.at_ {O : Nat → Prop} {w w' : World} {b ab tb kb ob : Nat} {S' : Wst} {K : List (Int × KnM)} (h : WaMNext O w w' b ab tb S' kb ob K) (hb : S'.Bnd) : WaNext O w w' b ab tb S' := by
  obtain ⟨⟨F, tg, hm⟩, k⟩ := h
  exact ⟨⟨hb, kb, ob, K, F, tg, hm⟩, k.mono (fun _ _ h => h.1)⟩
set_option maxRecDepth 100000 in
set_option maxHeartbeats 2000000 in
theorem wa_drop_m {O : Nat → Prop} (b ab tb : Nat) (S : Wst) (kb ob : Nat) (K : List (Int × KnM)) (F : List (Int × OfM)) (tg : Nat → Option WTag) (l id : Int) (w : World) (hb : S.Bnd) (hm : WaMem O w b ab tb S kb ob K F tg) (hwf : (Lit.int .i64 l).wf = true) :
    Calls Tryz.prog 137 #[.pointer (some ⟨b, 0, none⟩), .int .i64 l, .int .i64 id] w fun e w' => e = .returned (.tuple #[]) ∧ WaMNext O w w' b ab tb (S.drop l id) kb ob K := by
  obtain ⟨hrow, htag⟩ := hm.rowAt l
  have c3 : w.cell? ⟨b, 3, none⟩ = some (.map (some ob)) := mx_cell (j := 3) hm.block
  have hse := row_search (rowV F l) (S.row l) id w hrow (hb.row l).1 (hb.rowLen l)
  have hrl := hb.rowLen l
  have hil := countP_le_len (S.row l) id
  have hat := fun hx => up_at (hb.row l).1 (x := id) hx
  have hrem : ∀ j, (S.row l).countP (· < id) = j → (S.row l).contains id = true → remI (S.row l) id = (S.row l).eraseIdx j := fun j hj hc => by
    unfold remI
    rw [if_pos hc, hj]
  have HDN : (S.row l).contains id = false → S.drop l id = S := fun hc => by
    unfold Wst.drop
    rw [if_neg (by rw [hc]; decide)]
  have HDY : (S.row l).contains id = true → S.drop l id = ⟨S.known, putA S.of l (remI (S.row l) id), S.looked⟩ := fun hc => by
    unfold Wst.drop
    rw [if_pos hc]
  have hmem : (S.row l).contains id = true → id ∈ S.row l := fun hc => by simpa using hc
  obtain ⟨i, hi⟩ : ∃ i, (S.row l).countP (· < id) = i := ⟨_, rfl⟩
  obtain ⟨q, hq⟩ : ∃ q, (S.row l).contains id = q := ⟨_, rfl⟩
  rw [hi] at hse hil hat
  have hrem := hrem i hi
  rw [hq] at hse HDN HDY hrem hmem
  have HM := Lib.hid hm
  have HB := Lib.hid hb
  have hlt := heap_lt hm.block
  obtain ⟨v, hv⟩ : ∃ v, rowV F l = v := ⟨_, rfl⟩
  have HV := Lib.hid hv
  rw [hv] at hse
  have HSE := Lib.hid hse
  have hlk := hv ▸ hm.lookO hwf
  have HROW := Lib.hid (hv ▸ hrow)
  have hwi : IntKind.i64.wrap ((i : Int) + 1) = (i : Int) + 1 := IntWalk.i64_in _ (by omega)
  cases q with
  | false =>
    have HDD := Lib.hid (HDN rfl)
    clear hb hm hrow htag hv hi hq hse hil HDN HDY hrem hat hmem hrl
    go_enter Tryz.func137, Tryz.ntmps137
    go_wp2_with fail
    refine HSE.out.mono ?_
    rintro e w1 ⟨rfl, n, rfl⟩
    clear hlk c3
    go_wp2_with fail
    go_end0
    refine ⟨rfl, ?_⟩
    rw [HDD.out]
    exact WaMNext.refl HM.out (mx_drewN _ _)
  | true =>
    have HDD := Lib.hid (HDY rfl)
    have hilt := (List.getElem?_eq_some_iff.1 (hat (hmem rfl))).1
    have HRE := Lib.hid (hrem rfl)
    have HEL := Lib.hid (show ((S.row l).eraseIdx i).length = (S.row l).length - 1 by rw [List.length_eraseIdx, if_pos hilt])
    have HIN := Lib.hid (fun (W : World) (h1 : W.ownsRow 0 3 1 v (S.row l).length ((S.row l).map (Value.int .i64))) => row_delete v (S.row l) i W h1 hilt)
    clear hb hm hrow htag hv hi hq hse hil HDN HDY hrem hat hmem hilt hrl
    go_enter Tryz.func137, Tryz.ntmps137
    go_wp2_with fail
    refine HSE.out.mono ?_
    rintro e w1 ⟨rfl, n, rfl⟩
    obtain ⟨W, hW⟩ : ∃ W, w.drewN n = W := ⟨_, rfl⟩
    have hbW : Below w.heap.size w W := by rw [← hW]; exact mx_drewN _ _
    have HZW := Lib.hid (show W.heap.size = w.heap.size by rw [← hW]; rfl)
    rw [hW]
    clear hW
    have HRW := Lib.hid (own_below HROW.out hbW)
    have HBW := Lib.hid hbW
    have HMW := Lib.hid (HM.out.kept (O' := fun _ => False) (Kept.of_below hbW) (fun _ _ h => h))
    clear hlk c3
    go_upto_region 2 with fail
    have HVO := Lib.hid (show v.ownBlock ≠ some b from fun e => mx_not HRW.out HMW.out.block (by decide) e)
    have HVM := Lib.hid (show v.ownBlock ≠ some ob from fun e => by
      obtain ⟨c, hc⟩ := own_type HRW.out ob e
      exact HMW.out.omap.not_cells hc rfl)
    have HC3 := Lib.hid (show ∀ wq, Kept (fun g => v.ownBlock = some g) W wq → wq.cell? ⟨b, 3, none⟩ = some (.map (some ob)) from fun wq hq => mx_cell (j := 3) ((hq.block b (heap_lt HMW.out.block) HVO.out).trans HMW.out.block))
    have HLW := Lib.hid (show ∀ wq, Kept (fun g => v.ownBlock = some g) W wq → (Instr.lookup 155 (.map (some ob)) (.int .i64 l) false).run Tryz.prog wq = .ok v wq from fun wq hq => by
      have := look_rows (HMW.out.omap.kept hq HVM.out) hwf
      rwa [HV.out] at this)
    refine wp_region_sink_at (fun w' => Kept (fun g => v.ownBlock = some g) W w') (by kernel_rfl) (by rfl) (by kernel_rfl) (Kept.of_below (mx_drew W)) (fun hS => ?_)
    refine takeE 0 20 ?_
    refine takeE 1 21 ?_
    refine takeE 2 22 ?_
    refine takeF 3 23 (fun wq hSw => HC3.out wq hSw) ?_
    refine takeE 4 24 ?_
    refine takeE 5 25 ?_
    refine takeE 6 26 ?_
    refine takeE 7 27 ?_
    refine takeF 8 28 (fun wq hSw => HC3.out wq hSw) ?_
    refine takeE 9 29 ?_
    refine takeF 10 30 (fun wq hSw => HLW.out wq hSw) ?_
    refine takeE 11 31 ?_
    refine takeE 12 32 ?_
    refine takeE 13 33 ?_
    refine ready1 14 (fun KK hKK => ?_)
    go_simp
    refine (HIN.out _ (own_below HRW.out (mx_drew W))).mono ?_
    rintro e w3 ⟨v', rfl, hr3, hk3, hv3⟩
    have hk3' := hS.trans hk3 (fun _ _ h => h)
    refine hKK.out _ _ hk3' (fun _ => ?_)
    clear hKK hS
    refine wpAnyH_done (by kernel_rfl) ?_ _
    refine lastPost_normal ?_
    refine wpOp_step rfl (fun KK hKK => ?_)
    rw [if_pos (by rfl)]
    refine wp_putS_at (HMW.out.omap.kept hk3' HVM.out) lit_law Tryz.underlying32 Tryz.underlying155 _ _ _ rfl rfl (by have := HB.out.ofLen; have h2 := mapV_length OfM.v F; have h3 := congrArg List.length HMW.out.oS; rw [mapV_length] at h3; unfold maxLen; omega) l v' rfl rfl hwf ?_
    intro w4 hm4 hg4
    refine hKK _ _ ?_
    clear hKK
    have hk4 : Kept (fun g => (rowV F l).ownBlock = some g ∨ g = ob) W w4 := by
      rw [HV.out]
      exact (kept_or hk3' (Kept.grown hg4)).mono (fun g _ h => h.imp_right (fun e => Option.some.inj e))
    have hr4 := own_kept hr3 (Kept.grown hg4) (fun g hg e => by
      obtain ⟨c, hc⟩ := own_type hr3 g hg
      exact (HMW.out.omap.kept hk3' HVM.out).not_cells hc (Option.some.inj e))
    obtain ⟨tg', hm'⟩ := HMW.out.setRow (l := l) (r' := (S.row l).eraseIdx i) hk4 (by rw [HEL.out]; exact hr4) (by
      rw [HV.out]
      exact .inl hv3) hm4
    have hzw := HZW.out
    have HKW := Lib.hid (show Kept (WF O ob w) w w4 from (Kept.of_below HBW.out).trans hk4 (fun g _ h => by
      rcases h with h | h
      · obtain ⟨hr, ht⟩ := HM.out.rowAt l
        exact ⟨HM.out.intg _ _ (ht g h), .inr (own_type hr g h)⟩
      · exact ⟨h ▸ HM.out.ino, .inl h⟩))
    rw [hzw, ← HRE.out] at hm'
    have HFIN := Lib.hid (show ∃ F' tg', WaMem (fun g => O g ∨ w.heap.size ≤ g ∧ g < w4.heap.size) w4 b ab tb (S.drop l id) kb ob K F' tg' from by
      rw [HDD.out]
      exact ⟨_, _, hm'⟩)
    clear hm' hk4 hr4 hm4 hg4 hr3 hk3 hv3 hk3' hzw
    go_wp2_with fail
    go_end0
    exact ⟨rfl, HFIN.out, HKW.out⟩
end Go.Proofs.YtoojmhjagipmdaaGreat
namespace Go.Proofs.YtoojmhjagipmdaaGreat
open Go.RowKit

section
variable {P : Program}
theorem append_types {t t' e e' : TypeId} (h : P.underlying t = some (.slice e)) (h' : P.underlying t' = some (.slice e')) (ty : TypeId) (s x : Value) (w : World) :
  (Builtin.append_ #[t, t'] ty #[s, x]).run P w = (Builtin.append_ #[t, t] ty #[s, x]).run P w := by
 have hu : ∀ (w : World) , (underlying t).run P w = .ok (.slice e) w := fun w => by simp [underlying, h, go_sem]
 have hu' : ∀ (w : World) , (underlying t').run P w = .ok (.slice e') w := fun w => by simp [underlying, h', go_sem]
 unfold Builtin.append_
 simp only [List.getElem?_toArray, List.getElem?_cons_zero, List.getElem?_cons_succ, Sem.run_bind, hu, Result.andThen_ok]
 cases s
 case slice => simp only [Sem.run_bind, hu, hu', Result.andThen_ok, Sem.run_pure]
 all_goals rfl
theorem wpList_append_two {w : World} {ops : Array Oper} {rest : List Oper} {o : Oper} {a : Act} {Q : Exit → Act → World → Prop} (hg : o.guard = none) (s x : Operand) (t t' : TypeId) (ho : o.op = .call { callee := .builtin .append, args := #[s, x], argTypes := #[t, t'] })
  (base : Nat) (e e' : TypeId) (i : TypeInfo) (z : Value) (size bytes : Nat) (ht : P.underlying t = some (.slice e)) (ht' : P.underlying t' = some (.slice e')) (hi : P.info? e = some i) (hz : i.zero = some z) (hsize : i.size = size) (hby : i.bytes = bytes) (hzs : z.cells.size = size) (hsz : 0 < size)
  (v : Value) (n : Nat) (xs : List Value) (hs : a.eval s = v) (hown : w.ownsRow base e size v n xs)
  (y : Value) (m : Nat) (news : List Value) (hx : a.eval x = y) (hy : SrcAt w y m news) (hl : news.length = m * size) (h1 : ∀ u ∈ news, u.oneCell' = true)
  (h63 : n + m ≤ maxLen) (hbytes : (n + m) * bytes ≤ 140737488355328) (hbase : base ≤ w.heap.size)
  (h : ∀ v' w', w'.ownsRow base e size v' (n + m) (xs ++ news) → w.grownBy w' v.ownBlock → (v'.ownBlock = v.ownBlock ∨ v'.ownBlock = some w.heap.size) → wpList P ops Q rest (a.put o.dst v') w') : wpList P ops Q (o :: rest) a w := by
 refine wpList_plain hg fun K hK => ?_
 obtain ⟨v', w', hr, h2, h3, h5⟩ := run_append_any (P := P) w base t o.type e i z size bytes ht hi hz hsize hby hzs hsz v n xs hown y m news hy hl h1 h63 hbytes hbase
 rw [← append_types ht ht'] at hr
 unfold Oper.wp execOp
 simp only [ho, resolve, invoke, builtin, Sem.run_bind, Sem.run_pure, Result.andThen_ok, List.map_toArray, List.map_cons, List.map_nil, hs, hx, hr]
 exact hK _ _ (h v' w' h2 h3 h5)
end
end Go.Proofs.YtoojmhjagipmdaaGreat
namespace Go.Proofs.YtoojmhjagipmdaaGreat
open Go.RowKit

theorem ainfo_lit : (Tryz.prog.info? 32).map (fun i => (i.zero, i.size, i.bytes)) = some (some (.int .i64 0), 1, 8) := by kernel_rfl
theorem ainfo_ent : (Tryz.prog.info? 196).map (fun i => (i.zero, i.size, i.bytes)) = some (some (.agg #[.int .i64 0, .int .i64 0, .int .i64 0, .bool false]), 4, 32) := by kernel_rfl
def Arn.add (A : Arn) (id : Int) (c : List Int) : Arn := ⟨A.store ++ c, A.all ++ [⟨A.store.length, A.store.length + c.length, id, false⟩], A.used + c.length, A.count + 1, id⟩
def ArNext (O : Nat → Prop) (w w' : World) (b : Nat) (A' : Arn) : Prop := ArAt (fun g => O g ∨ w.heap.size ≤ g ∧ g < w'.heap.size) w' b A' ∧ Kept O w w'
theorem ar_added {O : Nat → Prop} {b : Nat} {A : Arn} {id : Int} {c : List Int} {w wf wI : World} {SL : Nat} {Ast Aal Ax Ay : Option Addr} {cst cal kx ky : Nat} (hid : A.last < id) (hid2 : id ≤ 1073741824) (hus : A.used + c.length ≤ 1048576) (hal : A.all.length < 1073741824) (hct : A.count < 1073741824) (hSL : A.store.length + c.length = SL)
  (hk : A.Ok) (hm : ArMem O w b A (.slice Ast A.store.length cst) (.slice Aal A.all.length cal)) (hbw : b < w.heap.size) (hbwf : b < wf.heap.size)
  (hblk : wI.heap[b]? = some (.cells #[.slice Ax SL kx, .slice Ay (A.all.length + 1) ky, .int .i64 ((A.used : Int) + (c.length : Int)), .int .i64 ((A.count : Int) + 1), .int .i64 id, .bool true] 192 (0, 0)))
  (hkw : Kept (fun g => g = b ∨ (Value.slice Ast A.store.length cst).ownBlock = some g ∨ (Value.slice Aal A.all.length cal).ownBlock = some g) w wI) (hkf : Kept (fun g => g = b) wf wI)
  (hx : wf.ownsRow 0 32 1 (.slice Ax SL kx) SL (A.store.map (Value.int .i64) ++ c.map (Value.int .i64)))
  (hy : wf.ownsRow 0 196 4 (.slice Ay (A.all.length + 1) ky) (A.all.length + 1) (A.all.flatMap Ent.cells ++ [.int .i64 (A.store.length : Nat), .int .i64 (SL : Nat), .int .i64 id, .bool false]))
  (hnx : (Value.slice Ax SL kx).ownBlock ≠ some b) (hny : (Value.slice Ay (A.all.length + 1) ky).ownBlock ≠ some b)
  (hax : ∀ g, (Value.slice Ax SL kx).ownBlock = some g → O g ∨ w.heap.size ≤ g ∧ g < wf.heap.size) (hay : ∀ g, (Value.slice Ay (A.all.length + 1) ky).ownBlock = some g → O g ∨ w.heap.size ≤ g ∧ g < wf.heap.size) (hsl : SL ≤ 4194304) :
  ArNext O w wI b (A.add id c) := by
 have hz := hkf.size
 have hzw := hkw.size
 have hnum := hk.nums
 have hlens := hk.lens
 have hall : ∀ e ∈ A.all ++ [(⟨A.store.length, A.store.length + c.length, id, false⟩ : Ent)], 1 ≤ e.id ∧ e.id ≤ 1073741824 ∧ e.fr ≤ e.upto ∧ e.upto ≤ (A.store ++ c).length := fun e he => by
  rw [List.length_append]
  rcases List.mem_append.1 he with h1 | h1
  ·
   have := hk.each e h1
   omega
  ·
   rw [List.mem_singleton.1 h1]
   simp only []
   omega
 refine ⟨⟨⟨?_, hall, ⟨?_, ?_⟩, ⟨hus, ?_, ?_, hid2⟩, ?_⟩, .slice Ax SL kx, .slice Ay (A.all.length + 1) ky, ⟨?_, .inl hm.inb, ?_, ?_, ?_, ?_, ?_⟩⟩, hkw.mono (fun g hg e => ?_)⟩
 ·
  show (A.all ++ [_]).Pairwise _
  rw [List.pairwise_append]
  refine ⟨hk.sorted, List.pairwise_singleton _ _, fun x hx y hy => ?_⟩
  rw [List.mem_singleton.1 hy]
  have := hk.last x hx
  show x.id < id
  omega
 ·
  show (A.all ++ [_]).length ≤ _
  rw [List.length_append, List.length_singleton]
  omega
 ·
  show (A.store ++ c).length ≤ _
  rw [List.length_append]
  omega
 ·
  show A.count + 1 ≤ _
  omega
 ·
  show 0 ≤ id
  omega
 ·
  intro e he
  rcases List.mem_append.1 (show e ∈ A.all ++ [_] from he) with h1 | h1
  ·
   have := hk.last e h1
   show e.id ≤ id
   omega
  ·
   rw [List.mem_singleton.1 h1]
   exact Int.le_refl _
 ·
  intro g hg
  rcases hg with hg | hg
  ·
   exact Nat.lt_of_lt_of_le (hm.own g hg) hzw
  ·
   exact hg.2
 ·
  show wI.heap[b]? = some (.cells #[_, _, .int .i64 ((A.used + c.length : Nat) : Int), .int .i64 ((A.count + 1 : Nat) : Int), .int .i64 id, .bool true] _ _)
  rw [Int.natCast_add, Int.natCast_add]
  exact hblk
 ·
  have h1 := own_kept hx hkf (fun g hg e => by
   subst e
   exact hnx hg)
  show wI.ownsRow 0 _ 1 _ (A.store ++ c).length ((A.store ++ c).map _)
  rw [List.length_append, hSL, List.map_append]
  exact h1
 ·
  intro g hg
  rcases hax g hg with h1 | h1
  ·
   exact .inl h1
  ·
   exact .inr ⟨h1.1, by omega⟩
 ·
  have h1 := own_kept hy hkf (fun g hg e => by
   subst e
   exact hny hg)
  show wI.ownsRow 0 _ 4 _ (A.all ++ [_]).length ((A.all ++ [_]).flatMap _)
  rw [List.length_append, List.flatMap_append, hSL]
  exact h1
 ·
  intro g hg
  rcases hay g hg with h1 | h1
  ·
   exact .inl h1
  ·
   exact .inr ⟨h1.1, by omega⟩
 ·
  rcases e with e | e | e
  ·
   rw [e]
   exact hm.inb
  ·
   exact hm.storeb g e
  ·
   exact hm.allb g e
set_option maxRecDepth 100000 in
set_option maxHeartbeats 4000000 in
theorem ar_add {O Oc : Nat → Prop} (b : Nat) (A : Arn) (id : Int) (cv : Value) (c : List Int) (w : World) (h : ArAt O w b A) (hc : IntsIn Oc w cv c) (hr : clauseB c = true) (hcl : c.length ≤ 4096) (hid : A.last < id) (hid2 : id ≤ 1073741824) (hus : A.used + c.length ≤ 1048576) (hsl : A.store.length + c.length ≤ 4194304) (hal : A.all.length < 1073741824) (hct : A.count < 1073741824) :
  Calls Tryz.prog 92 #[.pointer (some ⟨b, 0, none⟩), .int .i64 id, cv] w fun e w' => e = .returned (.int .i64 0) ∧ ArNext O w w' b (A.add id c) := by
 have HIS := Lib.hid (ar_is b A w h)
 have hrc := right_clause cv c w hc (by omega)
 rw [hr] at hrc
 have HRC := Lib.hid hrc
 obtain ⟨hk, stv, alv, h⟩ := h
 have hnum := hk.nums
 have HK := Lib.hid hk
 have HM := Lib.hid h
 have HC := Lib.hid hc
 obtain ⟨Ast, cst, rfl, _⟩ := mx_slice h.store
 obtain ⟨Aal, cal, rfl, _⟩ := mx_slice h.all
 obtain ⟨Ac, cc, rfl, _, _, _⟩ := hc
 have c0 : w.cell? ⟨b, 0, none⟩ = some (.slice Ast A.store.length cst) := mx_cell (j := 0) h.block
 have c2 : w.cell? ⟨b, 2, none⟩ = some (.int .i64 (A.used : Nat)) := mx_cell (j := 2) h.block
 have c4 : w.cell? ⟨b, 4, none⟩ = some (.int .i64 A.last) := mx_cell (j := 4) h.block
 have fb0 := mx_free (j := 0) h.block
 have q1 : decide (id < 1) = false := by simp; omega
 have q2 : decide ((1073741824 : Int) < id) = false := by simp; omega
 have q3 : decide (id ≤ A.last) = false := by simp; omega
 have q4 : decide ((1048576 : Int) < (A.used : Int) + (c.length : Int)) = false := by simp; omega
 have hbw := heap_lt h.block
 obtain ⟨i0, hi0, hz0, hz1, hz2⟩ := info_parts ainfo_lit
 clear h hk hrc hr
 go_enter Tryz.func92, Tryz.ntmps92
 go_wp2_with fail
 refine HIS.out.mono ?_
 rintro e w' ⟨rfl, rfl⟩
 go_wp2_with fail
 refine HRC.out.mono ?_
 rintro e w' ⟨rfl, rfl⟩
 go_upto_region 10 with fail
 go_wp2_with (at_builtin; refine wpList_append_two rfl _ _ 33 34 rfl 0 32 32 i0 (.int .i64 0) 1 8 Tryz.underlying33 Tryz.underlying34 hi0 hz0 hz1 hz2 rfl (by decide) _ A.store.length _ rfl HM.out.store (.slice Ac c.length cc) c.length (c.map (Value.int .i64)) rfl (HC.out.src) (by simp) (by simp [Value.oneCell']) (by unfold maxLen; omega) (by omega) (Nat.zero_le _) ?_; intro v' w1 hown hgrow hat; obtain ⟨Ax, kx, hv2, _⟩ := mx_slice hown; subst hv2; have HOX := Lib.hid hown; have hkg : Kept (fun g => (Value.slice Ast A.store.length cst).ownBlock = some g) w w1 := (Kept.grown hgrow).mono (fun i hi e => e.symm); have hnb : (Value.slice Ast A.store.length cst).ownBlock ≠ some b := mx_not HM.out.store HM.out.block (by decide); have hb2 := (hkg.block b hbw hnb).trans HM.out.block; have p0 : w1.cell? ⟨b, 0, none⟩ = some (.slice Ast A.store.length cst) := mx_cell (j := 0) hb2; have fp0 := mx_free (j := 0) hb2; have HKG := Lib.hid hkg; have HB2 := Lib.hid hb2; have HAT := Lib.hid (show (Value.slice Ax (A.store.length + c.length) kx).ownBlock = (Value.slice Ast A.store.length cst).ownBlock ∨ (Value.slice Ax (A.store.length + c.length) kx).ownBlock = some w.heap.size from hat); clear hown hgrow hat hkg hb2 c0 c2 c4 fb0)
 obtain ⟨SL, hSL⟩ : ∃ n, A.store.length + c.length = n := ⟨_, rfl⟩
 rw [hSL] at HOX HAT ⊢
 have HSL := Lib.hid hSL
 have hslb : SL ≤ 4194304 := by omega
 clear hSL
 obtain ⟨wa, hwa⟩ : ∃ x, w1.setCell ⟨b, 0, none⟩ (.slice Ax SL kx) = x := ⟨_, rfl⟩
 have hka : Kept (fun g => g = b) w1 wa := by rw [← hwa]; exact (Kept.refl (fun g => g = b) w1).setCell ⟨b, 0, none⟩ _ rfl
 have hba : wa.heap[b]? = some (.cells #[.slice Ax SL kx, .slice Aal A.all.length cal, .int .i64 (A.used : Nat), .int .i64 (A.count : Nat), .int .i64 A.last, .bool true] 192 (0, 0)) := by rw [← hwa]; exact mx_set HB2.out _ (j := 0)
 have hnx : (Value.slice Ax SL kx).ownBlock ≠ some b := mx_not HOX.out HB2.out (by decide)
 have hox : wa.ownsRow 0 32 1 (.slice Ax SL kx) SL (A.store.map (Value.int .i64) ++ c.map (Value.int .i64)) := own_kept HOX.out hka (fun g hg e => by
  subst e
  exact hnx hg)
 have hkw : Kept (fun g => g = b ∨ (Value.slice Ast A.store.length cst).ownBlock = some g) w wa := (HKG.out.mono (fun g _ h => .inr h)).trans hka (fun i _ e => .inl e)
 have hra : wa.ownsRow 0 196 4 (.slice Aal A.all.length cal) A.all.length (A.all.flatMap Ent.cells) := own_kept HM.out.all hkw (fun g hg e => by
  rcases e with e | e
  ·
   subst e
   exact mx_not HM.out.all HM.out.block (by decide) hg
  ·
   exact mx_apart HM.out.all HM.out.store (by decide) hg e)
 rw [hwa]
 have hwza := hkw.size
 have HBA := Lib.hid hba
 have HOXA := Lib.hid hox
 have HKW := Lib.hid hkw
 have HRA := Lib.hid hra
 have HNX := Lib.hid hnx
 clear hwa hka hba hnx hox hkw hra HOX HKG HB2 p0 fp0 hnb hi0 hz0 hz1 hz2
 clear i0
 obtain ⟨i0, hi0, hz0, hz1, hz2⟩ := info_parts ainfo_ent
 have c0 : wa.cell? ⟨b, 0, none⟩ = some (.slice Ax SL kx) := mx_cell (j := 0) HBA.out
 have c1 : wa.cell? ⟨b, 1, none⟩ = some (.slice Aal A.all.length cal) := mx_cell (j := 1) HBA.out
 refine wp_region_sink_at (S := fun w' => w'.cell? ⟨b, 0, none⟩ = some (.slice Ax SL kx) ∧ w'.cell? ⟨b, 1, none⟩ = some (.slice Aal A.all.length cal)) (by kernel_rfl) rfl (by kernel_rfl) ⟨c0, c1⟩ (fun hHeld => ?_)
 obtain ⟨wD, hwD⟩ : ∃ x, wa.drew = x := ⟨_, rfl⟩
 have hbD : Below wa.heap.size wa wD := by rw [← hwD]; exact mx_drew wa
 rw [hwD] at hHeld ⊢
 have hzD := hbD.size
 have HBD := Lib.hid hbD
 clear hwD hbD c0 c1
 refine takeS 0 54 ?_
 refine takeS 1 55 ?_
 refine takeS 2 56 ?_
 refine takeS 3 57 ?_
 refine takeS 4 58 ?_
 refine takeS 5 59 ?_
 refine takeS 6 60 ?_
 refine takeS 7 61 ?_
 refine takeS 8 62 ?_
 refine takeS 9 63 ?_
 refine takeS 10 64 ?_
 refine takeS 11 65 ?_
 refine takeS 12 66 ?_
 refine takeS 13 67 ?_
 refine ready1 14 (fun K hK => ?_)
 go_simp
 obtain ⟨wN, hwN⟩ : ∃ x, wD.alloc (.cells #[.int .i64 (A.store.length : Nat), .int .i64 (SL : Nat), .int .i64 id, .bool false] 196) = x := ⟨_, rfl⟩
 have hbN : Below wD.heap.size wD wN := by rw [← hwN]; exact mx_al _ _
 have hsrc := mx_src wD 196 [.int .i64 (A.store.length : Nat), .int .i64 (SL : Nat), .int .i64 id, .bool false]
 rw [hwN] at hsrc
 rw [hwN]
 have HSRC := Lib.hid hsrc
 have HBN := Lib.hid (HBD.out.trans (hbN.mono HBD.out.size))
 refine hK.out _ _ ⟨(hbN.cell (p := ⟨b, 0, none⟩) (by show b < _; omega)).trans hHeld.1, (hbN.cell (p := ⟨b, 1, none⟩) (by show b < _; omega)).trans hHeld.2⟩ (fun hHeld1 => ?_)
 have hzN1 := hbN.size
 clear hK hHeld hbN hsrc hwN
 have hHeld := hHeld1
 clear hHeld1
 refine ready1 15 (fun K hK => ?_)
 rw [if_pos (by rfl)]
 refine wp_append_any_at 69 (by rfl) _ _ 190 rfl 0 196 i0 (.agg #[.int .i64 0, .int .i64 0, .int .i64 0, .bool false]) 4 32 Tryz.underlying190 hi0 hz0 hz1 hz2 rfl (by decide) _ A.all.length _ (by rfl) (own_below HRA.out HBN.out) (.slice (some ⟨wD.heap.size, 0, none⟩) 1 1) 1 [.int .i64 (A.store.length : Nat), .int .i64 (SL : Nat), .int .i64 id, .bool false] (by rfl) HSRC.out rfl (by simp [Value.oneCell']) (by unfold maxLen; omega) (by omega) (Nat.zero_le _) ?_
 intro v' w2 hown hgrow hat
 obtain ⟨Ay, ky, rfl, _⟩ := mx_slice hown
 have hkb : Kept (fun g => (Value.slice Aal A.all.length cal).ownBlock = some g) wa w2 := (Kept.of_below HBN.out).trans (Kept.grown hgrow) (fun i hi e => e.symm)
 have hnb : (Value.slice Aal A.all.length cal).ownBlock ≠ some b := mx_not HRA.out HBA.out (by decide)
 have hba' : b < wa.heap.size := by omega
 have HOY := Lib.hid hown
 have HKB := Lib.hid hkb
 have HNB := Lib.hid hnb
 have HAY := Lib.hid (show (Value.slice Ay (A.all.length + 1) ky).ownBlock = (Value.slice Aal A.all.length cal).ownBlock ∨ (Value.slice Ay (A.all.length + 1) ky).ownBlock = some wN.heap.size from hat)
 refine hK.out _ _ ⟨(hkb.cell (p := ⟨b, 0, none⟩) hba' hnb).trans (mx_cell (j := 0) HBA.out), (hkb.cell (p := ⟨b, 1, none⟩) hba' hnb).trans (mx_cell (j := 1) HBA.out)⟩ (fun hHeld1 => ?_)
 clear hK hHeld hown hgrow hat hkb hnb
 refine takeS 16 70 ?_
 refine takeS 17 71 ?_
 refine wpAnyH_done (by kernel_rfl) ?_ _
 refine lastPost_normal ?_
 obtain ⟨z0, z1⟩ := hHeld1
 have hblk := (HKB.out.block b hba' HNB.out).trans HBA.out
 have fr1 := mx_free (j := 1) hblk
 have HBLK := Lib.hid hblk
 clear hblk
 refine wpOp_step rfl (fun K hK => ?_)
 go_simp
 refine hK _ _ ?_
 clear hK z0 z1 fr1
 obtain ⟨wf, hwf⟩ : ∃ x, w2.setCell ⟨b, 1, none⟩ (.slice Ay (A.all.length + 1) ky) = x := ⟨_, rfl⟩
 have hkf : Kept (fun g => g = b) w2 wf := by rw [← hwf]; exact (Kept.refl (fun g => g = b) w2).setCell ⟨b, 1, none⟩ _ rfl
 have hbf : wf.heap[b]? = some (.cells #[.slice Ax SL kx, .slice Ay (A.all.length + 1) ky, .int .i64 (A.used : Nat), .int .i64 (A.count : Nat), .int .i64 A.last, .bool true] 192 (0, 0)) := by rw [← hwf]; exact mx_set HBLK.out _ (j := 1)
 have hny : (Value.slice Ay (A.all.length + 1) ky).ownBlock ≠ some b := mx_not HOY.out HBLK.out (by decide)
 have hoy : wf.ownsRow 0 196 4 (.slice Ay (A.all.length + 1) ky) (A.all.length + 1) (A.all.flatMap Ent.cells ++ [.int .i64 (A.store.length : Nat), .int .i64 (SL : Nat), .int .i64 id, .bool false]) := own_kept HOY.out hkf (fun g hg e => by
  subst e
  exact hny hg)
 have hoxf : wf.ownsRow 0 32 1 (.slice Ax SL kx) SL (A.store.map (Value.int .i64) ++ c.map (Value.int .i64)) := own_kept (own_kept HOXA.out HKB.out (fun g hg e => mx_apart HOXA.out HRA.out (by decide) hg e)) hkf (fun g hg e => by
  subst e
  exact HNX.out hg)
 have hkwf : Kept (fun g => g = b ∨ (Value.slice Ast A.store.length cst).ownBlock = some g ∨ (Value.slice Aal A.all.length cal).ownBlock = some g) w wf := ((HKW.out.mono (fun g _ h => h.imp (fun x => x) .inl)).trans HKB.out (fun i _ e => .inr (.inr e))).trans hkf (fun i _ e => .inl e)
 rw [hwf]
 have HBF := Lib.hid hbf
 have HOYF := Lib.hid hoy
 have HOXF := Lib.hid hoxf
 have HKWF := Lib.hid hkwf
 have HNY := Lib.hid hny
 have hzf := hkf.size
 have hbwf := heap_lt hbf
 have hayb : ∀ g, (Value.slice Ay (A.all.length + 1) ky).ownBlock = some g → O g ∨ w.heap.size ≤ g ∧ g < wf.heap.size := fun g hg => by
  have h1 := (own_lt HOY.out g hg).2
  rcases HAY.out with h3 | h3
  ·
   exact .inl (HM.out.allb g (h3 ▸ hg))
  ·
   rw [hg] at h3
   have := Option.some.inj h3
   exact .inr ⟨by omega, by omega⟩
 have haxb : ∀ g, (Value.slice Ax SL kx).ownBlock = some g → O g ∨ w.heap.size ≤ g ∧ g < wf.heap.size := fun g hg => by
  have h1 := (own_lt HOXF.out g hg).2
  rcases HAT.out with h3 | h3
  ·
   exact .inl (HM.out.storeb g (h3 ▸ hg))
  ·
   rw [hg] at h3
   have := Option.some.inj h3
   exact .inr ⟨by omega, by omega⟩
 have HAYB := Lib.hid hayb
 have HAXB := Lib.hid haxb
 clear hwf hkf hbf hny hoy hoxf hkwf hayb haxb HOY HOXA HKB HKW HRA HBLK HBA HBD HBN HSRC HAY HAT hi0 hz0 hz1 hz2
 clear i0
 have p2 : wf.cell? ⟨b, 2, none⟩ = some (.int .i64 (A.used : Nat)) := mx_cell (j := 2) HBF.out
 have p3 : wf.cell? ⟨b, 3, none⟩ = some (.int .i64 (A.count : Nat)) := mx_cell (j := 3) HBF.out
 have w9 : IntKind.i64.wrap ((A.used : Int) + (c.length : Int)) = (A.used : Int) + (c.length : Int) := IntWalk.i64_in _ (by omega)
 have w14 : IntKind.i64.wrap ((A.count : Int) + 1) = (A.count : Int) + 1 := IntWalk.i64_in _ (by omega)
 go_wp2_with fail
 refine wp_region_held_drew (S := fun _ => True) (by kernel_rfl) trivial (fun hHeld => ?_)
 obtain ⟨wD, hwD⟩ : ∃ x, wf.drew = x := ⟨_, rfl⟩
 have hbD : Below wf.heap.size wf wD := by rw [← hwD]; exact mx_drew wf
 rw [hwD]
 have HBwD := Lib.hid ((hbD.block b hbwf).trans HBF.out)
 have HKwD := Lib.hid (Kept.of_below (O := fun g => g = b) hbD)
 have p2 := (hbD.cell (p := ⟨b, 2, none⟩) hbwf).trans p2
 have p3 := (hbD.cell (p := ⟨b, 3, none⟩) hbwf).trans p3
 clear hwD hbD
 refine takeF 0 72 (fun w hSw => hSw) ?_
 refine takeF 1 73 (fun w hSw => hSw) ?_
 refine takeF 2 74 (fun w hSw => hSw) ?_
 refine takeF 3 75 (fun w hSw => hSw) ?_
 refine takeF 4 76 (fun w hSw => hSw) ?_
 refine takeF 5 77 (fun w hSw => hSw) ?_
 refine takeF 7 79 (fun w hSw => hSw) ?_
 refine takeF 8 80 (fun w hSw => hSw) ?_
 refine takeF 10 82 (fun w hSw => hSw) ?_
 refine takeF 11 83 (fun w hSw => hSw) ?_
 refine takeF 12 84 (fun w hSw => hSw) ?_
 refine takeF 15 87 (fun w hSw => hSw) ?_
 refine wpAnyH_ready (rs := [6, 13]) (by kernel_rfl) (by simp) ?_
 refine AllReadyH.cons rfl (fun K hK => ?_) (AllReadyH.cons rfl (fun K hK => ?_) AllReadyH.nil)
 ·
  -- used first
  go_simp
  refine hK.out _ _ trivial (fun _ => ?_)
  clear hK
  refine takeF 9 81 (fun w hSw => hSw) ?_
  refine ready1 13 (fun K hK => ?_)
  go_simp
  refine hK.out _ _ trivial (fun _ => ?_)
  clear hK
  refine takeF 14 86 (fun w hSw => hSw) ?_
  clear p2 p3
  refine takeF 16 88 (fun w hSw => hSw) ?_
  refine takeF 17 89 (fun w hSw => hSw) ?_
  have p2 := mx_cell (j := 2) HBwD.out
  have fp2 := mx_free (j := 2) HBwD.out
  simp only [List.getElem?_toArray, List.getElem?_cons_zero, List.getElem?_cons_succ] at p2
  refine ready1 18 (fun K hK => ?_)
  go_simp
  obtain ⟨wG, hwG⟩ : ∃ x, wD.setCell ⟨b, 2, none⟩ (.int .i64 ((A.used : Int) + (c.length : Int))) = x := ⟨_, rfl⟩
  have hkwG : Kept (fun g => g = b) wD wG := by rw [← hwG]; exact (Kept.refl (fun g => g = b) wD).setCell ⟨b, 2, none⟩ _ rfl
  have HBwG := Lib.hid (show wG.heap[b]? = some (.cells #[.slice Ax SL kx, .slice Ay (A.all.length + 1) ky, .int .i64 ((A.used : Int) + (c.length : Int)), .int .i64 (A.count : Nat), .int .i64 A.last, .bool true] 192 (0, 0)) from by rw [← hwG]; exact mx_set HBwD.out _ (j := 2))
  have HKwG := Lib.hid (HKwD.out.trans hkwG (fun i _ e => e))
  rw [hwG]
  refine hK.out _ _ trivial (fun _ => ?_)
  clear hK hwG hkwG p2 fp2
  refine takeF 19 90 (fun w hSw => hSw) ?_
  refine takeF 20 91 (fun w hSw => hSw) ?_
  have p3 := mx_cell (j := 3) HBwG.out
  have fp3 := mx_free (j := 3) HBwG.out
  simp only [List.getElem?_toArray, List.getElem?_cons_zero, List.getElem?_cons_succ] at p3
  refine ready1 21 (fun K hK => ?_)
  go_simp
  obtain ⟨wH, hwH⟩ : ∃ x, wG.setCell ⟨b, 3, none⟩ (.int .i64 ((A.count : Int) + 1)) = x := ⟨_, rfl⟩
  have hkwH : Kept (fun g => g = b) wG wH := by rw [← hwH]; exact (Kept.refl (fun g => g = b) wG).setCell ⟨b, 3, none⟩ _ rfl
  have HBwH := Lib.hid (show wH.heap[b]? = some (.cells #[.slice Ax SL kx, .slice Ay (A.all.length + 1) ky, .int .i64 ((A.used : Int) + (c.length : Int)), .int .i64 ((A.count : Int) + 1), .int .i64 A.last, .bool true] 192 (0, 0)) from by rw [← hwH]; exact mx_set HBwG.out _ (j := 3))
  have HKwH := Lib.hid (HKwG.out.trans hkwH (fun i _ e => e))
  rw [hwH]
  refine hK.out _ _ trivial (fun _ => ?_)
  clear hK hwH hkwH p3 fp3
  refine takeF 22 92 (fun w hSw => hSw) ?_
  refine takeF 23 93 (fun w hSw => hSw) ?_
  have p4 := mx_cell (j := 4) HBwH.out
  have fp4 := mx_free (j := 4) HBwH.out
  simp only [List.getElem?_toArray, List.getElem?_cons_zero, List.getElem?_cons_succ] at p4
  refine ready1 24 (fun K hK => ?_)
  go_simp
  obtain ⟨wI, hwI⟩ : ∃ x, wH.setCell ⟨b, 4, none⟩ (.int .i64 id) = x := ⟨_, rfl⟩
  have hkwI : Kept (fun g => g = b) wH wI := by rw [← hwI]; exact (Kept.refl (fun g => g = b) wH).setCell ⟨b, 4, none⟩ _ rfl
  have HBwI := Lib.hid (show wI.heap[b]? = some (.cells #[.slice Ax SL kx, .slice Ay (A.all.length + 1) ky, .int .i64 ((A.used : Int) + (c.length : Int)), .int .i64 ((A.count : Int) + 1), .int .i64 id, .bool true] 192 (0, 0)) from by rw [← hwI]; exact mx_set HBwH.out _ (j := 4))
  have HKwI := Lib.hid (HKwH.out.trans hkwI (fun i _ e => e))
  rw [hwI]
  refine hK.out _ _ trivial (fun _ => ?_)
  clear hK hwI hkwI p4 fp4
  refine wpAnyH_done (by kernel_rfl) ?_ _
  go_wp2_with fail
  go_ret
  exact ⟨rfl, ar_added hid hid2 hus hal hct HSL.out HK.out HM.out hbw hbwf HBwI.out ((HKWF.out.trans HKwI.out (fun i _ e => .inl e)).mono (fun g _ h => h)) HKwI.out HOXF.out HOYF.out HNX.out HNY.out HAXB.out HAYB.out hslb⟩
 ·
  -- count first
  go_simp
  refine hK.out _ _ trivial (fun _ => ?_)
  clear hK
  refine takeF 14 86 (fun w hSw => hSw) ?_
  refine ready1 6 (fun K hK => ?_)
  go_simp
  refine hK.out _ _ trivial (fun _ => ?_)
  clear hK
  refine takeF 9 81 (fun w hSw => hSw) ?_
  clear p2 p3
  refine takeF 16 88 (fun w hSw => hSw) ?_
  refine takeF 17 89 (fun w hSw => hSw) ?_
  have p2 := mx_cell (j := 2) HBwD.out
  have fp2 := mx_free (j := 2) HBwD.out
  simp only [List.getElem?_toArray, List.getElem?_cons_zero, List.getElem?_cons_succ] at p2
  refine ready1 18 (fun K hK => ?_)
  go_simp
  obtain ⟨wG, hwG⟩ : ∃ x, wD.setCell ⟨b, 2, none⟩ (.int .i64 ((A.used : Int) + (c.length : Int))) = x := ⟨_, rfl⟩
  have hkwG : Kept (fun g => g = b) wD wG := by rw [← hwG]; exact (Kept.refl (fun g => g = b) wD).setCell ⟨b, 2, none⟩ _ rfl
  have HBwG := Lib.hid (show wG.heap[b]? = some (.cells #[.slice Ax SL kx, .slice Ay (A.all.length + 1) ky, .int .i64 ((A.used : Int) + (c.length : Int)), .int .i64 (A.count : Nat), .int .i64 A.last, .bool true] 192 (0, 0)) from by rw [← hwG]; exact mx_set HBwD.out _ (j := 2))
  have HKwG := Lib.hid (HKwD.out.trans hkwG (fun i _ e => e))
  rw [hwG]
  refine hK.out _ _ trivial (fun _ => ?_)
  clear hK hwG hkwG p2 fp2
  refine takeF 19 90 (fun w hSw => hSw) ?_
  refine takeF 20 91 (fun w hSw => hSw) ?_
  have p3 := mx_cell (j := 3) HBwG.out
  have fp3 := mx_free (j := 3) HBwG.out
  simp only [List.getElem?_toArray, List.getElem?_cons_zero, List.getElem?_cons_succ] at p3
  refine ready1 21 (fun K hK => ?_)
  go_simp
  obtain ⟨wH, hwH⟩ : ∃ x, wG.setCell ⟨b, 3, none⟩ (.int .i64 ((A.count : Int) + 1)) = x := ⟨_, rfl⟩
  have hkwH : Kept (fun g => g = b) wG wH := by rw [← hwH]; exact (Kept.refl (fun g => g = b) wG).setCell ⟨b, 3, none⟩ _ rfl
  have HBwH := Lib.hid (show wH.heap[b]? = some (.cells #[.slice Ax SL kx, .slice Ay (A.all.length + 1) ky, .int .i64 ((A.used : Int) + (c.length : Int)), .int .i64 ((A.count : Int) + 1), .int .i64 A.last, .bool true] 192 (0, 0)) from by rw [← hwH]; exact mx_set HBwG.out _ (j := 3))
  have HKwH := Lib.hid (HKwG.out.trans hkwH (fun i _ e => e))
  rw [hwH]
  refine hK.out _ _ trivial (fun _ => ?_)
  clear hK hwH hkwH p3 fp3
  refine takeF 22 92 (fun w hSw => hSw) ?_
  refine takeF 23 93 (fun w hSw => hSw) ?_
  have p4 := mx_cell (j := 4) HBwH.out
  have fp4 := mx_free (j := 4) HBwH.out
  simp only [List.getElem?_toArray, List.getElem?_cons_zero, List.getElem?_cons_succ] at p4
  refine ready1 24 (fun K hK => ?_)
  go_simp
  obtain ⟨wI, hwI⟩ : ∃ x, wH.setCell ⟨b, 4, none⟩ (.int .i64 id) = x := ⟨_, rfl⟩
  have hkwI : Kept (fun g => g = b) wH wI := by rw [← hwI]; exact (Kept.refl (fun g => g = b) wH).setCell ⟨b, 4, none⟩ _ rfl
  have HBwI := Lib.hid (show wI.heap[b]? = some (.cells #[.slice Ax SL kx, .slice Ay (A.all.length + 1) ky, .int .i64 ((A.used : Int) + (c.length : Int)), .int .i64 ((A.count : Int) + 1), .int .i64 id, .bool true] 192 (0, 0)) from by rw [← hwI]; exact mx_set HBwH.out _ (j := 4))
  have HKwI := Lib.hid (HKwH.out.trans hkwI (fun i _ e => e))
  rw [hwI]
  refine hK.out _ _ trivial (fun _ => ?_)
  clear hK hwI hkwI p4 fp4
  refine wpAnyH_done (by kernel_rfl) ?_ _
  go_wp2_with fail
  go_ret
  exact ⟨rfl, ar_added hid hid2 hus hal hct HSL.out HK.out HM.out hbw hbwf HBwI.out ((HKWF.out.trans HKwI.out (fun i _ e => .inl e)).mono (fun g _ h => h)) HKwI.out HOXF.out HOYF.out HNX.out HNY.out HAXB.out HAYB.out hslb⟩
theorem ar_add_bad {O Oc : Nat → Prop} (b : Nat) (A : Arn) (id : Int) (cv : Value) (c : List Int) (w : World) (h : ArAt O w b A) (hc : IntsIn Oc w cv c) (hr : clauseB c = false) (hcl : c.length ≤ 140737488355328) :
  Calls Tryz.prog 92 #[.pointer (some ⟨b, 0, none⟩), .int .i64 id, cv] w fun e w' => e = .returned (.int .i64 20) ∧ w = w' := by
 have HIS := Lib.hid (ar_is b A w h)
 have hrc := right_clause cv c w hc hcl
 rw [hr] at hrc
 have HRC := Lib.hid hrc
 obtain ⟨Ac, cc, rfl, _, _, _⟩ := hc
 clear h hrc hr
 go_enter Tryz.func92, Tryz.ntmps92
 go_wp2_with fail
 refine HIS.out.mono ?_
 rintro e w' ⟨rfl, rfl⟩
 go_wp2_with fail
 refine HRC.out.mono ?_
 rintro e w' ⟨rfl, rfl⟩
 go_wp2_with fail
 go_ret
 exact ⟨rfl, rfl⟩
end Go.Proofs.YtoojmhjagipmdaaGreat
