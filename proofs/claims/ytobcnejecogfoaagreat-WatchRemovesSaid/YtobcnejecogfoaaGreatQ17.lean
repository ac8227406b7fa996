/- The watch: put, drop. -/
import Derived.Test.YtobcnejecogfoaaGreatQ16
import Derived.Test.YtobcnejecogfoaaGreatQ03
namespace Go.Proofs.YtobcnejecogfoaaGreat
open Go.RowKit Go.Maps Go.Shelf

/-- a store into a map at an operation of a region that draws -/
theorem wp_putS_at {P : Program} {kt t et : TypeId} {w : World} {b : Nat} {m : List (Int × Value)} {o : Oper} {a : Act} {K : Act → World → Prop} {Q : Exit → Act → World → Prop} (h : MapS P kt w b m) (KK : Keyed P kt) (hk : P.underlying kt = some (.int .i64)) (ht : P.underlying t = some (.map kt et))
    (mm x v : Operand) (hop : o.op = Op.mapUpdate t mm x v) (hm : a.eval mm = .map (some b)) (hn : m.length < maxLen) (i : Int) (y : Value) (hx : a.eval x = .int .i64 i) (hv : a.eval v = y) (hi : (Lit.int .i64 i).wf = true)
    (hK : ∀ w', MapS P kt w' b (putA m i y) → w.grownBy w' (some b) → K (a.put o.dst undef) w') : Oper.wp P o a w K Q := by
  obtain ⟨w', hr, h2, h3⟩ := h.update KK hk ht hn hi y
  unfold Oper.wp execOp
  simp only [hop, hm, hx, hv, Sem.run_bind, Sem.run_pure, Result.andThen_ok, hr]
  exact hK w' h2 h3
theorem look_rows {w : World} {ob : Nat} {F : List (Int × OfM)} (h : MapO w ob (mapV OfM.v F)) {l : Int} (hl : (Lit.int .i64 l).wf = true) : (Instr.lookup 86 (.map (some ob)) (.int .i64 l) false).run Tryz.prog w = .ok (rowV F l) w := by
  have := h.look lit_law Tryz.underlying39 Tryz.underlying86 (lit_zero_slice w) false hl
  rw [mapV_get] at this
  exact this
theorem kept_or {O O' : Nat → Prop} {a b c : World} (h : Kept O a b) (k : Kept O' b c) : Kept (fun g => O g ∨ O' g) a c := (h.mono (fun _ _ h => Or.inl h)).trans k (fun _ _ h => .inr h)
/-- what put and drop may write: rows of numbers, and the map of them -/
def WF (O : Nat → Prop) (ob : Nat) (w : World) (g : Nat) : Prop := O g ∧ (g = ob ∨ ∃ c, w.heap[g]? = some (.cells c 3 (0, 0)))
def WaMNext (O : Nat → Prop) (w w' : World) (b ab tb : Nat) (S' : Wst) (kb ob : Nat) (K : List (Int × KnM)) : Prop := (∃ F' tg', WaMem (fun g => O g ∨ w.heap.size ≤ g ∧ g < w'.heap.size) w' b ab tb S' kb ob K F' tg') ∧ Kept (WF O ob w) w w'
/-- the world then, of a watch -/
def WaNext (O : Nat → Prop) (w w' : World) (b ab tb : Nat) (S' : Wst) : Prop := WaAt (fun g => O g ∨ w.heap.size ≤ g ∧ g < w'.heap.size) w' b ab tb S' ∧ Kept O w w'
theorem wf_lit {l : Int} (h : litB l = true) : (Lit.int .i64 l).wf = true := by
  have := (litB_iff l).1 h
  exact wf64 (by omega) (by omega)
set_option maxRecDepth 100000 in
set_option maxHeartbeats 2000000 in
theorem wa_put_m {O : Nat → Prop} (b ab tb : Nat) (S : Wst) (kb ob : Nat) (K : List (Int × KnM)) (F : List (Int × OfM)) (tg : Nat → Option WTag) (l id : Int) (w : World) (hb : S.Bnd) (hm : WaMem O w b ab tb S kb ob K F tg) (hl : litB l = true) (hid : 1 ≤ id ∧ id ≤ 1073741824) :
    Calls Tryz.prog 71 #[.pointer (some ⟨b, 0, none⟩), .int .i64 l, .int .i64 id] w fun e w' => e = .returned (.tuple #[]) ∧ WaMNext O w w' b ab tb (S.put l id) kb ob K := by
  obtain ⟨hrow, htag⟩ := hm.rowAt l
  have hwf := wf_lit hl
  have c3 : w.cell? ⟨b, 3, none⟩ = some (.map (some ob)) := mx_cell (j := 3) hm.block
  have hse := row_search (rowV F l) (S.row l) id w hrow (hb.row l).1 (hb.rowLen l)
  have hins := fun (vb : Nat) (W : World) (h1 : W.ownsRow 0 3 1 (rowV F l) (S.row l).length ((S.row l).map (Value.int .i64))) (h2 : W.heap[vb]? = some (.cells #[.int .i64 id] 3 (0, 0))) (h3 : (rowV F l).ownBlock ≠ some vb) => row_insert (vb := vb) (rowV F l) (S.row l) id W h1 (Nat.zero_le _) h2 h3 (hb.rowLen l)
  have hil := insI_length (S.row l) id
  obtain ⟨i, hi⟩ : ∃ i, (S.row l).countP (· < id) = i := ⟨_, rfl⟩
  obtain ⟨q, hq⟩ : ∃ q, (S.row l).contains id = q := ⟨_, rfl⟩
  rw [hi, hq] at hse
  rw [hi] at hins
  have HM := Lib.hid hm
  have HB := Lib.hid hb
  have hlt := heap_lt hm.block
  obtain ⟨v, hv⟩ : ∃ v, rowV F l = v := ⟨_, rfl⟩
  have HV := Lib.hid hv
  rw [hv] at hse hins
  have HSE := Lib.hid hse
  have HIN := Lib.hid hins
  have HLK := Lib.hid (hv ▸ hm.lookO hwf)
  have HROW := Lib.hid (hv ▸ hrow)
  have HIL := Lib.hid hil
  have HWI := Lib.hid (wf64 (x := id) (by omega) (by omega))
  have hlk := HLK.out
  clear hb hm hrow htag hl hid hv hi hq hse hins hil
  go_enter Tryz.func71, Tryz.ntmps71
  go_wp2_with fail
  refine HSE.out.mono ?_
  rintro e w1 ⟨rfl, n, rfl⟩
  obtain ⟨W, hW⟩ : ∃ W, w.drewN n = W := ⟨_, rfl⟩
  have hbW : Below w.heap.size w W := by rw [← hW]; exact mx_drewN _ _
  have HZW := Lib.hid (show W.heap.size = w.heap.size by rw [← hW]; rfl)
  rw [hW]
  clear hW
  have HRW := Lib.hid (own_below HROW.out hbW)
  have HBW := Lib.hid hbW
  have HMW := Lib.hid (HM.out.kept (O' := fun _ => False) (Kept.of_below hbW) (fun _ _ h => h))
  clear hlk c3
  go_upto_region 1 with fail
  have HVO := Lib.hid (show v.ownBlock ≠ some b from fun e => mx_not HRW.out HMW.out.block (by decide) e)
  have HVM := Lib.hid (show v.ownBlock ≠ some ob from fun e => by
    obtain ⟨c, hc⟩ := own_type HRW.out ob e
    exact HMW.out.omap.not_cells hc rfl)
  have HC3 := Lib.hid (show ∀ wq, Kept (fun g => v.ownBlock = some g) W wq → wq.cell? ⟨b, 3, none⟩ = some (.map (some ob)) from fun wq hq => mx_cell (j := 3) ((hq.block b (heap_lt HMW.out.block) HVO.out).trans HMW.out.block))
  have HLW := Lib.hid (show ∀ wq, Kept (fun g => v.ownBlock = some g) W wq → (Instr.lookup 86 (.map (some ob)) (.int .i64 l) false).run Tryz.prog wq = .ok v wq from fun wq hq => by
    have := look_rows (HMW.out.omap.kept hq HVM.out) hwf
    rwa [HV.out] at this)
  refine wp_region_sink_at (fun w' => Kept (fun g => v.ownBlock = some g) W w') (by kernel_rfl) (by rfl) (by kernel_rfl) (Kept.of_below (mx_drew W)) (fun hS => ?_)
  refine takeE 0 19 ?_
  refine takeE 1 20 ?_
  refine takeE 2 21 ?_
  refine takeF 3 22 (fun wq hSw => HC3.out wq hSw) ?_
  refine takeE 4 23 ?_
  refine takeE 5 24 ?_
  refine takeE 6 25 ?_
  refine takeE 7 26 ?_
  refine takeF 8 27 (fun wq hSw => HC3.out wq hSw) ?_
  refine takeE 9 28 ?_
  refine takeF 10 29 (fun wq hSw => HLW.out wq hSw) ?_
  refine takeE 11 30 ?_
  refine takeE 12 31 ?_
  refine ready1 13 (fun KK hKK => ?_)
  go_simp
  obtain ⟨W2, hW2⟩ : ∃ X, (W.alloc (.cells #[.int .i64 id] 3)).drew = X := ⟨_, rfl⟩
  have hb2 : Below W.heap.size W W2 := by rw [← hW2]; exact (mx_al _ _).drew
  have hn2 : W2.heap[W.heap.size]? = some (.cells #[.int .i64 id] 3 (0, 0)) := by rw [← hW2]; exact World.alloc_heap_new _ _
  rw [hW2]
  have HB2' := Lib.hid hb2
  have HN2 := Lib.hid hn2
  have HR2 := Lib.hid (own_below HRW.out hb2)
  have HNE := Lib.hid (show v.ownBlock ≠ some W.heap.size from fun e => by have := (own_lt HRW.out _ e).2; omega)
  clear hW2 hn2
  refine hKK.out _ _ (Kept.of_below hb2) (fun _ => ?_)
  clear hKK hS
  refine ready1 14 (fun KK hKK => ?_)
  go_simp
  refine (HIN.out W.heap.size W2 HR2.out HN2.out HNE.out).mono ?_
  rintro e w3 ⟨v', rfl, hr3, hk3, hv3⟩
  have hk3' := (Kept.of_below (O := fun g => v.ownBlock = some g) hb2).trans hk3 (fun _ _ h => h)
  refine hKK.out _ _ hk3' (fun _ => ?_)
  clear hKK hb2
  refine wpAnyH_done (by kernel_rfl) ?_ _
  refine lastPost_normal ?_
  refine wpOp_step rfl (fun KK hKK => ?_)
  rw [if_pos (by rfl)]
  refine wp_putS_at (HMW.out.omap.kept hk3' HVM.out) lit_law Tryz.underlying39 Tryz.underlying86 _ _ _ rfl rfl (by have := HB.out.ofLen; have h2 := mapV_length OfM.v F; have h3 := congrArg List.length HMW.out.oS; rw [mapV_length] at h3; unfold maxLen; omega) l v' rfl rfl hwf ?_
  intro w4 hm4 hg4
  refine hKK _ _ ?_
  clear hKK
  have hk4 : Kept (fun g => (rowV F l).ownBlock = some g ∨ g = ob) W w4 := by
    rw [HV.out]
    exact (kept_or hk3' (Kept.grown hg4)).mono (fun g _ h => h.imp_right (fun e => Option.some.inj e))
  have hr4 := own_kept hr3 (Kept.grown hg4) (fun g hg e => by
    obtain ⟨c, hc⟩ := own_type hr3 g hg
    exact (HMW.out.omap.kept hk3' HVM.out).not_cells hc (Option.some.inj e))
  obtain ⟨tg', hm'⟩ := HMW.out.setRow (l := l) (r' := insI (S.row l) id) hk4 (by rw [HIL.out]; exact hr4) (by
    rw [HV.out]
    refine hv3.imp_right (fun e => ⟨_, e, ?_⟩)
    exact HB2'.out.size) hm4
  have hzw := HZW.out
  have HKW := Lib.hid (show Kept (WF O ob w) w w4 from (Kept.of_below HBW.out).trans hk4 (fun g _ h => by
    rcases h with h | h
    · obtain ⟨hr, ht⟩ := HM.out.rowAt l
      exact ⟨HM.out.intg _ _ (ht g h), .inr (own_type hr g h)⟩
    · exact ⟨h ▸ HM.out.ino, .inl h⟩))
  rw [hzw] at hm'
  have HFIN := Lib.hid (show ∃ F' tg', WaMem (fun g => O g ∨ w.heap.size ≤ g ∧ g < w4.heap.size) w4 b ab tb (S.put l id) kb ob K F' tg' from ⟨_, _, hm'⟩)
  clear hm' hk4 hr4 hm4 hg4 hr3 hk3 hv3 hk3' hzw
  go_wp2_with fail
  go_end0
  exact ⟨rfl, HFIN.out, HKW.out⟩
theorem WaMem.grow {O : Nat → Prop} {w w' : World} {b ab tb kb ob : Nat} {S : Wst} {K : List (Int × KnM)} {F : List (Int × OfM)} {tg : Nat → Option WTag} (hm : WaMem O w b ab tb S kb ob K F tg) (hb : Below w.heap.size w w') : WaMem (fun g => O g ∨ w.heap.size ≤ g ∧ g < w'.heap.size) w' b ab tb S kb ob K F tg := by
  have h2 := hm.kept (O' := fun _ => False) (Kept.of_below hb) (fun _ _ h => h)
  exact { h2 with own := fun g hg => hg.elim (fun h => Nat.lt_of_lt_of_le (hm.own g h) hb.size) (fun h => h.2), inb := .inl h2.inb, ink := .inl h2.ink, ino := .inl h2.ino, intg := fun g t ht => .inl (h2.intg g t ht) }
theorem WaMNext.refl {O : Nat → Prop} {w w' : World} {b ab tb kb ob : Nat} {S : Wst} {K : List (Int × KnM)} {F : List (Int × OfM)} {tg : Nat → Option WTag} (hm : WaMem O w b ab tb S kb ob K F tg) (hb : Below w.heap.size w w') : WaMNext O w w' b ab tb S kb ob K :=
  ⟨⟨F, tg, hm.grow hb⟩, Kept.of_below hb⟩
theorem WaNext.refl {O : Nat → Prop} {w w' : World} {b ab tb : Nat} {S : Wst} (h : WaAt O w b ab tb S) (hb : Below w.heap.size w w') : WaNext O w w' b ab tb S := by
  obtain ⟨hbn, kb, ob, K, F, tg, hm⟩ := h
  exact ⟨⟨hbn, kb, ob, K, F, tg, hm.grow hb⟩, Kept.of_below hb⟩
/-- two calls, one behind the other -/
theorem WaMNext.trans {O : Nat → Prop} {w w1 w2 : World} {b ab tb kb ob : Nat} {S : Wst} {K : List (Int × KnM)} (hk : Kept (WF O ob w) w w1) (h : WaMNext (fun g => O g ∨ w.heap.size ≤ g ∧ g < w1.heap.size) w1 w2 b ab tb S kb ob K) : WaMNext O w w2 b ab tb S kb ob K := by
  obtain ⟨⟨F, tg, hm⟩, k⟩ := h
  refine ⟨⟨F, tg, hm.congr (fun g => ?_)⟩, hk.trans k (fun i hi h => ?_)⟩
  · have h1 := hk.size
    have h2 := k.size
    constructor
    · rintro ((h | h) | h)
      · exact .inl h
      · exact .inr ⟨h.1, by omega⟩
      · exact .inr ⟨by omega, h.2⟩
    · rintro (h | h)
      · exact .inl (.inl h)
      · by_cases hg : g < w1.heap.size
        · exact .inl (.inr ⟨h.1, hg⟩)
        · exact .inr ⟨by omega, h.2⟩
  · obtain ⟨ho, hc⟩ := h
    have ho' : O i := ho.elim (fun h => h) (fun h => by omega)
    refine ⟨ho', ?_⟩
    rcases hc with hc | hc
    · exact .inl hc
    · by_cases hw : WF O ob w i
      · exact hw.2
      · rw [hk.block i hi hw] at hc
        exact .inr hc
theorem WaMNext.at_ {O : Nat → Prop} {w w' : World} {b ab tb kb ob : Nat} {S' : Wst} {K : List (Int × KnM)} (h : WaMNext O w w' b ab tb S' kb ob K) (hb : S'.Bnd) : WaNext O w w' b ab tb S' := by
  obtain ⟨⟨F, tg, hm⟩, k⟩ := h
  exact ⟨⟨hb, kb, ob, K, F, tg, hm⟩, k.mono (fun _ _ h => h.1)⟩
set_option maxRecDepth 100000 in
set_option maxHeartbeats 2000000 in
theorem wa_drop_m {O : Nat → Prop} (b ab tb : Nat) (S : Wst) (kb ob : Nat) (K : List (Int × KnM)) (F : List (Int × OfM)) (tg : Nat → Option WTag) (l id : Int) (w : World) (hb : S.Bnd) (hm : WaMem O w b ab tb S kb ob K F tg) (hwf : (Lit.int .i64 l).wf = true) :
    Calls Tryz.prog 79 #[.pointer (some ⟨b, 0, none⟩), .int .i64 l, .int .i64 id] w fun e w' => e = .returned (.tuple #[]) ∧ WaMNext O w w' b ab tb (S.drop l id) kb ob K := by
  obtain ⟨hrow, htag⟩ := hm.rowAt l
  have c3 : w.cell? ⟨b, 3, none⟩ = some (.map (some ob)) := mx_cell (j := 3) hm.block
  have hse := row_search (rowV F l) (S.row l) id w hrow (hb.row l).1 (hb.rowLen l)
  have hrl := hb.rowLen l
  have hil := countP_le_len (S.row l) id
  have hat := fun hx => up_at (hb.row l).1 (x := id) hx
  have hrem : ∀ j, (S.row l).countP (· < id) = j → (S.row l).contains id = true → remI (S.row l) id = (S.row l).eraseIdx j := fun j hj hc => by
    unfold remI
    rw [if_pos hc, hj]
  have HDN : (S.row l).contains id = false → S.drop l id = S := fun hc => by
    unfold Wst.drop
    rw [if_neg (by rw [hc]; decide)]
  have HDY : (S.row l).contains id = true → S.drop l id = ⟨S.known, putA S.of l (remI (S.row l) id), S.looked⟩ := fun hc => by
    unfold Wst.drop
    rw [if_pos hc]
  have hmem : (S.row l).contains id = true → id ∈ S.row l := fun hc => by simpa using hc
  obtain ⟨i, hi⟩ : ∃ i, (S.row l).countP (· < id) = i := ⟨_, rfl⟩
  obtain ⟨q, hq⟩ : ∃ q, (S.row l).contains id = q := ⟨_, rfl⟩
  rw [hi] at hse hil hat
  have hrem := hrem i hi
  rw [hq] at hse HDN HDY hrem hmem
  have HM := Lib.hid hm
  have HB := Lib.hid hb
  have hlt := heap_lt hm.block
  obtain ⟨v, hv⟩ : ∃ v, rowV F l = v := ⟨_, rfl⟩
  have HV := Lib.hid hv
  rw [hv] at hse
  have HSE := Lib.hid hse
  have hlk := hv ▸ hm.lookO hwf
  have HROW := Lib.hid (hv ▸ hrow)
  have hwi : IntKind.i64.wrap ((i : Int) + 1) = (i : Int) + 1 := IntWalk.i64_in _ (by omega)
  cases q with
  | false =>
    have HDD := Lib.hid (HDN rfl)
    clear hb hm hrow htag hv hi hq hse hil HDN HDY hrem hat hmem hrl
    go_enter Tryz.func79, Tryz.ntmps79
    go_wp2_with fail
    refine HSE.out.mono ?_
    rintro e w1 ⟨rfl, n, rfl⟩
    clear hlk c3
    go_wp2_with fail
    go_end0
    refine ⟨rfl, ?_⟩
    rw [HDD.out]
    exact WaMNext.refl HM.out (mx_drewN _ _)
  | true =>
    have HDD := Lib.hid (HDY rfl)
    have hilt := (List.getElem?_eq_some_iff.1 (hat (hmem rfl))).1
    have HRE := Lib.hid (hrem rfl)
    have HEL := Lib.hid (show ((S.row l).eraseIdx i).length = (S.row l).length - 1 by rw [List.length_eraseIdx, if_pos hilt])
    have HIN := Lib.hid (fun (W : World) (h1 : W.ownsRow 0 3 1 v (S.row l).length ((S.row l).map (Value.int .i64))) => row_delete v (S.row l) i W h1 hilt)
    clear hb hm hrow htag hv hi hq hse hil HDN HDY hrem hat hmem hilt hrl
    go_enter Tryz.func79, Tryz.ntmps79
    go_wp2_with fail
    refine HSE.out.mono ?_
    rintro e w1 ⟨rfl, n, rfl⟩
    obtain ⟨W, hW⟩ : ∃ W, w.drewN n = W := ⟨_, rfl⟩
    have hbW : Below w.heap.size w W := by rw [← hW]; exact mx_drewN _ _
    have HZW := Lib.hid (show W.heap.size = w.heap.size by rw [← hW]; rfl)
    rw [hW]
    clear hW
    have HRW := Lib.hid (own_below HROW.out hbW)
    have HBW := Lib.hid hbW
    have HMW := Lib.hid (HM.out.kept (O' := fun _ => False) (Kept.of_below hbW) (fun _ _ h => h))
    clear hlk c3
    go_upto_region 2 with fail
    have HVO := Lib.hid (show v.ownBlock ≠ some b from fun e => mx_not HRW.out HMW.out.block (by decide) e)
    have HVM := Lib.hid (show v.ownBlock ≠ some ob from fun e => by
      obtain ⟨c, hc⟩ := own_type HRW.out ob e
      exact HMW.out.omap.not_cells hc rfl)
    have HC3 := Lib.hid (show ∀ wq, Kept (fun g => v.ownBlock = some g) W wq → wq.cell? ⟨b, 3, none⟩ = some (.map (some ob)) from fun wq hq => mx_cell (j := 3) ((hq.block b (heap_lt HMW.out.block) HVO.out).trans HMW.out.block))
    have HLW := Lib.hid (show ∀ wq, Kept (fun g => v.ownBlock = some g) W wq → (Instr.lookup 86 (.map (some ob)) (.int .i64 l) false).run Tryz.prog wq = .ok v wq from fun wq hq => by
      have := look_rows (HMW.out.omap.kept hq HVM.out) hwf
      rwa [HV.out] at this)
    refine wp_region_sink_at (fun w' => Kept (fun g => v.ownBlock = some g) W w') (by kernel_rfl) (by rfl) (by kernel_rfl) (Kept.of_below (mx_drew W)) (fun hS => ?_)
    refine takeE 0 20 ?_
    refine takeE 1 21 ?_
    refine takeE 2 22 ?_
    refine takeF 3 23 (fun wq hSw => HC3.out wq hSw) ?_
    refine takeE 4 24 ?_
    refine takeE 5 25 ?_
    refine takeE 6 26 ?_
    refine takeE 7 27 ?_
    refine takeF 8 28 (fun wq hSw => HC3.out wq hSw) ?_
    refine takeE 9 29 ?_
    refine takeF 10 30 (fun wq hSw => HLW.out wq hSw) ?_
    refine takeE 11 31 ?_
    refine takeE 12 32 ?_
    refine takeE 13 33 ?_
    refine ready1 14 (fun KK hKK => ?_)
    go_simp
    refine (HIN.out _ (own_below HRW.out (mx_drew W))).mono ?_
    rintro e w3 ⟨v', rfl, hr3, hk3, hv3⟩
    have hk3' := hS.trans hk3 (fun _ _ h => h)
    refine hKK.out _ _ hk3' (fun _ => ?_)
    clear hKK hS
    refine wpAnyH_done (by kernel_rfl) ?_ _
    refine lastPost_normal ?_
    refine wpOp_step rfl (fun KK hKK => ?_)
    rw [if_pos (by rfl)]
    refine wp_putS_at (HMW.out.omap.kept hk3' HVM.out) lit_law Tryz.underlying39 Tryz.underlying86 _ _ _ rfl rfl (by have := HB.out.ofLen; have h2 := mapV_length OfM.v F; have h3 := congrArg List.length HMW.out.oS; rw [mapV_length] at h3; unfold maxLen; omega) l v' rfl rfl hwf ?_
    intro w4 hm4 hg4
    refine hKK _ _ ?_
    clear hKK
    have hk4 : Kept (fun g => (rowV F l).ownBlock = some g ∨ g = ob) W w4 := by
      rw [HV.out]
      exact (kept_or hk3' (Kept.grown hg4)).mono (fun g _ h => h.imp_right (fun e => Option.some.inj e))
    have hr4 := own_kept hr3 (Kept.grown hg4) (fun g hg e => by
      obtain ⟨c, hc⟩ := own_type hr3 g hg
      exact (HMW.out.omap.kept hk3' HVM.out).not_cells hc (Option.some.inj e))
    obtain ⟨tg', hm'⟩ := HMW.out.setRow (l := l) (r' := (S.row l).eraseIdx i) hk4 (by rw [HEL.out]; exact hr4) (by
      rw [HV.out]
      exact .inl hv3) hm4
    have hzw := HZW.out
    have HKW := Lib.hid (show Kept (WF O ob w) w w4 from (Kept.of_below HBW.out).trans hk4 (fun g _ h => by
      rcases h with h | h
      · obtain ⟨hr, ht⟩ := HM.out.rowAt l
        exact ⟨HM.out.intg _ _ (ht g h), .inr (own_type hr g h)⟩
      · exact ⟨h ▸ HM.out.ino, .inl h⟩))
    rw [hzw, ← HRE.out] at hm'
    have HFIN := Lib.hid (show ∃ F' tg', WaMem (fun g => O g ∨ w.heap.size ≤ g ∧ g < w4.heap.size) w4 b ab tb (S.drop l id) kb ob K F' tg' from by
      rw [HDD.out]
      exact ⟨_, _, hm'⟩)
    clear hm' hk4 hr4 hm4 hg4 hr3 hk3 hv3 hk3' hzw
    go_wp2_with fail
    go_end0
    exact ⟨rfl, HFIN.out, HKW.out⟩
end Go.Proofs.YtobcnejecogfoaaGreat
