/- salvorlaw07.Equal at steps that are equal. -/
import Derived.Test.YtbokfjmbamgenaaDoorRh
import Derived.Test.YtbokfjmbamgenaaDoorRg
namespace Go.Proofs.YtbokfjmbamgenaaDoor
open Go.RowKit

theorem below_drewN1 (w : World) (n : Nat) : Below w.heap.size w (w.drewN n) := ⟨rfl, rfl, rfl, Nat.le_refl _, fun _ _ => rfl⟩
set_option maxRecDepth 100000 in
set_option maxHeartbeats 4000000 in
theorem equal_step {O O' : Nat → Prop} (s : EStep) (lv hv lv' hv' : Value) (w : World) (hl : IntsIn O w lv s.lits) (hh : IntsIn O w hv s.hints) (hl' : IntsIn O' w lv' s.lits) (hh' : IntsIn O' w hv' s.hints) (hll : s.lits.length ≤ 4096) (hhl : s.hints.length ≤ 65536) :
    Calls Tryd.prog 69 #[.agg #[.bool s.del, .int .i64 s.id, lv, hv], .agg #[.bool s.del, .int .i64 s.id, lv', hv']] w fun e w' => e = .returned (.bool true) ∧ Below w.heap.size w w' := by
  obtain ⟨del, id, lits, hints⟩ := s
  simp only [] at hl hh hl' hh' hll hhl
  have HL := Lib.hid hl
  have HH := Lib.hid hh
  have HL' := Lib.hid hl'
  have HH' := Lib.hid hh'
  obtain ⟨A1, c1, rfl, _, _, _⟩ := hl
  obtain ⟨A2, c2, rfl, _, _, _⟩ := hh
  obtain ⟨A3, c3, rfl, _, _, _⟩ := hl'
  obtain ⟨A4, c4, rfl, _, _, _⟩ := hh'
  obtain ⟨wb, hwb⟩ : ∃ x, (w.alloc (.cells #[.bool del, .int .i64 id, .slice A1 lits.length c1, .slice A2 hints.length c2] 57)).alloc (.cells #[.bool del, .int .i64 id, .slice A3 lits.length c3, .slice A4 hints.length c4] 98) = x := ⟨_, rfl⟩
  have hB : Below w.heap.size w wb := by rw [← hwb]; exact ((Below.refl _ _).alloc (Nat.le_refl _) _).alloc (by simp) _
  have hzb : wb.heap.size = w.heap.size + 2 := by rw [← hwb]; simp
  have hb3 : wb.heap[w.heap.size + 1]? = some (.cells #[.bool del, .int .i64 id, .slice A3 lits.length c3, .slice A4 hints.length c4] 98 (0, 0)) := by
    rw [← hwb]
    have := World.alloc_heap_new (w.alloc (.cells #[.bool del, .int .i64 id, .slice A1 lits.length c1, .slice A2 hints.length c2] 57)) (.cells #[.bool del, .int .i64 id, .slice A3 lits.length c3, .slice A4 hints.length c4] 98)
    rwa [World.size_alloc] at this
  have hb2 : wb.heap[w.heap.size]? = some (.cells #[.bool del, .int .i64 id, .slice A1 lits.length c1, .slice A2 hints.length c2] 57 (0, 0)) := by
    rw [← hwb, Below.heap_alloc _ _ _ (by simp)]
    exact World.alloc_heap_new _ _
  have HWB := Lib.hid hwb
  have HB := Lib.hid hB
  have b0 := cell_of_block (j := 0) hb2
  have b1 := cell_of_block (j := 1) hb2
  have b2 := cell_of_block (j := 2) hb2
  have b3 := cell_of_block (j := 3) hb2
  have e0 := cell_of_block (j := 0) hb3
  have e1 := cell_of_block (j := 1) hb3
  have e2 := cell_of_block (j := 2) hb3
  have e3 := cell_of_block (j := 3) hb3
  have HS0 := Lib.hid (show wb.cell? ⟨w.heap.size, 0, none⟩ = some (.bool del) ∧ wb.cell? ⟨w.heap.size, 1, none⟩ = some (.int .i64 id) ∧ wb.cell? ⟨w.heap.size, 2, none⟩ = some (.slice A1 lits.length c1) ∧ wb.cell? ⟨w.heap.size, 3, none⟩ = some (.slice A2 hints.length c2) ∧ wb.cell? ⟨w.heap.size + 1, 0, none⟩ = some (.bool del) ∧ wb.cell? ⟨w.heap.size + 1, 1, none⟩ = some (.int .i64 id) ∧ wb.cell? ⟨w.heap.size + 1, 2, none⟩ = some (.slice A3 lits.length c3) ∧ wb.cell? ⟨w.heap.size + 1, 3, none⟩ = some (.slice A4 hints.length c4) from ⟨b0, b1, b2, b3, e0, e1, e2, e3⟩)
  clear hwb hB b0 b1 b2 b3 e0 e1 e2 e3 hb2 hb3
  go_enter Tryd.func69, Tryd.ntmps69
  go_wp2_with fail
  rw [HWB.out]
  refine wp_region_held_drew (S := fun w' => w'.cell? ⟨w.heap.size, 0, none⟩ = some (.bool del) ∧ w'.cell? ⟨w.heap.size, 1, none⟩ = some (.int .i64 id) ∧ w'.cell? ⟨w.heap.size, 2, none⟩ = some (.slice A1 lits.length c1) ∧ w'.cell? ⟨w.heap.size, 3, none⟩ = some (.slice A2 hints.length c2) ∧ w'.cell? ⟨w.heap.size + 1, 0, none⟩ = some (.bool del) ∧ w'.cell? ⟨w.heap.size + 1, 1, none⟩ = some (.int .i64 id) ∧ w'.cell? ⟨w.heap.size + 1, 2, none⟩ = some (.slice A3 lits.length c3) ∧ w'.cell? ⟨w.heap.size + 1, 3, none⟩ = some (.slice A4 hints.length c4)) (by kernel_rfl) HS0.out (fun hHeld => ?_)
  obtain ⟨wD, hwD⟩ : ∃ x, wb.drew = x := ⟨_, rfl⟩
  have hbD : Below wb.heap.size wb wD := by rw [← hwD]; exact below_drew' wb
  rw [hwD] at hHeld ⊢
  have hzD : wD.heap.size = w.heap.size + 2 := by rw [← hwD]; exact hzb
  clear hwD
  refine takeD 0 5 (v := ?_) rfl (by rfl) (by kernel_rfl) (by kernel_rfl) (by kernel_rfl) (fun _ _ _ h => h) (Or.inl ⟨by rfl, ?_⟩) (by assumption) ?_
  rotate_left
  · intro w hSw
    obtain ⟨_, _, _, _, _, _, _, _⟩ := hSw
    go_simp
    try with_reducible rfl
  simp only [Act.put, List.setIfInBounds_toArray, List.set_cons_zero, List.set_cons_succ]
  refine takeD 1 6 (v := ?_) rfl (by rfl) (by kernel_rfl) (by kernel_rfl) (by kernel_rfl) (fun _ _ _ h => h) (Or.inl ⟨by rfl, ?_⟩) (by assumption) ?_
  rotate_left
  · intro w hSw
    obtain ⟨_, _, _, _, _, _, _, _⟩ := hSw
    go_simp
    try with_reducible rfl
  simp only [Act.put, List.setIfInBounds_toArray, List.set_cons_zero, List.set_cons_succ]
  refine takeD 2 7 (v := ?_) rfl (by rfl) (by kernel_rfl) (by kernel_rfl) (by kernel_rfl) (fun _ _ _ h => h) (Or.inl ⟨by rfl, ?_⟩) (by assumption) ?_
  rotate_left
  · intro w hSw
    obtain ⟨_, _, _, _, _, _, _, _⟩ := hSw
    go_simp
    try with_reducible rfl
  simp only [Act.put, List.setIfInBounds_toArray, List.set_cons_zero, List.set_cons_succ]
  refine takeD 3 8 (v := ?_) rfl (by rfl) (by kernel_rfl) (by kernel_rfl) (by kernel_rfl) (fun _ _ _ h => h) (Or.inl ⟨by rfl, ?_⟩) (by assumption) ?_
  rotate_left
  · intro w hSw
    obtain ⟨_, _, _, _, _, _, _, _⟩ := hSw
    go_simp
    try with_reducible rfl
  simp only [Act.put, List.setIfInBounds_toArray, List.set_cons_zero, List.set_cons_succ]
  refine takeD 4 9 (v := ?_) rfl (by rfl) (by kernel_rfl) (by kernel_rfl) (by kernel_rfl) (fun _ _ _ h => h) (Or.inl ⟨by rfl, ?_⟩) (by assumption) ?_
  rotate_left
  · intro w hSw
    obtain ⟨_, _, _, _, _, _, _, _⟩ := hSw
    go_simp
    try with_reducible rfl
  simp only [Act.put, List.setIfInBounds_toArray, List.set_cons_zero, List.set_cons_succ]
  refine takeD 5 10 (v := ?_) rfl (by rfl) (by kernel_rfl) (by kernel_rfl) (by kernel_rfl) (fun _ _ _ h => h) (Or.inl ⟨by rfl, ?_⟩) (by assumption) ?_
  rotate_left
  · intro w hSw
    obtain ⟨_, _, _, _, _, _, _, _⟩ := hSw
    go_simp
    try with_reducible rfl
  simp only [Act.put, List.setIfInBounds_toArray, List.set_cons_zero, List.set_cons_succ]
  refine takeD 6 11 (v := ?_) rfl (by rfl) (by kernel_rfl) (by kernel_rfl) (by kernel_rfl) (fun _ _ _ h => h) (Or.inl ⟨by rfl, ?_⟩) (by assumption) ?_
  rotate_left
  · intro w hSw
    obtain ⟨_, _, _, _, _, _, _, _⟩ := hSw
    go_simp
    try with_reducible rfl
  simp only [Act.put, List.setIfInBounds_toArray, List.set_cons_zero, List.set_cons_succ]
  refine takeD 7 12 (v := ?_) rfl (by rfl) (by kernel_rfl) (by kernel_rfl) (by kernel_rfl) (fun _ _ _ h => h) (Or.inl ⟨by rfl, ?_⟩) (by assumption) ?_
  rotate_left
  · intro w hSw
    obtain ⟨_, _, _, _, _, _, _, _⟩ := hSw
    go_simp
    try with_reducible rfl
  simp only [Act.put, List.setIfInBounds_toArray, List.set_cons_zero, List.set_cons_succ]
  refine takeD 8 13 (v := ?_) rfl (by rfl) (by kernel_rfl) (by kernel_rfl) (by kernel_rfl) (fun _ _ _ h => h) (Or.inl ⟨by rfl, ?_⟩) (by assumption) ?_
  rotate_left
  · intro w hSw
    obtain ⟨_, _, _, _, _, _, _, _⟩ := hSw
    go_simp
    try with_reducible rfl
  simp only [Act.put, List.setIfInBounds_toArray, List.set_cons_zero, List.set_cons_succ]
  refine takeD 9 14 (v := ?_) rfl (by rfl) (by kernel_rfl) (by kernel_rfl) (by kernel_rfl) (fun _ _ _ h => h) (Or.inl ⟨by rfl, ?_⟩) (by assumption) ?_
  rotate_left
  · intro w hSw
    obtain ⟨_, _, _, _, _, _, _, _⟩ := hSw
    go_simp
    try with_reducible rfl
  simp only [Act.put, List.setIfInBounds_toArray, List.set_cons_zero, List.set_cons_succ]
  refine takeD 10 15 (v := ?_) rfl (by rfl) (by kernel_rfl) (by kernel_rfl) (by kernel_rfl) (fun _ _ _ h => h) (Or.inl ⟨by rfl, ?_⟩) (by assumption) ?_
  rotate_left
  · intro w hSw
    obtain ⟨_, _, _, _, _, _, _, _⟩ := hSw
    go_simp
    try with_reducible rfl
  simp only [Act.put, List.setIfInBounds_toArray, List.set_cons_zero, List.set_cons_succ]
  refine takeD 11 16 (v := ?_) rfl (by rfl) (by kernel_rfl) (by kernel_rfl) (by kernel_rfl) (fun _ _ _ h => h) (Or.inl ⟨by rfl, ?_⟩) (by assumption) ?_
  rotate_left
  · intro w hSw
    obtain ⟨_, _, _, _, _, _, _, _⟩ := hSw
    go_simp
    try with_reducible rfl
  simp only [Act.put, List.setIfInBounds_toArray, List.set_cons_zero, List.set_cons_succ]
  refine takeD 12 17 (v := ?_) rfl (by rfl) (by kernel_rfl) (by kernel_rfl) (by kernel_rfl) (fun _ _ _ h => h) (Or.inl ⟨by rfl, ?_⟩) (by assumption) ?_
  rotate_left
  · intro w hSw
    obtain ⟨_, _, _, _, _, _, _, _⟩ := hSw
    go_simp
    try with_reducible rfl
  simp only [Act.put, List.setIfInBounds_toArray, List.set_cons_zero, List.set_cons_succ]
  refine takeD 13 18 (v := ?_) rfl (by rfl) (by kernel_rfl) (by kernel_rfl) (by kernel_rfl) (fun _ _ _ h => h) (Or.inl ⟨by rfl, ?_⟩) (by assumption) ?_
  rotate_left
  · intro w hSw
    obtain ⟨_, _, _, _, _, _, _, _⟩ := hSw
    go_simp
    try with_reducible rfl
  simp only [Act.put, List.setIfInBounds_toArray, List.set_cons_zero, List.set_cons_succ]
  refine takeD 14 19 (v := ?_) rfl (by rfl) (by kernel_rfl) (by kernel_rfl) (by kernel_rfl) (fun _ _ _ h => h) (Or.inl ⟨by rfl, ?_⟩) (by assumption) ?_
  rotate_left
  · intro w hSw
    obtain ⟨_, _, _, _, _, _, _, _⟩ := hSw
    go_simp
    try with_reducible rfl
  simp only [Act.put, List.setIfInBounds_toArray, List.set_cons_zero, List.set_cons_succ]
  refine takeD 16 21 (v := ?_) rfl (by rfl) (by kernel_rfl) (by kernel_rfl) (by kernel_rfl) (fun _ _ _ h => h) (Or.inl ⟨by rfl, ?_⟩) (by assumption) ?_
  rotate_left
  · intro w hSw
    obtain ⟨_, _, _, _, _, _, _, _⟩ := hSw
    go_simp
    try with_reducible rfl
  simp only [Act.put, List.setIfInBounds_toArray, List.set_cons_zero, List.set_cons_succ]
  refine takeD 17 22 (v := ?_) rfl (by rfl) (by kernel_rfl) (by kernel_rfl) (by kernel_rfl) (fun _ _ _ h => h) (Or.inl ⟨by rfl, ?_⟩) (by assumption) ?_
  rotate_left
  · intro w hSw
    obtain ⟨_, _, _, _, _, _, _, _⟩ := hSw
    go_simp
    try with_reducible rfl
  simp only [Act.put, List.setIfInBounds_toArray, List.set_cons_zero, List.set_cons_succ]
  refine wpAnyH_ready (rs := [15]) (by kernel_rfl) (by simp) ?_
  refine AllReadyH.cons rfl (fun K hK => ?_) AllReadyH.nil
  go_simp
  refine (ints02 (.slice A1 lits.length c1) lits wD (HL.out.below (HB.out.trans (hbD.mono HB.out.size))) (by omega)).mono ?_
  rintro e w1 ⟨v1, rfl, ho1, hb1⟩
  obtain ⟨Ai, ki, hv1, _⟩ := own_slice ho1
  subst hv1
  have hz1 := hb1.size
  have HI1 := Lib.hid (IntsIn.of_own ho1)
  have HB1 := Lib.hid (HB.out.trans ((hbD.trans (hb1.mono hbD.size)).mono HB.out.size))
  refine hK.out _ _ ⟨(hb1.cell (p := ⟨w.heap.size, 0, none⟩) (by show w.heap.size < _; omega)).trans hHeld.1, (hb1.cell (p := ⟨w.heap.size, 1, none⟩) (by show w.heap.size < _; omega)).trans hHeld.2.1, (hb1.cell (p := ⟨w.heap.size, 2, none⟩) (by show w.heap.size < _; omega)).trans hHeld.2.2.1, (hb1.cell (p := ⟨w.heap.size, 3, none⟩) (by show w.heap.size < _; omega)).trans hHeld.2.2.2.1, (hb1.cell (p := ⟨w.heap.size + 1, 0, none⟩) (by show w.heap.size + 1 < _; omega)).trans hHeld.2.2.2.2.1, (hb1.cell (p := ⟨w.heap.size + 1, 1, none⟩) (by show w.heap.size + 1 < _; omega)).trans hHeld.2.2.2.2.2.1, (hb1.cell (p := ⟨w.heap.size + 1, 2, none⟩) (by show w.heap.size + 1 < _; omega)).trans hHeld.2.2.2.2.2.2.1, (hb1.cell (p := ⟨w.heap.size + 1, 3, none⟩) (by show w.heap.size + 1 < _; omega)).trans hHeld.2.2.2.2.2.2.2⟩ (fun hHeld1 => ?_)
  clear hK hHeld ho1 hb1 hbD
  have hHeld := hHeld1
  clear hHeld1
  refine wpAnyH_ready (rs := [18]) (by kernel_rfl) (by simp) ?_
  refine AllReadyH.cons rfl (fun K hK => ?_) AllReadyH.nil
  go_simp
  have he := eq_i _ _ lits lits w1 HI1.out (HL'.out.below HB1.out) (by omega)
  rw [beq_self_eq_true] at he
  refine he.mono ?_
  rintro e w2 ⟨rfl, n2, hn2⟩
  have hb2 : Below w1.heap.size w1 w2 := by rw [hn2]; exact below_drewN1 w1 n2
  have hz2 := hb2.size
  have HB2 := Lib.hid (HB1.out.trans (hb2.mono HB1.out.size))
  refine hK.out _ _ ⟨(hb2.cell (p := ⟨w.heap.size, 0, none⟩) (by show w.heap.size < _; omega)).trans hHeld.1, (hb2.cell (p := ⟨w.heap.size, 1, none⟩) (by show w.heap.size < _; omega)).trans hHeld.2.1, (hb2.cell (p := ⟨w.heap.size, 2, none⟩) (by show w.heap.size < _; omega)).trans hHeld.2.2.1, (hb2.cell (p := ⟨w.heap.size, 3, none⟩) (by show w.heap.size < _; omega)).trans hHeld.2.2.2.1, (hb2.cell (p := ⟨w.heap.size + 1, 0, none⟩) (by show w.heap.size + 1 < _; omega)).trans hHeld.2.2.2.2.1, (hb2.cell (p := ⟨w.heap.size + 1, 1, none⟩) (by show w.heap.size + 1 < _; omega)).trans hHeld.2.2.2.2.2.1, (hb2.cell (p := ⟨w.heap.size + 1, 2, none⟩) (by show w.heap.size + 1 < _; omega)).trans hHeld.2.2.2.2.2.2.1, (hb2.cell (p := ⟨w.heap.size + 1, 3, none⟩) (by show w.heap.size + 1 < _; omega)).trans hHeld.2.2.2.2.2.2.2⟩ (fun hHeld1 => ?_)
  clear hK hHeld hb2 hn2 he
  have hHeld := hHeld1
  clear hHeld1
  refine takeD 19 24 (v := ?_) rfl (by rfl) (by kernel_rfl) (by kernel_rfl) (by kernel_rfl) (fun _ _ _ h => h) (Or.inl ⟨by rfl, ?_⟩) (by assumption) ?_
  rotate_left
  · intro w hSw
    obtain ⟨_, _, _, _, _, _, _, _⟩ := hSw
    go_simp
    try with_reducible rfl
  simp only [Act.put, List.setIfInBounds_toArray, List.set_cons_zero, List.set_cons_succ]
  refine takeD 20 25 (v := ?_) rfl (by rfl) (by kernel_rfl) (by kernel_rfl) (by kernel_rfl) (fun _ _ _ h => h) (Or.inl ⟨by rfl, ?_⟩) (by assumption) ?_
  rotate_left
  · intro w hSw
    obtain ⟨_, _, _, _, _, _, _, _⟩ := hSw
    go_simp
    try with_reducible rfl
  simp only [Act.put, List.setIfInBounds_toArray, List.set_cons_zero, List.set_cons_succ]
  refine takeD 21 26 (v := ?_) rfl (by rfl) (by kernel_rfl) (by kernel_rfl) (by kernel_rfl) (fun _ _ _ h => h) (Or.inl ⟨by rfl, ?_⟩) (by assumption) ?_
  rotate_left
  · intro w hSw
    obtain ⟨_, _, _, _, _, _, _, _⟩ := hSw
    go_simp
    try with_reducible rfl
  simp only [Act.put, List.setIfInBounds_toArray, List.set_cons_zero, List.set_cons_succ]
  refine takeD 22 27 (v := ?_) rfl (by rfl) (by kernel_rfl) (by kernel_rfl) (by kernel_rfl) (fun _ _ _ h => h) (Or.inl ⟨by rfl, ?_⟩) (by assumption) ?_
  rotate_left
  · intro w hSw
    obtain ⟨_, _, _, _, _, _, _, _⟩ := hSw
    go_simp
    try with_reducible rfl
  simp only [Act.put, List.setIfInBounds_toArray, List.set_cons_zero, List.set_cons_succ]
  refine takeD 23 28 (v := ?_) rfl (by rfl) (by kernel_rfl) (by kernel_rfl) (by kernel_rfl) (fun _ _ _ h => h) (Or.inl ⟨by rfl, ?_⟩) (by assumption) ?_
  rotate_left
  · intro w hSw
    obtain ⟨_, _, _, _, _, _, _, _⟩ := hSw
    go_simp
    try with_reducible rfl
  simp only [Act.put, List.setIfInBounds_toArray, List.set_cons_zero, List.set_cons_succ]
  refine takeD 24 29 (v := ?_) rfl (by rfl) (by kernel_rfl) (by kernel_rfl) (by kernel_rfl) (fun _ _ _ h => h) (Or.inl ⟨by rfl, ?_⟩) (by assumption) ?_
  rotate_left
  · intro w hSw
    obtain ⟨_, _, _, _, _, _, _, _⟩ := hSw
    go_simp
    try with_reducible rfl
  simp only [Act.put, List.setIfInBounds_toArray, List.set_cons_zero, List.set_cons_succ]
  refine wpAnyH_ready (rs := [25]) (by kernel_rfl) (by simp) ?_
  refine AllReadyH.cons rfl (fun K hK => ?_) AllReadyH.nil
  go_simp
  have he := eq_i _ _ hints hints w2 (HH.out.below HB2.out) (HH'.out.below HB2.out) (by omega)
  rw [beq_self_eq_true] at he
  refine he.mono ?_
  rintro e w3 ⟨rfl, n3, hn3⟩
  have hb3 : Below w2.heap.size w2 w3 := by rw [hn3]; exact below_drewN1 w2 n3
  have hz3 := hb3.size
  have HB3 := Lib.hid (HB2.out.trans (hb3.mono HB2.out.size))
  refine hK.out _ _ ⟨(hb3.cell (p := ⟨w.heap.size, 0, none⟩) (by show w.heap.size < _; omega)).trans hHeld.1, (hb3.cell (p := ⟨w.heap.size, 1, none⟩) (by show w.heap.size < _; omega)).trans hHeld.2.1, (hb3.cell (p := ⟨w.heap.size, 2, none⟩) (by show w.heap.size < _; omega)).trans hHeld.2.2.1, (hb3.cell (p := ⟨w.heap.size, 3, none⟩) (by show w.heap.size < _; omega)).trans hHeld.2.2.2.1, (hb3.cell (p := ⟨w.heap.size + 1, 0, none⟩) (by show w.heap.size + 1 < _; omega)).trans hHeld.2.2.2.2.1, (hb3.cell (p := ⟨w.heap.size + 1, 1, none⟩) (by show w.heap.size + 1 < _; omega)).trans hHeld.2.2.2.2.2.1, (hb3.cell (p := ⟨w.heap.size + 1, 2, none⟩) (by show w.heap.size + 1 < _; omega)).trans hHeld.2.2.2.2.2.2.1, (hb3.cell (p := ⟨w.heap.size + 1, 3, none⟩) (by show w.heap.size + 1 < _; omega)).trans hHeld.2.2.2.2.2.2.2⟩ (fun hHeld1 => ?_)
  clear hK hHeld hb3 hn3 he
  refine takeD 26 31 (v := ?_) rfl (by rfl) (by kernel_rfl) (by kernel_rfl) (by kernel_rfl) (fun _ _ _ h => h) (Or.inl ⟨by rfl, ?_⟩) (by assumption) ?_
  rotate_left
  · intro w hSw
    obtain ⟨_, _, _, _, _, _, _, _⟩ := hSw
    go_simp
    try with_reducible rfl
  simp only [Act.put, List.setIfInBounds_toArray, List.set_cons_zero, List.set_cons_succ]
  refine takeD 27 4 (v := ?_) rfl (by rfl) (by kernel_rfl) (by kernel_rfl) (by kernel_rfl) (fun _ _ _ h => h) (Or.inl ⟨by rfl, ?_⟩) (by assumption) ?_
  rotate_left
  · intro w hSw
    obtain ⟨_, _, _, _, _, _, _, _⟩ := hSw
    go_simp
    try with_reducible rfl
  simp only [Act.put, List.setIfInBounds_toArray, List.set_cons_zero, List.set_cons_succ]
  refine wpAnyH_done (by kernel_rfl) ?_ _
  go_wp2_with fail
  go_ret
  exact ⟨rfl, HB3.out⟩
end Go.Proofs.YtbokfjmbamgenaaDoor
