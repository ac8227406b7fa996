/- salvorlaw17.same at logs that are alike. -/
import Derived.Test.YtbokfjmbamgenaaDoorRj
import Derived.Test.YtbokfjmbamgenaaDoorEu
namespace Go.Proofs.YtbokfjmbamgenaaDoor
open Go.RowKit

set_option maxRecDepth 100000 in
set_option maxHeartbeats 4000000 in
theorem same_any {O O' : Nat → Prop} (b : Nat) (L : ELog) (tv stv : Value) (there : List Int) (w : World) (hL : LogAt O w b L) (hi : L.Inv) (hR : RLogAt O' w tv stv ⟨there, L.last, L.steps, L.done⟩) (hc : there.length = L.count) (hmem : ∀ x, there.contains x = L.has x) :
    Calls Tryd.prog 33 #[.pointer (some ⟨b, 0, none⟩), rVal tv stv ⟨there, L.last, L.steps, L.done⟩] w fun e w' => e = .returned (.bool true) ∧ Below w.heap.size w w' := by
  obtain ⟨ht, ms, hs⟩ := hR
  simp only [] at ht hs
  have HT := Lib.hid ht
  have HS := Lib.hid hs
  have HL := Lib.hid hL
  have HI := Lib.hid hi
  have HM := Lib.hid hmem
  obtain ⟨A, k, rfl, _, _, _⟩ := ht
  obtain ⟨As, cs, rfl, _, _⟩ := hs.form
  obtain ⟨Z, hZ⟩ : ∃ Z, ms.length = Z := ⟨_, rfl⟩
  have hcl : L.count ≤ L.last := by have := hi.cnt; omega
  have hll : L.last ≤ 1073741824 := hi.last
  have hthl : there.length ≤ 140737488355328 := by omega
  have hla : ∀ W, LogAt O W b L → Calls Tryd.prog 17 #[.pointer (some ⟨b, 0, none⟩)] W fun e w' => e = .returned (.int .i64 (L.last : Int)) ∧ W = w' := fun W h => log_last b L W h
  have hco : ∀ W, LogAt O W b L → Calls Tryd.prog 11 #[.pointer (some ⟨b, 0, none⟩)] W fun e w' => e = .returned (.int .i64 there.length) ∧ W = w' := fun W h => by rw [hc]; exact log_count b L W h
  have hdo : ∀ W, LogAt O W b L → Calls Tryd.prog 18 #[.pointer (some ⟨b, 0, none⟩)] W fun e w' => e = .returned (.bool L.done) ∧ W = w' := fun W h => log_done b L W h
  have hre : ∀ W x, Below w.heap.size w W → Calls Tryd.prog 50 #[rVal (.slice A there.length k) (.slice As Z cs) ⟨there, L.last, L.steps, L.done⟩, .int .i64 x] W fun e w' => e = .returned (.bool (L.has x)) ∧ Below W.heap.size W w' := fun W x h => by
    have := ref_has (.slice A there.length k) (.slice As Z cs) ⟨there, L.last, L.steps, L.done⟩ x W (HT.out.below h) hthl
    simp only [hmem] at this
    exact this
  have hst : ∀ W, Below w.heap.size w W → Calls Tryd.prog 15 #[.pointer (some ⟨b, 0, none⟩)] W fun e w' => ∃ v' ms', e = .returned v' ∧ StepsAt (fun g => W.heap.size ≤ g) w' v' L.steps ms' ∧ w'.ownsRow W.heap.size 57 4 v' ms'.length (ms'.flatMap MStep.cells) ∧ Below W.heap.size W w' := fun W h => log_steps b L W (hL.below h) hi.ok
  have heq : ∀ (W : World) (v' : Value) (ms' : List MStep) (Q : Nat → Prop), Below w.heap.size w W → StepsAt Q W v' L.steps ms' → Calls Tryd.prog 51 #[v', .slice As Z cs] W fun e w' => e = .returned (.bool true) ∧ Below W.heap.size W w' := fun W v' ms' Q h h' => by
    have hk := hs.kept (O' := fun _ => False) (Kept.of_below h) (fun _ _ h => h)
    rw [hZ] at hk
    exact equal_07 v' _ L.steps ms' ms W h' hk hi.proof.each hi.proof.len
  rw [hZ]
  have HLA := Lib.hid hla
  have HCO := Lib.hid hco
  have HDO := Lib.hid hdo
  have HRE := Lib.hid hre
  have HST := Lib.hid hst
  have HEQ := Lib.hid heq
  unfold rVal at HRE ⊢
  have hhas : ∀ W x, (Lit.int .i64 x).wf = true → Below w.heap.size w W → Calls Tryd.prog 12 #[.pointer (some ⟨b, 0, none⟩), .int .i64 x] W fun e w' => e = .returned (.bool (L.has x)) ∧ W = w' := fun W x hx h => log_has b L x W (hL.below h) hx
  have HHA := Lib.hid hhas
  obtain ⟨last, hlast⟩ : ∃ n, L.last = n := ⟨_, rfl⟩
  obtain ⟨done, hdone⟩ : ∃ n, L.done = n := ⟨_, rfl⟩
  rw [hlast] at hll HLA HRE ⊢
  rw [hdone] at HDO HRE ⊢
  clear hc hmem hs hL hi hZ hcl hla hco hdo hre hst heq hhas hlast hdone
  obtain ⟨wb, hwb⟩ : ∃ x, w.alloc (.cells #[.slice A there.length k, .int .i64 (last : Int), .slice As Z cs, .bool done] 62) = x := ⟨_, rfl⟩
  have hB : Below w.heap.size w wb := by rw [← hwb]; exact below_al _ _
  have hzb : wb.heap.size = w.heap.size + 1 := by rw [← hwb]; simp
  have hb2 : wb.heap[w.heap.size]? = some (.cells #[.slice A there.length k, .int .i64 (last : Int), .slice As Z cs, .bool done] 62 (0, 0)) := by rw [← hwb]; exact World.alloc_heap_new _ _
  have HWB := Lib.hid hwb
  have HB := Lib.hid hB
  have b0 := cell_of_block (j := 0) hb2
  have b1 := cell_of_block (j := 1) hb2
  have b2 := cell_of_block (j := 2) hb2
  have b3 := cell_of_block (j := 3) hb2
  have HS0 := Lib.hid (show wb.cell? ⟨w.heap.size, 0, none⟩ = some (.slice A there.length k) ∧ wb.cell? ⟨w.heap.size, 1, none⟩ = some (.int .i64 (last : Int)) ∧ wb.cell? ⟨w.heap.size, 2, none⟩ = some (.slice As Z cs) ∧ wb.cell? ⟨w.heap.size, 3, none⟩ = some (.bool done) from ⟨b0, b1, b2, b3⟩)
  have HB2 := Lib.hid hb2
  clear hwb hB b0 b1 b2 b3 hb2
  go_enter Tryd.func33, Tryd.ntmps33
  go_wp2_with fail
  rw [HWB.out]
  go_cut [33] (fun s33 wx => s33 = .bool false ∧ Hid (Below wb.heap.size wb wx))
  case first =>
    refine wp_region_held_drew (S := fun w' => w'.cell? ⟨w.heap.size, 0, none⟩ = some (.slice A there.length k) ∧ w'.cell? ⟨w.heap.size, 1, none⟩ = some (.int .i64 (last : Int)) ∧ w'.cell? ⟨w.heap.size, 2, none⟩ = some (.slice As Z cs) ∧ w'.cell? ⟨w.heap.size, 3, none⟩ = some (.bool done)) (by kernel_rfl) HS0.out (fun hHeld => ?_)
    obtain ⟨wD, hwD⟩ : ∃ x, wb.drew = x := ⟨_, rfl⟩
    have hbD : Below wb.heap.size wb wD := by rw [← hwD]; exact below_drew' wb
    rw [hwD] at hHeld ⊢
    have hzD : wD.heap.size = w.heap.size + 1 := by rw [← hwD]; exact hzb
    have HD := Lib.hid (HB.out.trans (hbD.mono HB.out.size))
    have HBD := Lib.hid hbD
    clear hwD hbD
    refine takeD 0 6 (v := ?_) rfl (by rfl) (by kernel_rfl) (by kernel_rfl) (by kernel_rfl) (fun _ _ _ h => h) (Or.inl ⟨by rfl, ?_⟩) (by assumption) ?_
    rotate_left
    · intro w hSw
      obtain ⟨_, _, _, _⟩ := hSw
      go_simp
      try with_reducible rfl
    simp only [Act.put, List.setIfInBounds_toArray, List.set_cons_zero, List.set_cons_succ]
    refine takeD 2 8 (v := ?_) rfl (by rfl) (by kernel_rfl) (by kernel_rfl) (by kernel_rfl) (fun _ _ _ h => h) (Or.inl ⟨by rfl, ?_⟩) (by assumption) ?_
    rotate_left
    · intro w hSw
      obtain ⟨_, _, _, _⟩ := hSw
      go_simp
      try with_reducible rfl
    simp only [Act.put, List.setIfInBounds_toArray, List.set_cons_zero, List.set_cons_succ]
    refine takeD 3 9 (v := ?_) rfl (by rfl) (by kernel_rfl) (by kernel_rfl) (by kernel_rfl) (fun _ _ _ h => h) (Or.inl ⟨by rfl, ?_⟩) (by assumption) ?_
    rotate_left
    · intro w hSw
      obtain ⟨_, _, _, _⟩ := hSw
      go_simp
      try with_reducible rfl
    simp only [Act.put, List.setIfInBounds_toArray, List.set_cons_zero, List.set_cons_succ]
    refine wpAnyH_ready (rs := [1]) (by kernel_rfl) (by simp) ?_
    refine AllReadyH.cons rfl (fun K hK => ?_) AllReadyH.nil
    go_simp
    refine (HLA.out wD (HL.out.below HD.out)).mono ?_
    rintro e w' ⟨rfl, rfl⟩
    refine hK.out _ _ hHeld (fun hHeld1 => ?_)
    clear hK hHeld1
    refine takeD 4 10 (v := ?_) rfl (by rfl) (by kernel_rfl) (by kernel_rfl) (by kernel_rfl) (fun _ _ _ h => h) (Or.inl ⟨by rfl, ?_⟩) (by assumption) ?_
    rotate_left
    · intro w hSw
      obtain ⟨_, _, _, _⟩ := hSw
      go_simp
      try with_reducible rfl
    simp only [Act.put, List.setIfInBounds_toArray, List.set_cons_zero, List.set_cons_succ]
    refine takeD 5 11 (v := ?_) rfl (by rfl) (by kernel_rfl) (by kernel_rfl) (by kernel_rfl) (fun _ _ _ h => h) (Or.inl ⟨by rfl, ?_⟩) (by assumption) ?_
    rotate_left
    · intro w hSw
      obtain ⟨_, _, _, _⟩ := hSw
      go_simp
      try with_reducible rfl
    simp only [Act.put, List.setIfInBounds_toArray, List.set_cons_zero, List.set_cons_succ]
    refine takeD 6 12 (v := ?_) rfl (by rfl) (by kernel_rfl) (by kernel_rfl) (by kernel_rfl) (fun _ _ _ h => h) (Or.inl ⟨by rfl, ?_⟩) (by assumption) ?_
    rotate_left
    · intro w hSw
      obtain ⟨_, _, _, _⟩ := hSw
      go_simp
      try with_reducible rfl
    simp only [Act.put, List.setIfInBounds_toArray, List.set_cons_zero, List.set_cons_succ]
    refine takeD 8 14 (v := ?_) rfl (by rfl) (by kernel_rfl) (by kernel_rfl) (by kernel_rfl) (fun _ _ _ h => h) (Or.inl ⟨by rfl, ?_⟩) (by assumption) ?_
    rotate_left
    · intro w hSw
      obtain ⟨_, _, _, _⟩ := hSw
      go_simp
      try with_reducible rfl
    simp only [Act.put, List.setIfInBounds_toArray, List.set_cons_zero, List.set_cons_succ]
    refine takeD 9 15 (v := ?_) rfl (by rfl) (by kernel_rfl) (by kernel_rfl) (by kernel_rfl) (fun _ _ _ h => h) (Or.inl ⟨by rfl, ?_⟩) (by assumption) ?_
    rotate_left
    · intro w hSw
      obtain ⟨_, _, _, _⟩ := hSw
      go_simp
      try with_reducible rfl
    simp only [Act.put, List.setIfInBounds_toArray, List.set_cons_zero, List.set_cons_succ]
    refine takeD 10 16 (v := ?_) rfl (by rfl) (by kernel_rfl) (by kernel_rfl) (by kernel_rfl) (fun _ _ _ h => h) (Or.inl ⟨by rfl, ?_⟩) (by assumption) ?_
    rotate_left
    · intro w hSw
      obtain ⟨_, _, _, _⟩ := hSw
      go_simp
      try with_reducible rfl
    simp only [Act.put, List.setIfInBounds_toArray, List.set_cons_zero, List.set_cons_succ]
    refine wpAnyH_ready (rs := [7]) (by kernel_rfl) (by simp) ?_
    refine AllReadyH.cons rfl (fun K hK => ?_) AllReadyH.nil
    go_simp
    refine (HCO.out wD (HL.out.below HD.out)).mono ?_
    rintro e w' ⟨rfl, rfl⟩
    refine hK.out _ _ hHeld (fun hHeld1 => ?_)
    clear hK hHeld1
    refine takeD 11 17 (v := ?_) rfl (by rfl) (by kernel_rfl) (by kernel_rfl) (by kernel_rfl) (fun _ _ _ h => h) (Or.inl ⟨by rfl, ?_⟩) (by assumption) ?_
    rotate_left
    · intro w hSw
      obtain ⟨_, _, _, _⟩ := hSw
      go_simp
      try with_reducible rfl
    simp only [Act.put, List.setIfInBounds_toArray, List.set_cons_zero, List.set_cons_succ]
    refine takeD 12 18 (v := ?_) rfl (by rfl) (by kernel_rfl) (by kernel_rfl) (by kernel_rfl) (fun _ _ _ h => h) (Or.inl ⟨by rfl, ?_⟩) (by assumption) ?_
    rotate_left
    · intro w hSw
      obtain ⟨_, _, _, _⟩ := hSw
      go_simp
      try with_reducible rfl
    simp only [Act.put, List.setIfInBounds_toArray, List.set_cons_zero, List.set_cons_succ]
    refine takeD 13 19 (v := ?_) rfl (by rfl) (by kernel_rfl) (by kernel_rfl) (by kernel_rfl) (fun _ _ _ h => h) (Or.inl ⟨by rfl, ?_⟩) (by assumption) ?_
    rotate_left
    · intro w hSw
      obtain ⟨_, _, _, _⟩ := hSw
      go_simp
      try with_reducible rfl
    simp only [Act.put, List.setIfInBounds_toArray, List.set_cons_zero, List.set_cons_succ]
    refine takeD 14 20 (v := ?_) rfl (by rfl) (by kernel_rfl) (by kernel_rfl) (by kernel_rfl) (fun _ _ _ h => h) (Or.inl ⟨by rfl, ?_⟩) (by assumption) ?_
    rotate_left
    · intro w hSw
      obtain ⟨_, _, _, _⟩ := hSw
      go_simp
      try with_reducible rfl
    simp only [Act.put, List.setIfInBounds_toArray, List.set_cons_zero, List.set_cons_succ]
    refine takeD 16 22 (v := ?_) rfl (by rfl) (by kernel_rfl) (by kernel_rfl) (by kernel_rfl) (fun _ _ _ h => h) (Or.inl ⟨by rfl, ?_⟩) (by assumption) ?_
    rotate_left
    · intro w hSw
      obtain ⟨_, _, _, _⟩ := hSw
      go_simp
      try with_reducible rfl
    simp only [Act.put, List.setIfInBounds_toArray, List.set_cons_zero, List.set_cons_succ]
    refine takeD 17 23 (v := ?_) rfl (by rfl) (by kernel_rfl) (by kernel_rfl) (by kernel_rfl) (fun _ _ _ h => h) (Or.inl ⟨by rfl, ?_⟩) (by assumption) ?_
    rotate_left
    · intro w hSw
      obtain ⟨_, _, _, _⟩ := hSw
      go_simp
      try with_reducible rfl
    simp only [Act.put, List.setIfInBounds_toArray, List.set_cons_zero, List.set_cons_succ]
    refine wpAnyH_ready (rs := [15]) (by kernel_rfl) (by simp) ?_
    refine AllReadyH.cons rfl (fun K hK => ?_) AllReadyH.nil
    go_simp
    refine (HDO.out wD (HL.out.below HD.out)).mono ?_
    rintro e w' ⟨rfl, rfl⟩
    refine hK.out _ _ hHeld (fun hHeld1 => ?_)
    clear hK hHeld1
    refine takeD 18 24 (v := ?_) rfl (by rfl) (by kernel_rfl) (by kernel_rfl) (by kernel_rfl) (fun _ _ _ h => h) (Or.inl ⟨by rfl, ?_⟩) (by assumption) ?_
    rotate_left
    · intro w hSw
      obtain ⟨_, _, _, _⟩ := hSw
      go_simp
      try with_reducible rfl
    simp only [Act.put, List.setIfInBounds_toArray, List.set_cons_zero, List.set_cons_succ]
    refine takeD 19 25 (v := ?_) rfl (by rfl) (by kernel_rfl) (by kernel_rfl) (by kernel_rfl) (fun _ _ _ h => h) (Or.inl ⟨by rfl, ?_⟩) (by assumption) ?_
    rotate_left
    · intro w hSw
      obtain ⟨_, _, _, _⟩ := hSw
      go_simp
      try with_reducible rfl
    simp only [Act.put, List.setIfInBounds_toArray, List.set_cons_zero, List.set_cons_succ]
    refine takeD 20 26 (v := ?_) rfl (by rfl) (by kernel_rfl) (by kernel_rfl) (by kernel_rfl) (fun _ _ _ h => h) (Or.inl ⟨by rfl, ?_⟩) (by assumption) ?_
    rotate_left
    · intro w hSw
      obtain ⟨_, _, _, _⟩ := hSw
      go_simp
      try with_reducible rfl
    simp only [Act.put, List.setIfInBounds_toArray, List.set_cons_zero, List.set_cons_succ]
    refine takeD 21 27 (v := ?_) rfl (by rfl) (by kernel_rfl) (by kernel_rfl) (by kernel_rfl) (fun _ _ _ h => h) (Or.inl ⟨by rfl, ?_⟩) (by assumption) ?_
    rotate_left
    · intro w hSw
      obtain ⟨_, _, _, _⟩ := hSw
      go_simp
      try with_reducible rfl
    simp only [Act.put, List.setIfInBounds_toArray, List.set_cons_zero, List.set_cons_succ]
    refine takeD 23 29 (v := ?_) rfl (by rfl) (by kernel_rfl) (by kernel_rfl) (by kernel_rfl) (fun _ _ _ h => h) (Or.inl ⟨by rfl, ?_⟩) (by assumption) ?_
    rotate_left
    · intro w hSw
      obtain ⟨_, _, _, _⟩ := hSw
      go_simp
      try with_reducible rfl
    simp only [Act.put, List.setIfInBounds_toArray, List.set_cons_zero, List.set_cons_succ]
    refine takeD 24 30 (v := ?_) rfl (by rfl) (by kernel_rfl) (by kernel_rfl) (by kernel_rfl) (fun _ _ _ h => h) (Or.inl ⟨by rfl, ?_⟩) (by assumption) ?_
    rotate_left
    · intro w hSw
      obtain ⟨_, _, _, _⟩ := hSw
      go_simp
      try with_reducible rfl
    simp only [Act.put, List.setIfInBounds_toArray, List.set_cons_zero, List.set_cons_succ]
    refine wpAnyH_ready (rs := [22]) (by kernel_rfl) (by simp) ?_
    refine AllReadyH.cons rfl (fun K hK => ?_) AllReadyH.nil
    go_simp
    refine (HST.out wD HD.out).mono ?_
    rintro e w1 ⟨v1, ms1, rfl, hs1, _, hb1⟩
    obtain ⟨As1, cs1, rfl, _⟩ := own_slice hs1.row
    have hz1 := hb1.size
    have HS1 := Lib.hid hs1
    have HB1 := Lib.hid (HD.out.trans (hb1.mono HD.out.size))
    have HBB1 := Lib.hid (HBD.out.trans (hb1.mono HBD.out.size))
    refine hK.out _ _ ⟨(hb1.cell (p := ⟨w.heap.size, 0, none⟩) (by show w.heap.size < _; omega)).trans hHeld.1, (hb1.cell (p := ⟨w.heap.size, 1, none⟩) (by show w.heap.size < _; omega)).trans hHeld.2.1, (hb1.cell (p := ⟨w.heap.size, 2, none⟩) (by show w.heap.size < _; omega)).trans hHeld.2.2.1, (hb1.cell (p := ⟨w.heap.size, 3, none⟩) (by show w.heap.size < _; omega)).trans hHeld.2.2.2⟩ (fun hHeld1 => ?_)
    clear hK hHeld hb1 hs1
    have hHeld := hHeld1
    clear hHeld1
    refine wpAnyH_ready (rs := [25]) (by kernel_rfl) (by simp) ?_
    refine AllReadyH.cons rfl (fun K hK => ?_) AllReadyH.nil
    go_simp
    refine (HEQ.out w1 _ ms1 _ HB1.out HS1.out).mono ?_
    rintro e w2 ⟨rfl, hb2⟩
    have hz2 := hb2.size
    have HBB2 := Lib.hid (HBB1.out.trans (hb2.mono HBB1.out.size))
    refine hK.out _ _ ⟨(hb2.cell (p := ⟨w.heap.size, 0, none⟩) (by show w.heap.size < _; omega)).trans hHeld.1, (hb2.cell (p := ⟨w.heap.size, 1, none⟩) (by show w.heap.size < _; omega)).trans hHeld.2.1, (hb2.cell (p := ⟨w.heap.size, 2, none⟩) (by show w.heap.size < _; omega)).trans hHeld.2.2.1, (hb2.cell (p := ⟨w.heap.size, 3, none⟩) (by show w.heap.size < _; omega)).trans hHeld.2.2.2⟩ (fun hHeld1 => ?_)
    clear hK hHeld hb2
    have hHeld := hHeld1
    clear hHeld1
    refine takeD 26 32 (v := ?_) rfl (by rfl) (by kernel_rfl) (by kernel_rfl) (by kernel_rfl) (fun _ _ _ h => h) (Or.inl ⟨by rfl, ?_⟩) (by assumption) ?_
    rotate_left
    · intro w hSw
      obtain ⟨_, _, _, _⟩ := hSw
      go_simp
      try with_reducible rfl
    simp only [Act.put, List.setIfInBounds_toArray, List.set_cons_zero, List.set_cons_succ]
    refine takeD 27 33 (v := ?_) rfl (by rfl) (by kernel_rfl) (by kernel_rfl) (by kernel_rfl) (fun _ _ _ h => h) (Or.inl ⟨by rfl, ?_⟩) (by assumption) ?_
    rotate_left
    · intro w hSw
      obtain ⟨_, _, _, _⟩ := hSw
      go_simp
      try with_reducible rfl
    simp only [Act.put, List.setIfInBounds_toArray, List.set_cons_zero, List.set_cons_succ]
    refine wpAnyH_done (by kernel_rfl) ?_ _
    go_wp2_with fail
    go_meet
    exact ⟨rfl, HBB2⟩
  case rest =>
    obtain ⟨rfl, HW0⟩ := hcut
    go_wp2_with fail
    go_loopw [5] (fun i wr => ∃ j : Nat, j ≤ last + 3 ∧ i = .int .i64 ((j : Int) - 1) ∧ Hid (Below wb.heap.size wb wr)) (fun i _ => last + 3 - (intOf i + 1).toNat)
    case atStart => exact ⟨0, Nat.zero_le _, rfl, HW0⟩
    case round =>
      obtain ⟨j, hj, rfl, HW⟩ := hrel
      have hzr := HW.out.size
      have hc2 := (HW.out.block w.heap.size (by omega)).trans HB2.out
      have b0 : wr.cell? ⟨w.heap.size, 0, none⟩ = some (.slice A there.length k) := cell_of_block (j := 0) hc2
      have b1 : wr.cell? ⟨w.heap.size, 1, none⟩ = some (.int .i64 (last : Int)) := cell_of_block (j := 1) hc2
      have b2 : wr.cell? ⟨w.heap.size, 2, none⟩ = some (.slice As Z cs) := cell_of_block (j := 2) hc2
      have b3 : wr.cell? ⟨w.heap.size, 3, none⟩ = some (.bool done) := cell_of_block (j := 3) hc2
      have HC2 := Lib.hid hc2
      clear hc2
      by_cases hlt : j < last + 3
      · have hle : decide ((j : Int) - 1 ≤ (last : Int) + 1) = true := by simp; omega
        have HLT := Lib.hid hlt
        have hjb : j ≤ 1073741827 := by omega
        clear hlt
        go_wp2_with fail
        refine wp_region_held_drew (S := fun w' => w'.cell? ⟨w.heap.size, 0, none⟩ = some (.slice A there.length k) ∧ w'.cell? ⟨w.heap.size, 1, none⟩ = some (.int .i64 (last : Int)) ∧ w'.cell? ⟨w.heap.size, 2, none⟩ = some (.slice As Z cs) ∧ w'.cell? ⟨w.heap.size, 3, none⟩ = some (.bool done)) (by kernel_rfl) ⟨b0, b1, b2, b3⟩ (fun hHeld => ?_)
        obtain ⟨wD, hwD⟩ : ∃ x, wr.drew = x := ⟨_, rfl⟩
        have hbD : Below wr.heap.size wr wD := by rw [← hwD]; exact below_drew' wr
        rw [hwD] at hHeld ⊢
        have hzD : wD.heap.size = wr.heap.size := by rw [← hwD]; rfl
        have HD := Lib.hid (HB.out.trans ((HW.out.trans (hbD.mono HW.out.size)).mono HB.out.size))
        have HBD := Lib.hid (HW.out.trans (hbD.mono HW.out.size))
        clear hwD hbD b0 b1 b2 b3
        refine takeD 0 41 (v := ?_) rfl (by rfl) (by kernel_rfl) (by kernel_rfl) (by kernel_rfl) (fun _ _ _ h => h) (Or.inl ⟨by rfl, ?_⟩) (by assumption) ?_
        rotate_left
        · intro w hSw
          obtain ⟨_, _, _, _⟩ := hSw
          go_simp
          try with_reducible rfl
        simp only [Act.put, List.setIfInBounds_toArray, List.set_cons_zero, List.set_cons_succ]
        refine takeD 1 42 (v := ?_) rfl (by rfl) (by kernel_rfl) (by kernel_rfl) (by kernel_rfl) (fun _ _ _ h => h) (Or.inl ⟨by rfl, ?_⟩) (by assumption) ?_
        rotate_left
        · intro w hSw
          obtain ⟨_, _, _, _⟩ := hSw
          go_simp
          try with_reducible rfl
        simp only [Act.put, List.setIfInBounds_toArray, List.set_cons_zero, List.set_cons_succ]
        refine takeD 3 44 (v := ?_) rfl (by rfl) (by kernel_rfl) (by kernel_rfl) (by kernel_rfl) (fun _ _ _ h => h) (Or.inl ⟨by rfl, ?_⟩) (by assumption) ?_
        rotate_left
        · intro w hSw
          obtain ⟨_, _, _, _⟩ := hSw
          go_simp
          try with_reducible rfl
        simp only [Act.put, List.setIfInBounds_toArray, List.set_cons_zero, List.set_cons_succ]
        refine takeD 4 45 (v := ?_) rfl (by rfl) (by kernel_rfl) (by kernel_rfl) (by kernel_rfl) (fun _ _ _ h => h) (Or.inl ⟨by rfl, ?_⟩) (by assumption) ?_
        rotate_left
        · intro w hSw
          obtain ⟨_, _, _, _⟩ := hSw
          go_simp
          try with_reducible rfl
        simp only [Act.put, List.setIfInBounds_toArray, List.set_cons_zero, List.set_cons_succ]
        refine wpAnyH_ready (rs := [2]) (by kernel_rfl) (by simp) ?_
        refine AllReadyH.cons rfl (fun K hK => ?_) AllReadyH.nil
        go_simp
        refine (HHA.out wD ((j : Int) - 1) (by simp only [Lit.wf, Bool.and_eq_true, decide_eq_true_eq]; exact ⟨(by show (-9223372036854775808 : Int) ≤ _; omega), (by show _ ≤ (9223372036854775807 : Int); omega)⟩) HD.out).mono ?_
        rintro e w' ⟨rfl, rfl⟩
        obtain ⟨bx, hbx⟩ : ∃ bx, L.has ((j : Int) - 1) = bx := ⟨_, rfl⟩
        rw [hbx]
        refine hK.out _ _ hHeld (fun hHeld1 => ?_)
        clear hK hHeld1
        refine wpAnyH_ready (rs := [5]) (by kernel_rfl) (by simp) ?_
        refine AllReadyH.cons rfl (fun K hK => ?_) AllReadyH.nil
        go_simp
        have hr := HRE.out wD ((j : Int) - 1) HD.out
        rw [hbx] at hr
        refine hr.mono ?_
        rintro e w2 ⟨rfl, hb2⟩
        have hz2 := hb2.size
        have HB2' := Lib.hid (HBD.out.trans (hb2.mono HBD.out.size))
        refine hK.out _ _ ⟨(hb2.cell (p := ⟨w.heap.size, 0, none⟩) (by show w.heap.size < _; omega)).trans hHeld.1, (hb2.cell (p := ⟨w.heap.size, 1, none⟩) (by show w.heap.size < _; omega)).trans hHeld.2.1, (hb2.cell (p := ⟨w.heap.size, 2, none⟩) (by show w.heap.size < _; omega)).trans hHeld.2.2.1, (hb2.cell (p := ⟨w.heap.size, 3, none⟩) (by show w.heap.size < _; omega)).trans hHeld.2.2.2⟩ (fun hHeld1 => ?_)
        clear hK hHeld hb2 hr hbx
        have hHeld := hHeld1
        clear hHeld1
        refine takeD 6 47 (v := ?_) rfl (by rfl) (by kernel_rfl) (by kernel_rfl) (by kernel_rfl) (fun _ _ _ h => h) (Or.inl ⟨by rfl, ?_⟩) (by assumption) ?_
        rotate_left
        · intro w hSw
          obtain ⟨_, _, _, _⟩ := hSw
          go_simp
          try with_reducible rfl
        simp only [Act.put, List.setIfInBounds_toArray, List.set_cons_zero, List.set_cons_succ]
        refine wpAnyH_done (by kernel_rfl) ?_ _
        clear hHeld
        go_wp2_with fail
        go_roundw
        case rel => exact ⟨j + 1, by have := HLT.out; omega, by go_num, HB2'⟩
        case measure => have := HLT.out; simp [intOf]; omega
      · have hle : decide ((j : Int) - 1 ≤ (last : Int) + 1) = false := by simp; omega
        go_wp2_with fail
        go_ret
        exact ⟨rfl, HB.out.trans (HW.out.mono HB.out.size)⟩
end Go.Proofs.YtbokfjmbamgenaaDoor
