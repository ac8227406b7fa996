/- The arena: Get. -/
import Derived.Test.YtiodfolcnnkdjaaAc
namespace Go.Proofs.Ytiodfolcnnkdjaa
open Go.RowKit

def Arn.get (A : Arn) (id : Int) : Option (List Int) := match A.ent id with
  | some x => some ((A.store.drop x.fr).take (x.upto - x.fr))
  | none => none
theorem Arn.ent_mem {A : Arn} {id : Int} {x : Ent} (h : A.ent id = some x) : x ∈ A.all := by
  unfold Arn.ent at h
  split at h
  · exact List.mem_of_getElem? h
  · cases h
theorem ar_get_none {O : Nat → Prop} (b : Nat) (A : Arn) (id : Int) (w : World) (h : ArAt O w b A) (hg : A.get id = none) :
    Calls Try.prog 42 #[.pointer (some ⟨b, 0, none⟩), .int .i64 id] w fun r w' => r = .returned (.tuple #[.slice none 0 0, .int .i64 30]) ∧ Below w.heap.size w w' := by
  have hen : A.ent id = none := by
    unfold Arn.get at hg
    split at hg
    · cases hg
    · assumption
  have hc := ar_entry b A id w h
  rw [hen, show entVal none = .tuple #[.agg #[.int .i64 0, .int .i64 0, .int .i64 0, .bool false], .int .i64 30] from rfl] at hc
  have HC := Lib.hid hc
  clear hc hen hg h
  go_enter Try.func42, Try.ntmps42
  go_wp2_with fail
  refine HC.out.mono ?_
  rintro e w1 ⟨rfl, hb1⟩
  have HB1 := Lib.hid (hb1.trans ((mx_al w1 (.cells #[.int .i64 0, .int .i64 0, .int .i64 0, .bool false] 87)).mono hb1.size))
  clear hb1
  go_wp2_with fail
  go_ret2
  exact ⟨rfl, HB1.out⟩
set_option maxRecDepth 100000 in
set_option maxHeartbeats 2000000 in
theorem ar_get {O : Nat → Prop} (b : Nat) (A : Arn) (id : Int) (c : List Int) (w : World) (h : ArAt O w b A) (hg : A.get id = some c) :
    Calls Try.prog 42 #[.pointer (some ⟨b, 0, none⟩), .int .i64 id] w fun r w' => ∃ v, r = .returned (.tuple #[v, .int .i64 0]) ∧ w'.ownsRow w.heap.size 26 1 v c.length (c.map (Value.int .i64)) ∧ Below w.heap.size w w' := by
  obtain ⟨x, hx, hcx⟩ : ∃ x, A.ent id = some x ∧ (A.store.drop x.fr).take (x.upto - x.fr) = c := by
    unfold Arn.get at hg
    split at hg
    · rename_i x hx
      exact ⟨x, hx, Option.some.inj hg⟩
    · cases hg
  have hc := ar_entry b A id w h
  rw [hx, show entVal (some x) = .tuple #[.agg #[.int .i64 (x.fr : Nat), .int .i64 (x.upto : Nat), .int .i64 x.id, .bool x.gone], .int .i64 0] from rfl] at hc
  have HC := Lib.hid hc
  obtain ⟨hk, stv, alv, h⟩ := h
  obtain ⟨_, _, hfu, hus⟩ := hk.each x (Arn.ent_mem hx)
  have hst := hk.lens.2
  have HM := Lib.hid h
  have hbw := heap_lt h.block
  have hcl : c.length = x.upto - x.fr := by rw [← hcx, List.length_take, List.length_drop]; omega
  have HCX := Lib.hid hcx
  clear hc hx hg hk h hcx
  go_enter Try.func42, Try.ntmps42
  go_wp2_with fail
  refine HC.out.mono ?_
  rintro e w1 ⟨rfl, hb1⟩
  obtain ⟨wb, hwb⟩ : ∃ z, w1.alloc (.cells #[.int .i64 (x.fr : Nat), .int .i64 (x.upto : Nat), .int .i64 x.id, .bool x.gone] 87) = z := ⟨_, rfl⟩
  have hbb : Below w1.heap.size w1 wb := by rw [← hwb]; exact mx_al _ _
  have hbn : wb.heap[w1.heap.size]? = some (.cells #[.int .i64 (x.fr : Nat), .int .i64 (x.upto : Nat), .int .i64 x.id, .bool x.gone] 87 (0, 0)) := by rw [← hwb]; exact World.alloc_heap_new _ _
  have hzb : wb.heap.size = w1.heap.size + 1 := by rw [← hwb]; simp
  have HWB := Lib.hid hwb
  have HBB := Lib.hid (hb1.trans (hbb.mono hb1.size))
  have hz1 := hb1.size
  have HBN := Lib.hid hbn
  clear hwb hbb hbn hb1
  go_upto_region 4 with fail
  rw [HWB.out]
  have t0 : wb.cell? ⟨w1.heap.size, 0, none⟩ = some (.int .i64 (x.fr : Nat)) := mx_cell (j := 0) HBN.out
  have t1 : wb.cell? ⟨w1.heap.size, 1, none⟩ = some (.int .i64 (x.upto : Nat)) := mx_cell (j := 1) HBN.out
  have a0' := (HBB.out.cell (p := ⟨b, 0, none⟩) hbw).trans (mx_cell (j := 0) HM.out.block)
  have k1 : (x.fr : Int) ≤ (x.upto : Int) := by omega
  have hbwb : b < wb.heap.size := Nat.lt_of_lt_of_le hbw HBB.out.size
  rcases HM.out.store.2 with ⟨hsv, hs0⟩ | ⟨gs, cst, cur, hsv, _, hgs, hle, _⟩
  · subst hsv
    have a0 : wb.cell? ⟨b, 0, none⟩ = some (.slice none 0 0) := a0'
    have hf0 : x.fr = 0 := by omega
    have hu0 : x.upto = 0 := by omega
    rw [hf0] at t0
    rw [hu0] at t1
    rw [show ((0 : Nat) : Int) = 0 from rfl] at t0 t1
    have hc0 : c = [] := List.eq_nil_of_length_eq_zero (by omega)
    subst hc0
    clear a0' hcl k1 HBN HC
    refine wp_region_held_drew (S := fun w' => w'.cell? ⟨b, 0, none⟩ = some (.slice none 0 0) ∧ w'.cell? ⟨w1.heap.size, 0, none⟩ = some (.int .i64 0) ∧ w'.cell? ⟨w1.heap.size, 1, none⟩ = some (.int .i64 0)) (by kernel_rfl) ⟨a0, t0, t1⟩ (fun hHeld => ?_)
    obtain ⟨wD, hwD⟩ : ∃ x, wb.drew = x := ⟨_, rfl⟩
    have hbD : Below wb.heap.size wb wD := by rw [← hwD]; exact mx_drew wb
    rw [hwD] at hHeld ⊢
    have HBD := Lib.hid (HBB.out.trans (hbD.mono HBB.out.size))
    have hzD := hbD.size
    clear hwD hbD a0 t0 t1
    refine takeD 0 17 (v := ?_) rfl (by rfl) (by kernel_rfl) (by kernel_rfl) (by kernel_rfl) (fun _ _ _ h => h) (Or.inl ⟨by rfl, ?_⟩) (by assumption) ?_
    rotate_left
    · intro w hSw
      obtain ⟨_, _, _⟩ := hSw
      go_simp
      try with_reducible rfl
    simp only [Act.put, List.setIfInBounds_toArray, List.set_cons_zero, List.set_cons_succ]
    refine takeD 1 18 (v := ?_) rfl (by rfl) (by kernel_rfl) (by kernel_rfl) (by kernel_rfl) (fun _ _ _ h => h) (Or.inl ⟨by rfl, ?_⟩) (by assumption) ?_
    rotate_left
    · intro w hSw
      obtain ⟨_, _, _⟩ := hSw
      go_simp
      try with_reducible rfl
    simp only [Act.put, List.setIfInBounds_toArray, List.set_cons_zero, List.set_cons_succ]
    refine takeD 2 19 (v := ?_) rfl (by rfl) (by kernel_rfl) (by kernel_rfl) (by kernel_rfl) (fun _ _ _ h => h) (Or.inl ⟨by rfl, ?_⟩) (by assumption) ?_
    rotate_left
    · intro w hSw
      obtain ⟨_, _, _⟩ := hSw
      go_simp
      try with_reducible rfl
    simp only [Act.put, List.setIfInBounds_toArray, List.set_cons_zero, List.set_cons_succ]
    refine takeD 3 20 (v := ?_) rfl (by rfl) (by kernel_rfl) (by kernel_rfl) (by kernel_rfl) (fun _ _ _ h => h) (Or.inl ⟨by rfl, ?_⟩) (by assumption) ?_
    rotate_left
    · intro w hSw
      obtain ⟨_, _, _⟩ := hSw
      go_simp
      try with_reducible rfl
    simp only [Act.put, List.setIfInBounds_toArray, List.set_cons_zero, List.set_cons_succ]
    refine takeD 4 21 (v := ?_) rfl (by rfl) (by kernel_rfl) (by kernel_rfl) (by kernel_rfl) (fun _ _ _ h => h) (Or.inl ⟨by rfl, ?_⟩) (by assumption) ?_
    rotate_left
    · intro w hSw
      obtain ⟨_, _, _⟩ := hSw
      go_simp
      try with_reducible rfl
    simp only [Act.put, List.setIfInBounds_toArray, List.set_cons_zero, List.set_cons_succ]
    refine takeD 5 22 (v := ?_) rfl (by rfl) (by kernel_rfl) (by kernel_rfl) (by kernel_rfl) (fun _ _ _ h => h) (Or.inl ⟨by rfl, ?_⟩) (by assumption) ?_
    rotate_left
    · intro w hSw
      obtain ⟨_, _, _⟩ := hSw
      go_simp
      try with_reducible rfl
    simp only [Act.put, List.setIfInBounds_toArray, List.set_cons_zero, List.set_cons_succ]
    refine takeD 6 23 (v := ?_) rfl (by rfl) (by kernel_rfl) (by kernel_rfl) (by kernel_rfl) (fun _ _ _ h => h) (Or.inl ⟨by rfl, ?_⟩) (by assumption) ?_
    rotate_left
    · intro w hSw
      obtain ⟨_, _, _⟩ := hSw
      go_simp
      try with_reducible rfl
    simp only [Act.put, List.setIfInBounds_toArray, List.set_cons_zero, List.set_cons_succ]
    refine takeD 7 24 (v := ?_) rfl (by rfl) (by kernel_rfl) (by kernel_rfl) (by kernel_rfl) (fun _ _ _ h => h) (Or.inl ⟨by rfl, ?_⟩) (by assumption) ?_
    rotate_left
    · intro w hSw
      obtain ⟨_, _, _⟩ := hSw
      go_simp
      try with_reducible rfl
    simp only [Act.put, List.setIfInBounds_toArray, List.set_cons_zero, List.set_cons_succ]
    refine takeD 8 25 (v := ?_) rfl (by rfl) (by kernel_rfl) (by kernel_rfl) (by kernel_rfl) (fun _ _ _ h => h) (Or.inl ⟨by rfl, ?_⟩) (by assumption) ?_
    rotate_left
    · intro w hSw
      obtain ⟨_, _, _⟩ := hSw
      go_simp
      try with_reducible rfl
    simp only [Act.put, List.setIfInBounds_toArray, List.set_cons_zero, List.set_cons_succ]
    refine takeD 9 26 (v := ?_) rfl (by rfl) (by kernel_rfl) (by kernel_rfl) (by kernel_rfl) (fun _ _ _ h => h) (Or.inl ⟨by rfl, ?_⟩) (by assumption) ?_
    rotate_left
    · intro w hSw
      obtain ⟨_, _, _⟩ := hSw
      go_simp
      try with_reducible rfl
    simp only [Act.put, List.setIfInBounds_toArray, List.set_cons_zero, List.set_cons_succ]
    refine takeD 10 27 (v := ?_) rfl (by rfl) (by kernel_rfl) (by kernel_rfl) (by kernel_rfl) (fun _ _ _ h => h) (Or.inl ⟨by rfl, ?_⟩) (by assumption) ?_
    rotate_left
    · intro w hSw
      obtain ⟨_, _, _⟩ := hSw
      go_simp
      try with_reducible rfl
    simp only [Act.put, List.setIfInBounds_toArray, List.set_cons_zero, List.set_cons_succ]
    refine wpAnyH_ready (rs := [11]) (by kernel_rfl) (by simp) ?_
    refine AllReadyH.cons rfl (fun K hK => ?_) AllReadyH.nil
    go_simp
    refine (clone_l (.slice none 0 0) [] wD (IntsIn.nil (fun _ => True) wD) (by simp)).mono ?_
    rintro e wE ⟨cv, rfl, hoc, hbE⟩
    obtain ⟨Ac, cc, hcv, _⟩ := mx_slice hoc
    subst hcv
    have hzE := hbE.size
    have hzB := HBB.out.size
    have HOC := Lib.hid (own_mono (base' := w.heap.size) hoc (by omega))
    have HBE := Lib.hid (HBD.out.trans (hbE.mono HBD.out.size))
    refine hK.out _ _ ⟨(hbE.cell (p := ⟨b, 0, none⟩) (by show b < _; omega)).trans hHeld.1, (hbE.cell (p := ⟨w1.heap.size, 0, none⟩) (by show w1.heap.size < _; omega)).trans hHeld.2.1, (hbE.cell (p := ⟨w1.heap.size, 1, none⟩) (by show w1.heap.size < _; omega)).trans hHeld.2.2⟩ (fun hHeld1 => ?_)
    clear hK hHeld hoc hbE
    have hHeld := hHeld1
    clear hHeld1
    refine takeD 12 4 (v := ?_) rfl (by rfl) (by kernel_rfl) (by kernel_rfl) (by kernel_rfl) (fun _ _ _ h => h) (Or.inl ⟨by rfl, ?_⟩) (by assumption) ?_
    rotate_left
    · intro w hSw
      obtain ⟨_, _, _⟩ := hSw
      go_simp
      try with_reducible rfl
    simp only [Act.put, List.setIfInBounds_toArray, List.set_cons_zero, List.set_cons_succ]
    refine takeD 13 5 (v := ?_) rfl (by rfl) (by kernel_rfl) (by kernel_rfl) (by kernel_rfl) (fun _ _ _ h => h) (Or.inl ⟨by rfl, ?_⟩) (by assumption) ?_
    rotate_left
    · intro w hSw
      obtain ⟨_, _, _⟩ := hSw
      go_simp
      try with_reducible rfl
    simp only [Act.put, List.setIfInBounds_toArray, List.set_cons_zero, List.set_cons_succ]
    refine wpAnyH_done (by kernel_rfl) ?_ _
    clear hHeld
    go_wp2_with fail
    go_ret2
    exact ⟨_, rfl, HOC.out, HBE.out⟩
  · subst hsv
    have a0 : wb.cell? ⟨b, 0, none⟩ = some (.slice (some ⟨gs, 0, none⟩) A.store.length cst) := a0'
    have k2 : (x.upto : Int) ≤ (cst : Int) := by omega
    have hint : IntsIn (fun _ => True) w (.slice (if cst = x.fr then some ⟨gs, 0, none⟩ else some ⟨gs, x.fr, none⟩) (x.upto - x.fr) (cst - x.fr)) c := ⟨_, cst - x.fr, by rw [hcl], by omega, (fun h => by split at h <;> cases h), fun i y hy => ⟨gs, x.fr, (by
      have hil := (List.getElem?_eq_some_iff.1 hy).1
      rw [if_neg (by omega)]), heap_lt hgs, trivial, by
      refine mx_at HM.out.store (j := x.fr + i) ?_
      rw [List.getElem?_map]
      have h1 : A.store[x.fr + i]? = some y := by
        rw [← HCX.out, List.getElem?_take] at hy
        split at hy
        · rwa [List.getElem?_drop] at hy
        · cases hy
      rw [h1]
      rfl⟩⟩
    have HINT := Lib.hid hint
    have HCL := Lib.hid hcl
    clear a0' hint hgs HBN HC hcl
    refine wp_region_held_drew (S := fun w' => w'.cell? ⟨b, 0, none⟩ = some (.slice (some ⟨gs, 0, none⟩) A.store.length cst) ∧ w'.cell? ⟨w1.heap.size, 0, none⟩ = some (.int .i64 (x.fr : Nat)) ∧ w'.cell? ⟨w1.heap.size, 1, none⟩ = some (.int .i64 (x.upto : Nat))) (by kernel_rfl) ⟨a0, t0, t1⟩ (fun hHeld => ?_)
    obtain ⟨wD, hwD⟩ : ∃ x, wb.drew = x := ⟨_, rfl⟩
    have hbD : Below wb.heap.size wb wD := by rw [← hwD]; exact mx_drew wb
    rw [hwD] at hHeld ⊢
    have HBD := Lib.hid (HBB.out.trans (hbD.mono HBB.out.size))
    have hzD := hbD.size
    clear hwD hbD a0 t0 t1
    refine takeD 0 17 (v := ?_) rfl (by rfl) (by kernel_rfl) (by kernel_rfl) (by kernel_rfl) (fun _ _ _ h => h) (Or.inl ⟨by rfl, ?_⟩) (by assumption) ?_
    rotate_left
    · intro w hSw
      obtain ⟨_, _, _⟩ := hSw
      go_simp
      try with_reducible rfl
    simp only [Act.put, List.setIfInBounds_toArray, List.set_cons_zero, List.set_cons_succ]
    refine takeD 1 18 (v := ?_) rfl (by rfl) (by kernel_rfl) (by kernel_rfl) (by kernel_rfl) (fun _ _ _ h => h) (Or.inl ⟨by rfl, ?_⟩) (by assumption) ?_
    rotate_left
    · intro w hSw
      obtain ⟨_, _, _⟩ := hSw
      go_simp
      try with_reducible rfl
    simp only [Act.put, List.setIfInBounds_toArray, List.set_cons_zero, List.set_cons_succ]
    refine takeD 2 19 (v := ?_) rfl (by rfl) (by kernel_rfl) (by kernel_rfl) (by kernel_rfl) (fun _ _ _ h => h) (Or.inl ⟨by rfl, ?_⟩) (by assumption) ?_
    rotate_left
    · intro w hSw
      obtain ⟨_, _, _⟩ := hSw
      go_simp
      try with_reducible rfl
    simp only [Act.put, List.setIfInBounds_toArray, List.set_cons_zero, List.set_cons_succ]
    refine takeD 3 20 (v := ?_) rfl (by rfl) (by kernel_rfl) (by kernel_rfl) (by kernel_rfl) (fun _ _ _ h => h) (Or.inl ⟨by rfl, ?_⟩) (by assumption) ?_
    rotate_left
    · intro w hSw
      obtain ⟨_, _, _⟩ := hSw
      go_simp
      try with_reducible rfl
    simp only [Act.put, List.setIfInBounds_toArray, List.set_cons_zero, List.set_cons_succ]
    refine takeD 4 21 (v := ?_) rfl (by rfl) (by kernel_rfl) (by kernel_rfl) (by kernel_rfl) (fun _ _ _ h => h) (Or.inl ⟨by rfl, ?_⟩) (by assumption) ?_
    rotate_left
    · intro w hSw
      obtain ⟨_, _, _⟩ := hSw
      go_simp
      try with_reducible rfl
    simp only [Act.put, List.setIfInBounds_toArray, List.set_cons_zero, List.set_cons_succ]
    refine takeD 5 22 (v := ?_) rfl (by rfl) (by kernel_rfl) (by kernel_rfl) (by kernel_rfl) (fun _ _ _ h => h) (Or.inl ⟨by rfl, ?_⟩) (by assumption) ?_
    rotate_left
    · intro w hSw
      obtain ⟨_, _, _⟩ := hSw
      go_simp
      try with_reducible rfl
    simp only [Act.put, List.setIfInBounds_toArray, List.set_cons_zero, List.set_cons_succ]
    refine takeD 6 23 (v := ?_) rfl (by rfl) (by kernel_rfl) (by kernel_rfl) (by kernel_rfl) (fun _ _ _ h => h) (Or.inl ⟨by rfl, ?_⟩) (by assumption) ?_
    rotate_left
    · intro w hSw
      obtain ⟨_, _, _⟩ := hSw
      go_simp
      try with_reducible rfl
    simp only [Act.put, List.setIfInBounds_toArray, List.set_cons_zero, List.set_cons_succ]
    refine takeD 7 24 (v := ?_) rfl (by rfl) (by kernel_rfl) (by kernel_rfl) (by kernel_rfl) (fun _ _ _ h => h) (Or.inl ⟨by rfl, ?_⟩) (by assumption) ?_
    rotate_left
    · intro w hSw
      obtain ⟨_, _, _⟩ := hSw
      go_simp
      try with_reducible rfl
    simp only [Act.put, List.setIfInBounds_toArray, List.set_cons_zero, List.set_cons_succ]
    refine takeD 8 25 (v := ?_) rfl (by rfl) (by kernel_rfl) (by kernel_rfl) (by kernel_rfl) (fun _ _ _ h => h) (Or.inl ⟨by rfl, ?_⟩) (by assumption) ?_
    rotate_left
    · intro w hSw
      obtain ⟨_, _, _⟩ := hSw
      go_simp
      try with_reducible rfl
    simp only [Act.put, List.setIfInBounds_toArray, List.set_cons_zero, List.set_cons_succ]
    refine takeD 9 26 (v := ?_) rfl (by rfl) (by kernel_rfl) (by kernel_rfl) (by kernel_rfl) (fun _ _ _ h => h) (Or.inl ⟨by rfl, ?_⟩) (by assumption) ?_
    rotate_left
    · intro w hSw
      obtain ⟨_, _, _⟩ := hSw
      go_simp
      try with_reducible rfl
    simp only [Act.put, List.setIfInBounds_toArray, List.set_cons_zero, List.set_cons_succ]
    refine takeD 10 27 (v := ?_) rfl (by rfl) (by kernel_rfl) (by kernel_rfl) (by kernel_rfl) (fun _ _ _ h => h) (Or.inl ⟨by rfl, ?_⟩) (by assumption) ?_
    rotate_left
    · intro w hSw
      obtain ⟨_, _, _⟩ := hSw
      go_simp
      try with_reducible rfl
    simp only [Act.put, List.setIfInBounds_toArray, List.set_cons_zero, List.set_cons_succ]
    obtain ⟨AA, hAA⟩ : ∃ z, (if cst = x.fr then some (⟨gs, 0, none⟩ : Addr) else some ⟨gs, x.fr, none⟩) = z := ⟨_, rfl⟩
    rw [hAA] at HINT ⊢
    clear hAA
    refine wpAnyH_ready (rs := [11]) (by kernel_rfl) (by simp) ?_
    refine AllReadyH.cons rfl (fun K hK => ?_) AllReadyH.nil
    go_simp
    refine (clone_l _ c wD (HINT.out.below HBD.out) (by have := HCL.out; omega)).mono ?_
    rintro e wE ⟨cv, rfl, hoc, hbE⟩
    obtain ⟨Ac, cc, hcv, _⟩ := mx_slice hoc
    subst hcv
    have hzE := hbE.size
    have hzB := HBB.out.size
    have HOC := Lib.hid (own_mono (base' := w.heap.size) hoc (by omega))
    have HBE := Lib.hid (HBD.out.trans (hbE.mono HBD.out.size))
    refine hK.out _ _ ⟨(hbE.cell (p := ⟨b, 0, none⟩) (by show b < _; omega)).trans hHeld.1, (hbE.cell (p := ⟨w1.heap.size, 0, none⟩) (by show w1.heap.size < _; omega)).trans hHeld.2.1, (hbE.cell (p := ⟨w1.heap.size, 1, none⟩) (by show w1.heap.size < _; omega)).trans hHeld.2.2⟩ (fun hHeld1 => ?_)
    clear hK hHeld hoc hbE
    have hHeld := hHeld1
    clear hHeld1
    refine takeD 12 4 (v := ?_) rfl (by rfl) (by kernel_rfl) (by kernel_rfl) (by kernel_rfl) (fun _ _ _ h => h) (Or.inl ⟨by rfl, ?_⟩) (by assumption) ?_
    rotate_left
    · intro w hSw
      obtain ⟨_, _, _⟩ := hSw
      go_simp
      try with_reducible rfl
    simp only [Act.put, List.setIfInBounds_toArray, List.set_cons_zero, List.set_cons_succ]
    refine takeD 13 5 (v := ?_) rfl (by rfl) (by kernel_rfl) (by kernel_rfl) (by kernel_rfl) (fun _ _ _ h => h) (Or.inl ⟨by rfl, ?_⟩) (by assumption) ?_
    rotate_left
    · intro w hSw
      obtain ⟨_, _, _⟩ := hSw
      go_simp
      try with_reducible rfl
    simp only [Act.put, List.setIfInBounds_toArray, List.set_cons_zero, List.set_cons_succ]
    refine wpAnyH_done (by kernel_rfl) ?_ _
    clear hHeld
    go_wp2_with fail
    go_ret2
    exact ⟨_, rfl, HOC.out, HBE.out⟩
end Go.Proofs.Ytiodfolcnnkdjaa
