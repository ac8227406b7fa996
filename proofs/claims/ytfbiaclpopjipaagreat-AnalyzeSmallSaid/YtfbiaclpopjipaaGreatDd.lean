/- The references of layer 14: Right, fails, greatest, Level. -/
import Derived.Test.YtfbiaclpopjipaaGreatDc
namespace Go.Proofs.YtfbiaclpopjipaaGreat
open Go.RowKit

theorem rP_var {its : List RIt} {v : Int} {p : Nat} {x : RIt} (h : rP its v = p) (hx : its[p]? = some x) : 0 < v ∧ (litV x.lit : Int) = v := by
  have key : ∀ (l : List RIt) (i j : Nat), rPl l v i = (i + j : Nat) → ∀ x, l[j]? = some x → 0 < v ∧ (litV x.lit : Int) = v := by
    intro l
    induction l with
    | nil => intro i j _ x hx; simp at hx
    | cons y l ih =>
      intro i j hj x hx
      unfold rPl at hj
      split at hj
      · rename_i hc
        obtain rfl : j = 0 := by omega
        obtain rfl : y = x := by simpa using hx
        exact hc
      · cases j with
        | zero =>
          have := rPl_ge l v (i + 1)
          omega
        | succ j => exact ih (i + 1) j (by rw [hj]; congr 1; omega) x (by simpa using hx)
  exact key its 0 p (by rw [Nat.zero_add]; exact h) x hx
theorem litV_negate (l : Int) : litV (-l) = litV l := by
  have h : litB (-l) = litB l := by
    unfold litB
    exact decide_eq_decide.2 (by omega)
  unfold litV
  rw [h, Int.natAbs_neg]
theorem litV_lit {l : Int} (h : 0 < litV l) : -1048576 ≤ l ∧ l ≤ 1048576 := by
  unfold litV at h
  split at h
  · rename_i hb
    have := (litB_iff l).1 hb
    omega
  · omega
def rRight (all : List REn) (its : List RIt) (v : Int) : Bool := if rP its v < 0 then false else match its[(rP its v).toNat]? with
  | some x => (rReason all its (-x.lit)).isSome
  | none => false
set_option maxRecDepth 100000 in
set_option maxHeartbeats 2000000 in
theorem ref_right14 (v : Int) (a : RAr) (t : RTr) (av tv : Value) (w : World) (ha : RAAt w av a) (h : RTAt w tv t) (hao : a.Ok) (ho : t.Ok) :
    Calls Tryz.prog 29 #[av, tv, .int .i64 v] w fun e w' => e = .returned (.bool (rRight a.all t.items v)) ∧ Below w.heap.size w w' := by
  have hlen := ho.len
  have HOK := Lib.hid ho
  have HAO := Lib.hid hao
  obtain ⟨res, hres⟩ : ∃ r, rRight a.all t.items v = r := ⟨_, rfl⟩
  rw [hres]
  obtain ⟨p, hp⟩ : ∃ p, rP t.items v = p := ⟨_, rfl⟩
  have HP := Lib.hid (fun (w : World) tv (h : RTAt w tv t) => hp ▸ ref_place v t tv w h ho)
  have hpl := rP_lt t.items v
  rw [hp] at hpl
  obtain ⟨ev, rfl, he⟩ := ha
  obtain ⟨iv, sv, rfl, hi, hs⟩ := h
  obtain ⟨wa, hwa, hba, hb0, hb1⟩ := rbox2 w #[ev, .int .i64 a.last] #[.int .i64 t.vars, .int .i64 t.now, iv, sv] 58 61
  have HE := Lib.hid (he.below hba)
  have HI := Lib.hid (hi.below hba)
  have HT := Lib.hid (show RTAt wa (.agg #[.int .i64 t.vars, .int .i64 t.now, iv, sv]) t from ⟨iv, sv, rfl, hi.below hba, hs.below hba⟩)
  have HA := Lib.hid (show RAAt wa (.agg #[ev, .int .i64 a.last]) a from ⟨ev, rfl, he.below hba⟩)
  have HBA := Lib.hid hba
  have HWA := Lib.hid hwa
  have hz0 := heap_lt hb0
  have hz1 := heap_lt hb1
  have A0 := Lib.hid (mx_cell (j := 0) hb0)
  have A1 := Lib.hid (mx_cell (j := 1) hb0)
  have B0 := Lib.hid (mx_cell (j := 0) hb1)
  have B1 := Lib.hid (mx_cell (j := 1) hb1)
  have B2 := Lib.hid (mx_cell (j := 2) hb1)
  have B3 := Lib.hid (mx_cell (j := 3) hb1)
  clear hwa hba hb0 hb1 hs
  by_cases hp0 : p < 0
  · have HN := Lib.hid (show res = false from by rw [← hres]; exact if_pos (by rw [hp]; exact hp0))
    have q0 : decide (p < 0) = true := by simpa using hp0
    clear hres hp0 hp hpl hi
    go_enter Tryz.func29, Tryz.ntmps29
    go_upto_region 1 with fail
    rw [HWA.out]
    have b0 := ((Below.refl wa.heap.size wa).cell (p := ⟨w.heap.size + 1, 0, none⟩) hz1).trans B0.out
    have b1 := ((Below.refl wa.heap.size wa).cell (p := ⟨w.heap.size + 1, 1, none⟩) hz1).trans B1.out
    have b2 := ((Below.refl wa.heap.size wa).cell (p := ⟨w.heap.size + 1, 2, none⟩) hz1).trans B2.out
    have b3 := ((Below.refl wa.heap.size wa).cell (p := ⟨w.heap.size + 1, 3, none⟩) hz1).trans B3.out
    go_wp2_with fail
    refine (HP.out _ _ HT.out).mono ?_
    rintro e w2 ⟨rfl, hb⟩
    have HB2 := Lib.hid hb
    clear hb
    go_wp2_with fail
    go_ret
    exact ⟨by rw [HN.out]; rfl, HBA.out.trans (HB2.out.mono HBA.out.size)⟩
  · have q0 : decide (p < 0) = false := by simpa using hp0
    obtain ⟨p, rfl⟩ : ∃ q : Nat, p = q := ⟨_, (Int.toNat_of_nonneg (by omega)).symm⟩
    have hplt : p < t.items.length := by omega
    obtain ⟨x, hx⟩ := getElem_of hplt
    obtain ⟨hv0, hvx⟩ := rP_var hp hx
    have hxr := litV_lit (l := x.lit) (by omega)
    have hn : rP t.items (litV (-x.lit) : Nat) = p := by rw [litV_negate, hvx, hp]
    have HN := Lib.hid (show res = (rReason a.all t.items (-x.lit)).isSome from by rw [← hres]; unfold rRight; rw [hp, if_neg hp0, Int.toNat_natCast, hx])
    have w1 : IntKind.i64.wrap (-x.lit) = -x.lit := IntWalk.i64_in _ (by omega)
    have HRE := Lib.hid (fun (w : World) av tv (ha : RAAt w av a) (h : RTAt w tv t) => ref_reason (-x.lit) a t av tv w ha h HAO.out HOK.out (by omega) (by omega) (by rw [hn]; omega))
    obtain ⟨g, o, c, rfl, hlc, hg, d0, d1, d2⟩ := HI.out.item hx
    have D0 := Lib.hid d0
    have hpc : p < c := by omega
    obtain ⟨xl, hxl⟩ : ∃ z, x.lit = z := ⟨_, rfl⟩
    rw [hxl] at HN w1 HRE D0
    clear hres hp0 hp hpl hi d0 d1 d2 hx hn hvx hv0 hxr hxl
    go_enter Tryz.func29, Tryz.ntmps29
    go_upto_region 1 with fail
    rw [HWA.out]
    have b0 := ((Below.refl wa.heap.size wa).cell (p := ⟨w.heap.size + 1, 0, none⟩) hz1).trans B0.out
    have b1 := ((Below.refl wa.heap.size wa).cell (p := ⟨w.heap.size + 1, 1, none⟩) hz1).trans B1.out
    have b2 := ((Below.refl wa.heap.size wa).cell (p := ⟨w.heap.size + 1, 2, none⟩) hz1).trans B2.out
    have b3 := ((Below.refl wa.heap.size wa).cell (p := ⟨w.heap.size + 1, 3, none⟩) hz1).trans B3.out
    go_wp2_with fail
    refine (HP.out _ _ HT.out).mono ?_
    rintro e w2 ⟨rfl, hb⟩
    have HB2 := Lib.hid hb
    have HT2 := Lib.hid (HT.out.below hb)
    have HA2 := Lib.hid (HA.out.below hb)
    clear hb b0 b1 b2 b3
    have a0 := (HB2.out.cell (p := ⟨w.heap.size, 0, none⟩) hz0).trans A0.out
    have a1 := (HB2.out.cell (p := ⟨w.heap.size, 1, none⟩) hz0).trans A1.out
    have b0 := (HB2.out.cell (p := ⟨w.heap.size + 1, 0, none⟩) hz1).trans B0.out
    have b1 := (HB2.out.cell (p := ⟨w.heap.size + 1, 1, none⟩) hz1).trans B1.out
    have b2 := (HB2.out.cell (p := ⟨w.heap.size + 1, 2, none⟩) hz1).trans B2.out
    have b3 := (HB2.out.cell (p := ⟨w.heap.size + 1, 3, none⟩) hz1).trans B3.out
    have hz20 := Nat.lt_of_lt_of_le hz0 HB2.out.size
    have hz21 := Nat.lt_of_lt_of_le hz1 HB2.out.size
    have hg2 := Nat.lt_of_lt_of_le hg HB2.out.size
    have PA0 := Lib.hid a0
    have PA1 := Lib.hid a1
    have PB0 := Lib.hid b0
    have PB1 := Lib.hid b1
    have PB2 := Lib.hid b2
    have PB3 := Lib.hid b3
    have PD := Lib.hid ((HB2.out.cell (p := ⟨g, o + p * 3, none⟩) hg).trans D0.out)
    clear a0 a1 b0 b1 b2 b3
    go_upto_region 4 with fail
    refine wp_region_held_drew (S := fun w' => Below w2.heap.size w2 w') (by kernel_rfl) (mx_drew w2) (fun hS => ?_)
    refine takeD 0 17 (v := ?_) rfl (by rfl) (by kernel_rfl) (by kernel_rfl) (by kernel_rfl) (fun _ _ _ h => h) (Or.inl ⟨by rfl, ?_⟩) (by assumption) ?_
    rotate_left
    · intro wq hSw
      have k0 := (hSw.cell (p := ⟨w.heap.size, 0, none⟩) hz20).trans PA0.out
      have k1 := (hSw.cell (p := ⟨w.heap.size, 1, none⟩) hz20).trans PA1.out
      clear hSw
      go_simp
      try with_reducible rfl
    simp only [Act.put, List.setIfInBounds_toArray, List.set_cons_zero, List.set_cons_succ]
    refine takeD 1 18 (v := ?_) rfl (by rfl) (by kernel_rfl) (by kernel_rfl) (by kernel_rfl) (fun _ _ _ h => h) (Or.inl ⟨by rfl, ?_⟩) (by assumption) ?_
    rotate_left
    · intro wq hSw
      have k0 := (hSw.cell (p := ⟨w.heap.size + 1, 0, none⟩) hz21).trans PB0.out
      have k1 := (hSw.cell (p := ⟨w.heap.size + 1, 1, none⟩) hz21).trans PB1.out
      have k2 := (hSw.cell (p := ⟨w.heap.size + 1, 2, none⟩) hz21).trans PB2.out
      have k3 := (hSw.cell (p := ⟨w.heap.size + 1, 3, none⟩) hz21).trans PB3.out
      clear hSw
      go_simp
      try with_reducible rfl
    simp only [Act.put, List.setIfInBounds_toArray, List.set_cons_zero, List.set_cons_succ]
    refine takeD 2 19 (v := ?_) rfl (by rfl) (by kernel_rfl) (by kernel_rfl) (by kernel_rfl) (fun _ _ _ h => h) (Or.inl ⟨by rfl, ?_⟩) (by assumption) ?_
    rotate_left
    · intro wq hSw
      clear hSw
      go_simp
      try with_reducible rfl
    simp only [Act.put, List.setIfInBounds_toArray, List.set_cons_zero, List.set_cons_succ]
    refine takeD 3 20 (v := ?_) rfl (by rfl) (by kernel_rfl) (by kernel_rfl) (by kernel_rfl) (fun _ _ _ h => h) (Or.inl ⟨by rfl, ?_⟩) (by assumption) ?_
    rotate_left
    · intro wq hSw
      have k0 := (hSw.cell (p := ⟨w.heap.size + 1, 2, none⟩) hz21).trans PB2.out
      clear hSw
      go_simp
      try with_reducible rfl
    simp only [Act.put, List.setIfInBounds_toArray, List.set_cons_zero, List.set_cons_succ]
    refine takeD 4 21 (v := ?_) rfl (by rfl) (by kernel_rfl) (by kernel_rfl) (by kernel_rfl) (fun _ _ _ h => h) (Or.inl ⟨by rfl, ?_⟩) (by assumption) ?_
    rotate_left
    · intro wq hSw
      clear hSw
      go_simp
      try with_reducible rfl
    simp only [Act.put, List.setIfInBounds_toArray, List.set_cons_zero, List.set_cons_succ]
    refine takeD 5 22 (v := ?_) rfl (by rfl) (by kernel_rfl) (by kernel_rfl) (by kernel_rfl) (fun _ _ _ h => h) (Or.inl ⟨by rfl, ?_⟩) (by assumption) ?_
    rotate_left
    · intro wq hSw
      clear hSw
      go_simp
      try with_reducible rfl
    simp only [Act.put, List.setIfInBounds_toArray, List.set_cons_zero, List.set_cons_succ]
    refine takeD 6 23 (v := ?_) rfl (by rfl) (by kernel_rfl) (by kernel_rfl) (by kernel_rfl) (fun _ _ _ h => h) (Or.inl ⟨by rfl, ?_⟩) (by assumption) ?_
    rotate_left
    · intro wq hSw
      clear hSw
      go_simp
      try with_reducible rfl
    simp only [Act.put, List.setIfInBounds_toArray, List.set_cons_zero, List.set_cons_succ]
    refine takeD 7 24 (v := ?_) rfl (by rfl) (by kernel_rfl) (by kernel_rfl) (by kernel_rfl) (fun _ _ _ h => h) (Or.inl ⟨by rfl, ?_⟩) (by assumption) ?_
    rotate_left
    · intro wq hSw
      have k0 := (hSw.cell (p := ⟨g, o + p * 3, none⟩) hg2).trans PD.out
      clear hSw
      go_simp
      try with_reducible rfl
    simp only [Act.put, List.setIfInBounds_toArray, List.set_cons_zero, List.set_cons_succ]
    refine takeD 8 25 (v := ?_) rfl (by rfl) (by kernel_rfl) (by kernel_rfl) (by kernel_rfl) (fun _ _ _ h => h) (Or.inl ⟨by rfl, ?_⟩) (by assumption) ?_
    rotate_left
    · intro wq hSw
      clear hSw
      go_simp
      try with_reducible rfl
    simp only [Act.put, List.setIfInBounds_toArray, List.set_cons_zero, List.set_cons_succ]
    refine wpAnyH_ready (rs := [9]) (by kernel_rfl) (by simp) ?_
    refine AllReadyH.cons rfl (fun K hK => ?_) AllReadyH.nil
    go_simp
    refine (HRE.out _ _ _ (HA2.out.below hS) (HT2.out.below hS)).mono ?_
    rintro e w3 ⟨hor, hbN⟩
    have hSN := hS.trans (hbN.mono hS.size)
    have HLAST := Lib.hid (HBA.out.trans ((HB2.out.trans (hSN.mono HB2.out.size)).mono HBA.out.size))
    clear hbN
    rcases hor with ⟨v', r, id, hr, rfl, hown, _⟩ | ⟨hr, rfl⟩
    · have HR := Lib.hid (show res = true from by rw [HN.out, hr]; rfl)
      clear hr hown
      refine hK.out _ _ hSN (fun _ => ?_)
      clear hK hS
      have hS := hSN
      refine takeD 10 16 (v := ?_) rfl (by rfl) (by kernel_rfl) (by kernel_rfl) (by kernel_rfl) (fun _ _ _ h => h) (Or.inl ⟨by rfl, ?_⟩) (by assumption) ?_
      rotate_left
      · intro wq hSw
        clear hSw
        go_simp
        try with_reducible rfl
      simp only [Act.put, List.setIfInBounds_toArray, List.set_cons_zero, List.set_cons_succ]
      refine takeD 11 27 (v := ?_) rfl (by rfl) (by kernel_rfl) (by kernel_rfl) (by kernel_rfl) (fun _ _ _ h => h) (Or.inl ⟨by rfl, ?_⟩) (by assumption) ?_
      rotate_left
      · intro wq hSw
        clear hSw
        go_simp
        try with_reducible rfl
      simp only [Act.put, List.setIfInBounds_toArray, List.set_cons_zero, List.set_cons_succ]
      refine takeD 12 28 (v := ?_) rfl (by rfl) (by kernel_rfl) (by kernel_rfl) (by kernel_rfl) (fun _ _ _ h => h) (Or.inl ⟨by rfl, ?_⟩) (by assumption) ?_
      rotate_left
      · intro wq hSw
        clear hSw
        go_simp
        try with_reducible rfl
      simp only [Act.put, List.setIfInBounds_toArray, List.set_cons_zero, List.set_cons_succ]
      refine takeD 13 29 (v := ?_) rfl (by rfl) (by kernel_rfl) (by kernel_rfl) (by kernel_rfl) (fun _ _ _ h => h) (Or.inl ⟨by rfl, ?_⟩) (by assumption) ?_
      rotate_left
      · intro wq hSw
        clear hSw
        go_simp
        try with_reducible rfl
      simp only [Act.put, List.setIfInBounds_toArray, List.set_cons_zero, List.set_cons_succ]
      refine takeD 14 8 (v := ?_) rfl (by rfl) (by kernel_rfl) (by kernel_rfl) (by kernel_rfl) (fun _ _ _ h => h) (Or.inl ⟨by rfl, ?_⟩) (by assumption) ?_
      rotate_left
      · intro wq hSw
        clear hSw
        go_simp
        try with_reducible rfl
      simp only [Act.put, List.setIfInBounds_toArray, List.set_cons_zero, List.set_cons_succ]
      refine takeD 15 9 (v := ?_) rfl (by rfl) (by kernel_rfl) (by kernel_rfl) (by kernel_rfl) (fun _ _ _ h => h) (Or.inl ⟨by rfl, ?_⟩) (by assumption) ?_
      rotate_left
      · intro wq hSw
        clear hSw
        go_simp
        try with_reducible rfl
      simp only [Act.put, List.setIfInBounds_toArray, List.set_cons_zero, List.set_cons_succ]
      refine takeD 16 10 (v := ?_) rfl (by rfl) (by kernel_rfl) (by kernel_rfl) (by kernel_rfl) (fun _ _ _ h => h) (Or.inl ⟨by rfl, ?_⟩) (by assumption) ?_
      rotate_left
      · intro wq hSw
        clear hSw
        go_simp
        try with_reducible rfl
      simp only [Act.put, List.setIfInBounds_toArray, List.set_cons_zero, List.set_cons_succ]
      refine wpAnyH_done (by kernel_rfl) ?_ _
      go_wp2_with fail
      go_ret
      exact ⟨by rw [HR.out]; rfl, HLAST.out⟩
    · have HR := Lib.hid (show res = false from by rw [HN.out, hr]; rfl)
      clear hr
      refine hK.out _ _ hSN (fun _ => ?_)
      clear hK hS
      have hS := hSN
      refine takeD 10 16 (v := ?_) rfl (by rfl) (by kernel_rfl) (by kernel_rfl) (by kernel_rfl) (fun _ _ _ h => h) (Or.inl ⟨by rfl, ?_⟩) (by assumption) ?_
      rotate_left
      · intro wq hSw
        clear hSw
        go_simp
        try with_reducible rfl
      simp only [Act.put, List.setIfInBounds_toArray, List.set_cons_zero, List.set_cons_succ]
      refine takeD 11 27 (v := ?_) rfl (by rfl) (by kernel_rfl) (by kernel_rfl) (by kernel_rfl) (fun _ _ _ h => h) (Or.inl ⟨by rfl, ?_⟩) (by assumption) ?_
      rotate_left
      · intro wq hSw
        clear hSw
        go_simp
        try with_reducible rfl
      simp only [Act.put, List.setIfInBounds_toArray, List.set_cons_zero, List.set_cons_succ]
      refine takeD 12 28 (v := ?_) rfl (by rfl) (by kernel_rfl) (by kernel_rfl) (by kernel_rfl) (fun _ _ _ h => h) (Or.inl ⟨by rfl, ?_⟩) (by assumption) ?_
      rotate_left
      · intro wq hSw
        clear hSw
        go_simp
        try with_reducible rfl
      simp only [Act.put, List.setIfInBounds_toArray, List.set_cons_zero, List.set_cons_succ]
      refine takeD 13 29 (v := ?_) rfl (by rfl) (by kernel_rfl) (by kernel_rfl) (by kernel_rfl) (fun _ _ _ h => h) (Or.inl ⟨by rfl, ?_⟩) (by assumption) ?_
      rotate_left
      · intro wq hSw
        clear hSw
        go_simp
        try with_reducible rfl
      simp only [Act.put, List.setIfInBounds_toArray, List.set_cons_zero, List.set_cons_succ]
      refine takeD 14 8 (v := ?_) rfl (by rfl) (by kernel_rfl) (by kernel_rfl) (by kernel_rfl) (fun _ _ _ h => h) (Or.inl ⟨by rfl, ?_⟩) (by assumption) ?_
      rotate_left
      · intro wq hSw
        clear hSw
        go_simp
        try with_reducible rfl
      simp only [Act.put, List.setIfInBounds_toArray, List.set_cons_zero, List.set_cons_succ]
      refine takeD 15 9 (v := ?_) rfl (by rfl) (by kernel_rfl) (by kernel_rfl) (by kernel_rfl) (fun _ _ _ h => h) (Or.inl ⟨by rfl, ?_⟩) (by assumption) ?_
      rotate_left
      · intro wq hSw
        clear hSw
        go_simp
        try with_reducible rfl
      simp only [Act.put, List.setIfInBounds_toArray, List.set_cons_zero, List.set_cons_succ]
      refine takeD 16 10 (v := ?_) rfl (by rfl) (by kernel_rfl) (by kernel_rfl) (by kernel_rfl) (fun _ _ _ h => h) (Or.inl ⟨by rfl, ?_⟩) (by assumption) ?_
      rotate_left
      · intro wq hSw
        clear hSw
        go_simp
        try with_reducible rfl
      simp only [Act.put, List.setIfInBounds_toArray, List.set_cons_zero, List.set_cons_succ]
      refine wpAnyH_done (by kernel_rfl) ?_ _
      go_wp2_with fail
      go_ret
      exact ⟨by rw [HR.out]; rfl, HLAST.out⟩
/-- the literals of a clause that fails, each once -/
def rFails (its : List RIt) : List Int → List Int → Option (List Int)
  | acc, [] => some acc
  | acc, x :: c => if 0 ≤ rVl its x then none else rFails its (if acc.contains x = true then acc else acc ++ [x]) c
theorem rFails_len (its : List RIt) (acc c r : List Int) (h : rFails its acc c = some r) : r.length ≤ acc.length + c.length := by
  induction c generalizing acc with
  | nil =>
    obtain rfl := Option.some.inj h
    exact Nat.le_add_right _ _
  | cons x c ih =>
    unfold rFails at h
    simp only [List.length_cons]
    split at h
    · cases h
    · have := ih _ h
      split at this
      · omega
      · simp only [List.length_append, List.length_cons, List.length_nil] at this
        omega
/-- what fails returns: literals, or the number of the error -/
def rFailsAt (all : List REn) (its : List RIt) (id : Int) : List Int × Int :=
  if rFind all id < 0 then ([], 30) else match all[(rFind all id).toNat]? with
  | some e => match rFails its [] e.lits with
    | some l => (l, 0)
    | none => ([], 140)
  | none => ([], 30)
set_option maxRecDepth 100000 in
set_option maxHeartbeats 4000000 in
theorem ref_fails14 (id : Int) (a : RAr) (t : RTr) (av tv : Value) (w : World) (ha : RAAt w av a) (h : RTAt w tv t) (hao : a.Ok) (ho : t.Ok) :
    Calls Tryz.prog 56 #[av, tv, .int .i64 id] w fun e w' => (∃ v, e = .returned (.tuple #[v, .int .i64 (rFailsAt a.all t.items id).2]) ∧ w'.ownsRow w.heap.size 3 1 v (rFailsAt a.all t.items id).1.length ((rFailsAt a.all t.items id).1.map (Value.int .i64)) ∧ (rFailsAt a.all t.items id).1.length ≤ 4096) ∧ Below w.heap.size w w' := by
  obtain ⟨i0, hi0, hi1, hi2, hi3⟩ := info_parts tinfo_int
  have hlen := ho.len
  have hlena := hao.len
  have HOK := Lib.hid ho
  obtain ⟨res, hres⟩ : ∃ r, rFailsAt a.all t.items id = r := ⟨_, rfl⟩
  rw [hres]
  have HF := Lib.hid (fun (w : World) av (h : RAAt w av a) => ref_find id a av w h hlena)
  obtain ⟨fi, hfi⟩ : ∃ f, rFind a.all id = f := ⟨_, rfl⟩
  have hflt := rFind_lt a.all id
  unfold rFailsAt at hres
  rw [hfi] at HF hres hflt
  have HRS := Lib.hid hres
  clear hres hfi
  obtain ⟨ev, rfl, he⟩ := ha
  obtain ⟨iv, sv, rfl, hi, hs⟩ := h
  obtain ⟨wa, hwa, hba, hb0, hb1⟩ := rbox2 w #[ev, .int .i64 a.last] #[.int .i64 t.vars, .int .i64 t.now, iv, sv] 58 61
  have HE := Lib.hid (he.below hba)
  have HI := Lib.hid (hi.below hba)
  have HT := Lib.hid (show RTAt wa (.agg #[.int .i64 t.vars, .int .i64 t.now, iv, sv]) t from ⟨iv, sv, rfl, hi.below hba, hs.below hba⟩)
  have HA := Lib.hid (show RAAt wa (.agg #[ev, .int .i64 a.last]) a from ⟨ev, rfl, he.below hba⟩)
  have HBA := Lib.hid hba
  have HWA := Lib.hid hwa
  have hz0 := heap_lt hb0
  have hz1 := heap_lt hb1
  have A0 := Lib.hid (mx_cell (j := 0) hb0)
  have A1 := Lib.hid (mx_cell (j := 1) hb0)
  have B0 := Lib.hid (mx_cell (j := 0) hb1)
  have B1 := Lib.hid (mx_cell (j := 1) hb1)
  have B2 := Lib.hid (mx_cell (j := 2) hb1)
  have B3 := Lib.hid (mx_cell (j := 3) hb1)
  clear hwa hba hb0 hb1 hs
  clear hi
  go_enter Tryz.func56, Tryz.ntmps56
  go_upto_region 1 with fail
  rw [HWA.out]
  have a0 := ((Below.refl wa.heap.size wa).cell (p := ⟨w.heap.size, 0, none⟩) hz0).trans A0.out
  have a1 := ((Below.refl wa.heap.size wa).cell (p := ⟨w.heap.size, 1, none⟩) hz0).trans A1.out
  go_wp2_with fail
  refine (HF.out _ _ HA.out).mono ?_
  rintro e w2 ⟨rfl, hb⟩
  have HB2 := Lib.hid hb
  clear hb a0 a1
  by_cases hf0 : fi < 0
  · have q0 : decide (fi < 0) = true := by simpa using hf0
    have HN := Lib.hid (show res = ([], 30) from by rw [← HRS.out]; exact if_pos hf0)
    clear hf0 hflt
    go_wp2_with fail
    go_ret2
    exact ⟨⟨_, by rw [HN.out]; rfl, by rw [HN.out]; exact World.ownsRow_nil _ _ _ _, by rw [HN.out]; exact Nat.zero_le _⟩, HBA.out.trans (HB2.out.mono HBA.out.size)⟩
  · have q0 : decide (fi < 0) = false := by simpa using hf0
    obtain ⟨f, rfl⟩ : ∃ f : Nat, fi = f := ⟨_, (Int.toNat_of_nonneg (by omega)).symm⟩
    have hfl : f < a.all.length := by omega
    obtain ⟨en, hen⟩ := getElem_of hfl
    have hrs := HRS.out
    rw [if_neg hf0, Int.toNat_natCast, hen] at hrs
    simp only at hrs
    obtain ⟨g2, o2, c2, u, rfl, hlc2, hg2, e0, e1, hu⟩ := HE.out.at_ hen
    have HU := Lib.hid hu
    have E1 := Lib.hid e1
    have hul : en.lits.length ≤ 4096 := hao.lits en (List.mem_of_getElem? hen)
    have hfc : f < c2 := by omega
    obtain ⟨Au, cu, rfl, _⟩ := hu
    have HRR := Lib.hid hrs
    clear hf0 hflt hen hrs e0 e1 HRS hao
    go_wp2_with fail
    go_loopw [9, 10] (fun v i wr => ∃ (k : Nat) (acc : List Int), k ≤ en.lits.length ∧ acc.length ≤ k ∧ i = .int .i64 k ∧ Hid (rFails t.items [] en.lits = rFails t.items acc (en.lits.drop k)) ∧ Hid (wr.ownsRow wa.heap.size 3 1 v acc.length (acc.map (Value.int .i64))) ∧ Hid (Below wa.heap.size wa wr)) (fun _ i _ => en.lits.length - (intOf i).toNat)
    case atStart => exact ⟨0, [], Nat.zero_le _, Nat.le_refl _, rfl, Lib.hid rfl, Lib.hid (World.ownsRow_nil _ _ _ _), HB2⟩
    case round =>
      obtain ⟨k, acc, hk, hka, rfl, HR, HV, HW⟩ := hrel
      have hzw := HW.out.size
      obtain ⟨Av, cv, rfl, _⟩ := mx_slice HV.out
      have a0 := (HW.out.cell (p := ⟨w.heap.size, 0, none⟩) hz0).trans A0.out
      have a1 := (HW.out.cell (p := ⟨w.heap.size, 1, none⟩) hz0).trans A1.out
      have b0 := (HW.out.cell (p := ⟨w.heap.size + 1, 0, none⟩) hz1).trans B0.out
      have b1 := (HW.out.cell (p := ⟨w.heap.size + 1, 1, none⟩) hz1).trans B1.out
      have b2 := (HW.out.cell (p := ⟨w.heap.size + 1, 2, none⟩) hz1).trans B2.out
      have b3 := (HW.out.cell (p := ⟨w.heap.size + 1, 3, none⟩) hz1).trans B3.out
      have e1 := (HW.out.cell (p := ⟨g2, o2 + f * 2 + 1, none⟩) hg2).trans E1.out
      by_cases hlt : k < en.lits.length
      · obtain ⟨x, hx⟩ := getElem_of hlt
        obtain ⟨A3, c3, hA3, _, _, hxs⟩ := HU.out.below HW.out
        simp only [Value.slice.injEq, true_and] at hA3
        obtain ⟨rfl, rfl⟩ := hA3
        obtain ⟨g3, o3, rfl, hg3, _, f0⟩ := hxs k x hx
        have hdr := drop_at hx
        clear hx hxs
        have HVL := Lib.hid (ref_value x t _ wr (HT.out.below HW.out) HOK.out)
        by_cases hv0 : 0 ≤ rVl t.items x
        · have q2 : decide (0 ≤ rVl t.items x) = true := by simpa using hv0
          have HN := Lib.hid (show res = ([], 140) from by
            rw [← HRR.out, HR.out, hdr]
            have e : rFails t.items acc (x :: en.lits.drop (k + 1)) = none := if_pos hv0
            rw [e])
          clear hdr hv0
          go_wp2_with fail
          refine HVL.out.mono ?_
          rintro e w4 ⟨rfl, hb⟩
          have HB4 := Lib.hid (HW.out.trans (hb.mono hzw))
          clear hb
          go_wp2_with fail
          go_ret2
          exact ⟨⟨_, by rw [HN.out]; rfl, by rw [HN.out]; exact World.ownsRow_nil _ _ _ _, by rw [HN.out]; exact Nat.zero_le _⟩, HBA.out.trans (HB4.out.mono HBA.out.size)⟩
        · have q2 : decide (0 ≤ rVl t.items x) = false := by simpa using hv0
          have HNX := Lib.hid (show rFails t.items [] en.lits = rFails t.items (if acc.contains x = true then acc else acc ++ [x]) (en.lits.drop (k + 1)) from by rw [HR.out, hdr]; exact if_neg hv0)
          clear hdr hv0
          go_wp2_with fail
          refine HVL.out.mono ?_
          rintro e w4 ⟨rfl, hb⟩
          have HB4 := Lib.hid (HW.out.trans (hb.mono hzw))
          have HV4 := Lib.hid (own_below HV.out hb)
          clear hb HVL a0 a1 b0 b1 b2 b3 e1 f0
          have HH := ref_has14 x (.slice Av acc.length cv) acc w4 (IntsIn.of_own HV4.out) (by omega)
          obtain ⟨bb, hbb⟩ : ∃ b, acc.contains x = b := ⟨_, rfl⟩
          rw [hbb] at HH HNX
          have HH := Lib.hid HH
          clear hbb
          go_wp2_with fail
          refine HH.out.mono ?_
          rintro e w' ⟨rfl, rfl⟩
          cases bb with
          | true =>
            clear HH
            go_wp2_with fail
            go_roundw
            case rel => exact ⟨k + 1, acc, by omega, by omega, by go_num, Lib.hid (HNX.out.trans (by simp)), HV4, HB4⟩
            case measure => simp [intOf]; omega
          | false =>
            clear HH
            have hz4 := HB4.out.size
            go_wp2_with (at_builtin; refine wpList_append_own_at _ rfl _ _ 36 rfl wa.heap.size 3 i0 (.int .i64 0) 1 8 Tryz.underlying36 hi0 hi1 hi2 hi3 rfl (by decide) _ acc.length _ rfl (own_below HV4.out (mx_al w4 _)) ⟨w4.heap.size, 0, none⟩ 1 1 [.int .i64 x] rfl rfl (cell_one _ _ _) (by simp [Value.oneCell']) (by unfold maxLen; omega) (by omega) (by simp; omega) ?_; intro v' w9 hown hgrow hnl hat; obtain ⟨Aw, kw, hv2, _⟩ := mx_slice hown; subst hv2; have HOWN := Lib.hid hown; have HG := Lib.hid hgrow; clear hown hgrow hnl hat)
            have hw9 : Below wa.heap.size wa w9 := (HB4.out.trans ((mx_al w4 (.cells #[.int .i64 x] 3)).mono hz4)).grown HG.out (by simp; omega) (fun g hg => (own_lt HV4.out g hg).1)
            go_roundw
            case rel => exact ⟨k + 1, acc ++ [x], by omega, by simp; omega, by go_num, Lib.hid (HNX.out.trans (by simp)), Lib.hid (by rw [List.length_append, List.map_append]; exact HOWN.out), Lib.hid hw9⟩
            case measure => simp [intOf]; omega
      · obtain rfl : k = en.lits.length := by omega
        have hR := HR.out
        rw [List.drop_length] at hR
        have HN := Lib.hid (show res = (acc, 0) from by rw [← HRR.out, hR]; rfl)
        clear hR
        go_wp2_with fail
        go_ret2
        exact ⟨⟨_, by rw [HN.out]; rfl, by rw [HN.out]; exact own_mono HV.out HBA.out.size, by rw [HN.out]; exact Nat.le_trans hka hul⟩, HBA.out.trans (HW.out.mono HBA.out.size)⟩
def rGr (its : List RIt) : Int → List Int → Int
  | m, [] => m
  | m, x :: c => rGr its (max m (rL its x)) c
set_option maxRecDepth 100000 in
set_option maxHeartbeats 2000000 in
theorem ref_greatest {O : Nat → Prop} (u : Value) (l : List Int) (t : RTr) (tv : Value) (w : World) (h : RTAt w tv t) (ho : t.Ok) (hu : IntsIn O w u l) (hl : l.length ≤ 1000000) (hp : ∀ x ∈ l, 0 ≤ rP t.items (litV x : Nat)) :
    Calls Tryz.prog 57 #[tv, u] w fun e w' => e = .returned (.int .i64 (rGr t.items 0 l)) ∧ Below w.heap.size w w' := by
  have hlen := ho.len
  have HOK := Lib.hid ho
  have HPX := Lib.hid hp
  have HU0 := Lib.hid hu
  obtain ⟨Au, cu, rfl, _⟩ := hu
  clear hp
  obtain ⟨iv, sv, rfl, hi, hs⟩ := h
  obtain ⟨wa, hwa⟩ : ∃ z, w.alloc (.cells #[.int .i64 t.vars, .int .i64 t.now, iv, sv] 61) = z := ⟨_, rfl⟩
  have hba : Below w.heap.size w wa := by rw [← hwa]; exact mx_al _ _
  have hbn : wa.heap[w.heap.size]? = some (.cells #[.int .i64 t.vars, .int .i64 t.now, iv, sv] 61 (0, 0)) := by rw [← hwa]; exact World.alloc_heap_new _ _
  have HI := Lib.hid (hi.below hba)
  have HS := Lib.hid (hs.below hba)
  have HBA := Lib.hid hba
  have HBN := Lib.hid hbn
  have HWA := Lib.hid hwa
  have C0 := Lib.hid (mx_cell (j := 0) hbn)
  have C1 := Lib.hid (mx_cell (j := 1) hbn)
  have C2 := Lib.hid (mx_cell (j := 2) hbn)
  have C3 := Lib.hid (mx_cell (j := 3) hbn)
  have hzw := heap_lt hbn
  have HT := Lib.hid (show RTAt wa (.agg #[.int .i64 t.vars, .int .i64 t.now, iv, sv]) t from ⟨iv, sv, rfl, HI.out, HS.out⟩)
  have HU := Lib.hid (HU0.out.below hba)
  clear hba hbn hs hwa hi
  go_enter Tryz.func57, Tryz.ntmps57
  go_wp2_with fail
  rw [HWA.out]
  go_loopw [5, 6] (fun m i wr => ∃ (k : Nat) (x : Int), k ≤ l.length ∧ i = .int .i64 k ∧ m = .int .i64 x ∧ Hid (rGr t.items 0 l = rGr t.items x (l.drop k)) ∧ Hid (Below wa.heap.size wa wr)) (fun _ i _ => l.length - (intOf i).toNat)
  case atStart => exact ⟨0, 0, Nat.zero_le _, rfl, rfl, Lib.hid rfl, Lib.hid (Below.refl _ _)⟩
  case round =>
    obtain ⟨k, m, hk, rfl, rfl, HE, HW⟩ := hrel
    by_cases hlt : k < l.length
    · obtain ⟨x, hx⟩ := getElem_of hlt
      obtain ⟨A3, c3, hA3, hlc3, _, hxs⟩ := HU.out.below HW.out
      simp only [Value.slice.injEq, true_and] at hA3
      obtain ⟨rfl, rfl⟩ := hA3
      obtain ⟨g3, o3, rfl, hg3, _, f0⟩ := hxs k x hx
      have F0 := Lib.hid f0
      have hkc : k < cu := by omega
      have HN := Lib.hid (show rGr t.items 0 l = rGr t.items (max m (rL t.items x)) (l.drop (k + 1)) from by rw [HE.out, drop_at hx]; rfl)
      have HTW := Lib.hid (HT.out.below HW.out)
      have HLV := Lib.hid (fun (w : World) tv (h : RTAt w tv t) => ref_level14 x t tv w h HOK.out (HPX.out x (List.mem_of_getElem? hx)))
      have hzr := Nat.lt_of_lt_of_le hzw HW.out.size
      have R0 := Lib.hid ((HW.out.cell (p := ⟨w.heap.size, 0, none⟩) hzw).trans C0.out)
      have R1 := Lib.hid ((HW.out.cell (p := ⟨w.heap.size, 1, none⟩) hzw).trans C1.out)
      have R2 := Lib.hid ((HW.out.cell (p := ⟨w.heap.size, 2, none⟩) hzw).trans C2.out)
      have R3 := Lib.hid ((HW.out.cell (p := ⟨w.heap.size, 3, none⟩) hzw).trans C3.out)
      clear hx hxs f0
      go_upto_region 5 with fail
      refine wp_region_held_drew (S := fun w' => Below wr.heap.size wr w') (by kernel_rfl) (mx_drew wr) (fun hS => ?_)
      refine takeD 0 13 (v := ?_) rfl (by rfl) (by kernel_rfl) (by kernel_rfl) (by kernel_rfl) (fun _ _ _ h => h) (Or.inl ⟨by rfl, ?_⟩) (by assumption) ?_
      rotate_left
      · intro wq hSw
        clear hSw
        go_simp
        try with_reducible rfl
      simp only [Act.put, List.setIfInBounds_toArray, List.set_cons_zero, List.set_cons_succ]
      refine takeD 1 14 (v := ?_) rfl (by rfl) (by kernel_rfl) (by kernel_rfl) (by kernel_rfl) (fun _ _ _ h => h) (Or.inl ⟨by rfl, ?_⟩) (by assumption) ?_
      rotate_left
      · intro wq hSw
        have k0 := (hSw.cell (p := ⟨w.heap.size, 0, none⟩) hzr).trans R0.out
        have k1 := (hSw.cell (p := ⟨w.heap.size, 1, none⟩) hzr).trans R1.out
        have k2 := (hSw.cell (p := ⟨w.heap.size, 2, none⟩) hzr).trans R2.out
        have k3 := (hSw.cell (p := ⟨w.heap.size, 3, none⟩) hzr).trans R3.out
        clear hSw
        go_simp
        try with_reducible rfl
      simp only [Act.put, List.setIfInBounds_toArray, List.set_cons_zero, List.set_cons_succ]
      refine takeD 2 15 (v := ?_) rfl (by rfl) (by kernel_rfl) (by kernel_rfl) (by kernel_rfl) (fun _ _ _ h => h) (Or.inl ⟨by rfl, ?_⟩) (by assumption) ?_
      rotate_left
      · intro wq hSw
        clear hSw
        go_simp
        try with_reducible rfl
      simp only [Act.put, List.setIfInBounds_toArray, List.set_cons_zero, List.set_cons_succ]
      refine takeD 3 16 (v := ?_) rfl (by rfl) (by kernel_rfl) (by kernel_rfl) (by kernel_rfl) (fun _ _ _ h => h) (Or.inl ⟨by rfl, ?_⟩) (by assumption) ?_
      rotate_left
      · intro wq hSw
        clear hSw
        go_simp
        try with_reducible rfl
      simp only [Act.put, List.setIfInBounds_toArray, List.set_cons_zero, List.set_cons_succ]
      refine takeD 4 17 (v := ?_) rfl (by rfl) (by kernel_rfl) (by kernel_rfl) (by kernel_rfl) (fun _ _ _ h => h) (Or.inl ⟨by rfl, ?_⟩) (by assumption) ?_
      rotate_left
      · intro wq hSw
        clear hSw
        go_simp
        try with_reducible rfl
      simp only [Act.put, List.setIfInBounds_toArray, List.set_cons_zero, List.set_cons_succ]
      refine takeD 5 18 (v := ?_) rfl (by rfl) (by kernel_rfl) (by kernel_rfl) (by kernel_rfl) (fun _ _ _ h => h) (Or.inl ⟨by rfl, ?_⟩) (by assumption) ?_
      rotate_left
      · intro wq hSw
        have k0 := (hSw.cell (p := ⟨g3, o3 + k, none⟩) hg3).trans F0.out
        clear hSw
        go_simp
        try with_reducible rfl
      simp only [Act.put, List.setIfInBounds_toArray, List.set_cons_zero, List.set_cons_succ]
      refine wpAnyH_ready (rs := [6]) (by kernel_rfl) (by simp) ?_
      refine AllReadyH.cons rfl (fun K hK => ?_) AllReadyH.nil
      go_simp
      refine (HLV.out _ _ (HTW.out.below hS)).mono ?_
      rintro e w2 ⟨rfl, hbN⟩
      have hSN := hS.trans (hbN.mono hS.size)
      refine hK.out _ _ hSN (fun _ => ?_)
      clear hK hbN hS
      have hS := hSN
      clear hSN
      refine takeD 7 20 (v := ?_) rfl (by rfl) (by kernel_rfl) (by kernel_rfl) (by kernel_rfl) (fun _ _ _ h => h) (Or.inl ⟨by rfl, ?_⟩) (by assumption) ?_
      rotate_left
      · intro wq hSw
        clear hSw
        go_simp
        try with_reducible rfl
      simp only [Act.put, List.setIfInBounds_toArray, List.set_cons_zero, List.set_cons_succ]
      refine takeD 8 5 (v := ?_) rfl (by rfl) (by kernel_rfl) (by kernel_rfl) (by kernel_rfl) (fun _ _ _ h => h) (Or.inl ⟨by rfl, ?_⟩) (by assumption) ?_
      rotate_left
      · intro wq hSw
        clear hSw
        go_simp
        try with_reducible rfl
      simp only [Act.put, List.setIfInBounds_toArray, List.set_cons_zero, List.set_cons_succ]
      refine wpAnyH_done (by kernel_rfl) ?_ _
      have HB2 := Lib.hid (HW.out.trans (hS.mono HW.out.size))
      clear hS
      go_wp2_with fail
      go_roundw
      case rel => exact ⟨k + 1, _, by omega, by go_num, rfl, Lib.hid (HN.out.trans (by congr 1; split <;> omega)), HB2⟩
      case measure => simp [intOf]; omega
    · obtain rfl : k = l.length := by omega
      have hE := HE.out
      rw [List.drop_length] at hE
      have HN := Lib.hid (show rGr t.items 0 l = m from hE)
      clear hE
      go_wp2_with fail
      go_ret
      exact ⟨by rw [HN.out]; rfl, HBA.out.trans (HW.out.mono HBA.out.size)⟩
end Go.Proofs.YtfbiaclpopjipaaGreat
