/- The reference's decimal. -/
import Derived.Test.YtbokfjmbamgenaaDoorRc
import Derived.Lib.ItoaMem
import Derived.Lib.ItoaLen
namespace Go.Proofs.YtbokfjmbamgenaaDoor
open Go.RowKit

theorem dec_cat (m : Nat) (h : ¬ m < 10) : Lib.decDigits m = Lib.decDigits (m / 10) ++ [UInt8.ofNat (48 + m % 10)] := by
  conv => lhs; rw [Lib.decDigits, dif_neg h]
theorem digit_at (d : Nat) (h : d < 10) : (⟨#[48, 49, 50, 51, 52, 53, 54, 55, 56, 57]⟩ : ByteArray).extract d (d + 1) = ⟨[UInt8.ofNat (48 + d)].toArray⟩ := by
  rcases d with _ | _ | _ | _ | _ | _ | _ | _ | _ | _ | d
  all_goals first
    | decide +kernel
    | omega
theorem cat_bytes (a b : List UInt8) : (⟨a.toArray⟩ : ByteArray) ++ ⟨b.toArray⟩ = ⟨(a ++ b).toArray⟩ := by
  apply ByteArray.ext
  simp [ByteArray.data_append]
theorem dec_len (m : Nat) (hm : m ≤ 9223372036854775807) : (Lib.decDigits m).length ≤ 21 := by
  rw [← Lib.itoa_nonneg]
  exact Lib.itoa_length_le _ (by omega) (by omega)
set_option maxRecDepth 100000 in
set_option maxHeartbeats 1000000 in
theorem ref_dec_nat (m : Nat) (hm : m ≤ 9223372036854775807) (w : World) :
    Calls Tryd.prog 84 #[.int .i64 (m : Int)] w fun e w' => e = .returned (.string ⟨(Lib.decDigits m).toArray⟩) ∧ Below w.heap.size w w' := by
  induction m using Nat.strongRecOn generalizing w with
  | ind m ih =>
    by_cases h10 : m < 10
    · have hd := digit_at m h10
      have HD := Lib.hid hd
      have HT := Lib.hid h10
      clear hd ih
      go_enter Tryd.func84, Tryd.ntmps84
      go_wp2_with fail
      go_ret
      exact ⟨by rw [HD.out, Lib.decDigits_one HT.out]; rfl, Below.refl _ _⟩
    · have HC := Lib.hid (dec_cat m h10)
      have hk1 : m / 10 < m := by omega
      have hmr : m % 10 < 10 := Nat.mod_lt _ (by decide)
      have hq : (m : Int).tdiv 10 = ((m / 10 : Nat) : Int) := rfl
      have hr : (m : Int).tmod 10 = ((m % 10 : Nat) : Int) := rfl
      obtain ⟨k, hk⟩ : ∃ k, m / 10 = k := ⟨_, rfl⟩
      obtain ⟨d, hd0⟩ : ∃ d, m % 10 = d := ⟨_, rfl⟩
      rw [hk] at hq HC hk1
      rw [hd0] at hr HC hmr
      clear hk hd0
      have HI := Lib.hid (ih k hk1 (by omega) w.drew)
      have hd := digit_at d hmr
      have HD := Lib.hid hd
      clear hd ih
      have w1 : IntKind.i64.wrap (k : Int) = (k : Int) := IntWalk.i64_in _ (by omega)
      have w2 : IntKind.i64.wrap (d : Int) = (d : Int) := IntWalk.i64_in _ (by omega)
      have w3 : IntKind.i64.wrap ((d : Int) + 1) = ((d : Int) + 1) := IntWalk.i64_in _ (by omega)
      have s1 : (0 : Int) ≤ (d : Int) + 1 := by omega
      have s2 : (d : Int) + 1 ≤ 10 := by omega
      have s3 : (d : Int) ≤ (d : Int) + 1 := by omega
      have l1 := dec_len k (by omega)
      have s4 : ¬ 9223372036854775807 < (Lib.decDigits k).length + (min (d + 1) 10 - d) := by omega
      go_enter Tryd.func84, Tryd.ntmps84
      go_wp2_with fail
      refine wp_region_held_drew (S := fun w' => Below w.heap.size w w') (by kernel_rfl) (below_drew' w) (fun hHeld => ?_)
      refine takeD 0 25 (v := ?_) rfl (by rfl) (by kernel_rfl) (by kernel_rfl) (by kernel_rfl) (fun _ _ _ h => h) (Or.inl ⟨by rfl, ?_⟩) (by assumption) ?_
      rotate_left
      · intro w hSw
        have _h := hSw
        go_simp
        try with_reducible rfl
      simp only [Act.put, List.setIfInBounds_toArray, List.set_cons_zero, List.set_cons_succ]
      refine takeD 1 26 (v := ?_) rfl (by rfl) (by kernel_rfl) (by kernel_rfl) (by kernel_rfl) (fun _ _ _ h => h) (Or.inl ⟨by rfl, ?_⟩) (by assumption) ?_
      rotate_left
      · intro w hSw
        have _h := hSw
        go_simp
        try with_reducible rfl
      simp only [Act.put, List.setIfInBounds_toArray, List.set_cons_zero, List.set_cons_succ]
      refine takeD 3 28 (v := ?_) rfl (by rfl) (by kernel_rfl) (by kernel_rfl) (by kernel_rfl) (fun _ _ _ h => h) (Or.inl ⟨by rfl, ?_⟩) (by assumption) ?_
      rotate_left
      · intro w hSw
        have _h := hSw
        go_simp
        try with_reducible rfl
      simp only [Act.put, List.setIfInBounds_toArray, List.set_cons_zero, List.set_cons_succ]
      refine takeD 4 29 (v := ?_) rfl (by rfl) (by kernel_rfl) (by kernel_rfl) (by kernel_rfl) (fun _ _ _ h => h) (Or.inl ⟨by rfl, ?_⟩) (by assumption) ?_
      rotate_left
      · intro w hSw
        have _h := hSw
        go_simp
        try with_reducible rfl
      simp only [Act.put, List.setIfInBounds_toArray, List.set_cons_zero, List.set_cons_succ]
      refine takeD 5 30 (v := ?_) rfl (by rfl) (by kernel_rfl) (by kernel_rfl) (by kernel_rfl) (fun _ _ _ h => h) (Or.inl ⟨by rfl, ?_⟩) (by assumption) ?_
      rotate_left
      · intro w hSw
        have _h := hSw
        go_simp
        try with_reducible rfl
      simp only [Act.put, List.setIfInBounds_toArray, List.set_cons_zero, List.set_cons_succ]
      refine takeD 6 31 (v := ?_) rfl (by rfl) (by kernel_rfl) (by kernel_rfl) (by kernel_rfl) (fun _ _ _ h => h) (Or.inl ⟨by rfl, ?_⟩) (by assumption) ?_
      rotate_left
      · intro w hSw
        have _h := hSw
        go_simp
        try with_reducible rfl
      simp only [Act.put, List.setIfInBounds_toArray, List.set_cons_zero, List.set_cons_succ]
      refine takeD 7 32 (v := ?_) rfl (by rfl) (by kernel_rfl) (by kernel_rfl) (by kernel_rfl) (fun _ _ _ h => h) (Or.inl ⟨by rfl, ?_⟩) (by assumption) ?_
      rotate_left
      · intro w hSw
        have _h := hSw
        go_simp
        try with_reducible rfl
      simp only [Act.put, List.setIfInBounds_toArray, List.set_cons_zero, List.set_cons_succ]
      refine takeD 8 33 (v := ?_) rfl (by rfl) (by kernel_rfl) (by kernel_rfl) (by kernel_rfl) (fun _ _ _ h => h) (Or.inl ⟨by rfl, ?_⟩) (by assumption) ?_
      rotate_left
      · intro w hSw
        have _h := hSw
        go_simp
        try with_reducible rfl
      simp only [Act.put, List.setIfInBounds_toArray, List.set_cons_zero, List.set_cons_succ]
      refine wpAnyH_ready (rs := [2]) (by kernel_rfl) (by simp) ?_
      refine AllReadyH.cons rfl (fun K hK => ?_) AllReadyH.nil
      go_simp
      refine HI.out.mono ?_
      rintro e w1 ⟨rfl, hb1⟩
      refine hK.out _ _ (hHeld.trans hb1) (fun hHeld1 => ?_)
      clear hK
      refine takeD 9 34 (v := ?_) rfl (by rfl) (by kernel_rfl) (by kernel_rfl) (by kernel_rfl) (fun _ _ _ h => h) (Or.inl ⟨by rfl, ?_⟩) (by assumption) ?_
      rotate_left
      · intro w hSw
        have _h := hSw
        go_simp
        try with_reducible rfl
      simp only [Act.put, List.setIfInBounds_toArray, List.set_cons_zero, List.set_cons_succ]
      refine takeD 10 2 (v := ?_) rfl (by rfl) (by kernel_rfl) (by kernel_rfl) (by kernel_rfl) (fun _ _ _ h => h) (Or.inl ⟨by rfl, ?_⟩) (by assumption) ?_
      rotate_left
      · intro w hSw
        have _h := hSw
        go_simp
        try with_reducible rfl
      simp only [Act.put, List.setIfInBounds_toArray, List.set_cons_zero, List.set_cons_succ]
      refine wpAnyH_done (by kernel_rfl) ?_ _
      go_wp2_with fail
      go_ret
      exact ⟨by rw [HC.out, ← cat_bytes, ← HD.out]; rfl, hHeld1⟩
set_option maxRecDepth 100000 in
set_option maxHeartbeats 1000000 in
theorem ref_decimal (n : Int) (h0 : -9223372036854775808 ≤ n) (h1 : n ≤ 9223372036854775807) (w : World) :
    Calls Tryd.prog 84 #[.int .i64 n] w fun e w' => e = .returned (.string ⟨(Lib.itoa n).toArray⟩) ∧ Below w.heap.size w w' := by
  by_cases hn : 0 ≤ n
  · obtain ⟨m, rfl⟩ := Int.eq_ofNat_of_zero_le hn
    rw [Lib.itoa_nonneg]
    exact ref_dec_nat m (by omega) w
  · obtain ⟨m, hm⟩ : ∃ m : Nat, n = -(m : Int) := ⟨n.natAbs, by omega⟩
    subst hm
    have hm1 : 1 ≤ m := by omega
    rw [Lib.itoa_neg m hm1]
    have q0 : decide (-(m : Int) < 0) = true := by simp; omega
    induction m using Nat.strongRecOn generalizing w with
    | ind m ih =>
    by_cases h10 : m < 10
    · have HI := Lib.hid (ref_dec_nat m (by omega) w)
      have l1 := dec_len m (by omega)
      have q1 : decide ((-10 : Int) < -(m : Int)) = true := by simp; omega
      have w1 : IntKind.i64.wrap (m : Int) = (m : Int) := IntWalk.i64_in _ (by omega)
      clear ih
      go_enter Tryd.func84, Tryd.ntmps84
      go_wp2_with fail
      refine HI.out.mono ?_
      rintro e w1 ⟨rfl, hb1⟩
      go_wp2_with fail
      go_ret
      exact ⟨by rw [show (⟨#[45]⟩ : ByteArray) = ⟨[(45 : UInt8)].toArray⟩ from rfl, cat_bytes]; rfl, hb1⟩
    · have HC := Lib.hid (dec_cat m h10)
      have q1 : decide ((-10 : Int) < -(m : Int)) = false := by simp; omega
      have hq : (-(m : Int)).tdiv 10 = -((m / 10 : Nat) : Int) := by rw [Int.neg_tdiv]; rfl
      have hr : (-(m : Int)).tmod 10 = -((m % 10 : Nat) : Int) := by rw [Int.neg_tmod]; rfl
      have hmr : m % 10 < 10 := Nat.mod_lt _ (by decide)
      have hq0 : 1 ≤ m / 10 := by omega
      have hk1 : m / 10 < m := by omega
      obtain ⟨k, hk⟩ : ∃ k, m / 10 = k := ⟨_, rfl⟩
      obtain ⟨d, hd0⟩ : ∃ d, m % 10 = d := ⟨_, rfl⟩
      rw [hk] at hq HC hk1 hq0
      rw [hd0] at hr HC hmr
      clear hk hd0
      have w1 : IntKind.i64.wrap (-(k : Int)) = -(k : Int) := IntWalk.i64_in _ (by omega)
      have w2 : IntKind.i64.wrap (-(d : Int)) = -(d : Int) := IntWalk.i64_in _ (by omega)
      have w3 : IntKind.i64.wrap (d : Int) = (d : Int) := IntWalk.i64_in _ (by omega)
      have l1 := dec_len k (by omega)
      have l2 := dec_len d (by omega)
      have HI := Lib.hid (ih k hk1 w (by omega) (by omega) (by omega) hq0 (by simp; omega))
      clear ih
      go_enter Tryd.func84, Tryd.ntmps84
      go_wp2_with fail
      refine HI.out.mono ?_
      rintro e w1 ⟨rfl, hb1⟩
      go_wp2_with fail
      refine (ref_dec_nat d (by omega) w1).mono ?_
      rintro e w2 ⟨rfl, hb2⟩
      go_wp2_with fail
      go_ret
      exact ⟨by rw [HC.out, ← Lib.decDigits_one hmr, ← List.cons_append, ← cat_bytes]; rfl, hb1.trans (hb2.mono hb1.size)⟩
end Go.Proofs.YtbokfjmbamgenaaDoor
