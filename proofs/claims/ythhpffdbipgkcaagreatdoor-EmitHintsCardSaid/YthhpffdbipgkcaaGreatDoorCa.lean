/- Literals: Negated, Index, Compare; their order. -/
import Derived.Test.YthhpffdbipgkcaaGreatDoorLv
import Derived.Sort.LotA
import Derived.Shelf.SlSortCmp.Whole1
namespace Go.Proofs.YthhpffdbipgkcaaGreatDoor
open Go.RowKit Go.Sort

def litG (l : Int) : Bool := litB l && decide (l < 0)
/-- the number of a literal -/
def litI (l : Int) : Int := 2 * ((litV l : Nat) - 1 : Int) + (if l < 0 then 1 else 0)
def litC (a b : Int) : Int := if litB a = true then (if litB b = true then Lib.compareInt (litI a) (litI b) else 1) else if litB b = true then -1 else Lib.compareInt a b
theorem litV_right {l : Int} (h : litB l = true) : (litV l : Int) = l.natAbs ∧ 1 ≤ (litV l : Int) ∧ (litV l : Int) ≤ 1048576 := by
  have := (litB_iff l).1 h
  unfold litV
  rw [if_pos h]
  omega
theorem litI_rng {l : Int} (h : litB l = true) : 0 ≤ litI l ∧ litI l ≤ 2097151 := by
  have := litV_right h
  unfold litI
  split <;> omega
theorem litI_inj {a b : Int} (ha : litB a = true) (hb : litB b = true) (h : litI a = litI b) : a = b := by
  have h1 := litV_right ha
  have h2 := litV_right hb
  unfold litI at h
  split at h <;> split at h <;> omega
theorem ltC_iff (a b : Int) : ltOf litC a b = true ↔ (litB a = false ∧ litB b = true) ∨ (litB a = true ∧ litB b = true ∧ litI a < litI b) ∨ (litB a = false ∧ litB b = false ∧ a < b) := by
  unfold ltOf litC Lib.compareInt
  cases ha : litB a <;> cases hb : litB b
  · by_cases h : a < b <;> by_cases h2 : b < a <;> simp [h, h2]
  · simp
  · simp
  · by_cases h : litI a < litI b <;> by_cases h2 : litI b < litI a <;> simp [h, h2]
theorem ltC_swo : SWO (ltOf litC) where
  irrefl x := by
    rw [Bool.eq_false_iff, ne_eq, ltC_iff]
    rintro (⟨h1, h2⟩ | ⟨_, _, h⟩ | ⟨_, _, h⟩)
    · rw [h1] at h2; cases h2
    · omega
    · omega
  trans x y z h1 h2 := by
    rw [ltC_iff] at *
    cases hx : litB x <;> cases hy : litB y <;> cases hz : litB z <;> simp [hx, hy, hz] at * <;> omega
  ntrans x y z h1 h2 := by
    rw [Bool.eq_false_iff, ne_eq, ltC_iff] at *
    cases hx : litB x <;> cases hy : litB y <;> cases hz : litB z <;> simp [hx, hy, hz] at * <;> omega
theorem ltC_total : ∀ x y, ltOf litC x y = false → ltOf litC y x = false → x = y := by
  intro x y h1 h2
  rw [Bool.eq_false_iff, ne_eq, ltC_iff] at h1 h2
  cases hx : litB x <;> cases hy : litB y <;> simp [hx, hy] at h1 h2
  · omega
  · exact litI_inj hx hy (by omega)
set_option maxHeartbeats 1000000 in
theorem lit_negated (l : Int) (w : World) : Calls Tryz.prog 45 #[.int .i64 l] w fun e w' => e = .returned (.bool (litG l)) ∧ w = w' := by
  have HR := right_lit l w
  unfold litG
  cases hb : litB l
  · rw [hb] at HR
    have HR := Lib.hid HR
    clear hb
    go_enter Tryz.func45, Tryz.ntmps45
    go_wp2_with fail
    refine HR.out.mono ?_
    rintro e w' ⟨rfl, rfl⟩
    go_wp2_with fail
    go_ret
    exact ⟨rfl, rfl⟩
  · rw [hb] at HR
    have HR := Lib.hid HR
    clear hb
    rw [Bool.true_and]
    obtain ⟨q, hq⟩ : ∃ q, decide (l < 0) = q := ⟨_, rfl⟩
    rw [hq]
    go_enter Tryz.func45, Tryz.ntmps45
    go_wp2_with fail
    refine HR.out.mono ?_
    rintro e w' ⟨rfl, rfl⟩
    go_wp2_with fail
    go_ret
    exact ⟨rfl, rfl⟩
set_option maxHeartbeats 1000000 in
theorem lit_index (l : Int) (w : World) : Calls Tryz.prog 61 #[.int .i64 l] w fun e w' => e = .returned (if litB l = true then .tuple #[.int .i64 (litI l), .int .i64 0] else .tuple #[.int .i64 0, .int .i64 10]) ∧ w = w' := by
  have HR := right_lit l w
  have HV := Lib.hid (lit_var l w)
  cases hb : litB l
  · rw [hb] at HR
    have HR := Lib.hid HR
    clear hb
    rw [if_neg (by decide)]
    go_enter Tryz.func61, Tryz.ntmps61
    go_wp2_with fail
    refine HR.out.mono ?_
    rintro e w' ⟨rfl, rfl⟩
    go_wp2_with fail
    refine bodyPost_ret (results_tmp2 rfl _ _ _) rfl ?_
    exact ⟨rfl, rfl⟩
  · rw [hb] at HR
    have HR := Lib.hid HR
    obtain ⟨v, hv⟩ : ∃ v : Int, ((litV l : Nat) : Int) = v := ⟨_, rfl⟩
    have hr := litV_right hb
    rw [hv] at HV hr
    have hw1 : IntKind.i64.wrap (v - 1) = v - 1 := IntWalk.i64_in _ (by omega)
    have hw2 : IntKind.i64.wrap (2 * (v - 1)) = 2 * (v - 1) := IntWalk.i64_in _ (by omega)
    have hw3 : IntKind.i64.wrap (2 * (v - 1) + 1) = 2 * (v - 1) + 1 := IntWalk.i64_in _ (by omega)
    rw [if_pos rfl]
    unfold litI
    rw [hv]
    clear hb hv hr
    by_cases hn : l < 0
    · have hd : decide (l < 0) = true := by simpa using hn
      rw [if_pos hn]
      clear hn
      go_enter Tryz.func61, Tryz.ntmps61
      go_wp2_with fail
      refine HR.out.mono ?_
      rintro e w' ⟨rfl, rfl⟩
      go_wp2_with fail
      refine HV.out.mono ?_
      rintro e w' ⟨rfl, rfl⟩
      go_wp2_with fail
      refine bodyPost_ret (results_tmp2 rfl _ _ _) rfl ?_
      exact ⟨rfl, rfl⟩
    · have hd : decide (l < 0) = false := by simpa using hn
      rw [if_neg hn, Int.add_zero]
      clear hn
      go_enter Tryz.func61, Tryz.ntmps61
      go_wp2_with fail
      refine HR.out.mono ?_
      rintro e w' ⟨rfl, rfl⟩
      go_wp2_with fail
      refine HV.out.mono ?_
      rintro e w' ⟨rfl, rfl⟩
      go_wp2_with fail
      refine bodyPost_ret (results_tmp2 rfl _ _ _) rfl ?_
      exact ⟨rfl, rfl⟩
/- cmp -/
theorem cmp_int_nan (x : Int) (w : World) : Calls Tryz.prog 83 #[.int .i64 x] w fun e w' => e = .returned (.bool false) ∧ w = w' := by
  have h : (x != x) = false := by simp
  go_enter Tryz.func83, Tryz.ntmps83
  go_wp2_with fail
  go_ret
  exact ⟨rfl, rfl⟩
set_option maxHeartbeats 1000000 in
theorem cmp_int (x y : Int) (w : World) : Calls Tryz.prog 62 #[.int .i64 x, .int .i64 y] w fun e w' => e = .returned (.int .i64 (Lib.compareInt x y)) ∧ w = w' := by
  have H1 := Lib.hid (cmp_int_nan x w)
  have H2 := Lib.hid (cmp_int_nan y w)
  unfold Lib.compareInt
  by_cases h : x < y
  · have hd : decide (x < y) = true := by simpa using h
    rw [if_pos h]
    clear h
    go_enter Tryz.func62, Tryz.ntmps62
    go_wp2_with fail
    refine H1.out.mono ?_
    rintro e w' ⟨rfl, rfl⟩
    go_wp2_with fail
    refine H2.out.mono ?_
    rintro e w' ⟨rfl, rfl⟩
    go_wp2_with fail
    go_ret
    exact ⟨rfl, rfl⟩
  · have hd : decide (x < y) = false := by simpa using h
    rw [if_neg h]
    by_cases h2 : y < x
    · have he : decide (y < x) = true := by simpa using h2
      rw [if_pos h2]
      clear h h2
      go_enter Tryz.func62, Tryz.ntmps62
      go_wp2_with fail
      refine H1.out.mono ?_
      rintro e w' ⟨rfl, rfl⟩
      go_wp2_with fail
      refine H2.out.mono ?_
      rintro e w' ⟨rfl, rfl⟩
      go_wp2_with fail
      go_ret
      exact ⟨rfl, rfl⟩
    · have he : decide (y < x) = false := by simpa using h2
      rw [if_neg h2]
      clear h h2
      go_enter Tryz.func62, Tryz.ntmps62
      go_wp2_with fail
      refine H1.out.mono ?_
      rintro e w' ⟨rfl, rfl⟩
      go_wp2_with fail
      refine H2.out.mono ?_
      rintro e w' ⟨rfl, rfl⟩
      go_wp2_with fail
      go_ret
      exact ⟨rfl, rfl⟩
theorem cmp_lit_nan (x : Int) (w : World) : Calls Tryz.prog 84 #[.int .i64 x] w fun e w' => e = .returned (.bool false) ∧ w = w' := by
  have h : (x != x) = false := by simp
  go_enter Tryz.func84, Tryz.ntmps84
  go_wp2_with fail
  go_ret
  exact ⟨rfl, rfl⟩
set_option maxHeartbeats 1000000 in
theorem cmp_lit (x y : Int) (w : World) : Calls Tryz.prog 63 #[.int .i64 x, .int .i64 y] w fun e w' => e = .returned (.int .i64 (Lib.compareInt x y)) ∧ w = w' := by
  have H1 := Lib.hid (cmp_lit_nan x w)
  have H2 := Lib.hid (cmp_lit_nan y w)
  unfold Lib.compareInt
  by_cases h : x < y
  · have hd : decide (x < y) = true := by simpa using h
    rw [if_pos h]
    clear h
    go_enter Tryz.func63, Tryz.ntmps63
    go_wp2_with fail
    refine H1.out.mono ?_
    rintro e w' ⟨rfl, rfl⟩
    go_wp2_with fail
    refine H2.out.mono ?_
    rintro e w' ⟨rfl, rfl⟩
    go_wp2_with fail
    go_ret
    exact ⟨rfl, rfl⟩
  · have hd : decide (x < y) = false := by simpa using h
    rw [if_neg h]
    by_cases h2 : y < x
    · have he : decide (y < x) = true := by simpa using h2
      rw [if_pos h2]
      clear h h2
      go_enter Tryz.func63, Tryz.ntmps63
      go_wp2_with fail
      refine H1.out.mono ?_
      rintro e w' ⟨rfl, rfl⟩
      go_wp2_with fail
      refine H2.out.mono ?_
      rintro e w' ⟨rfl, rfl⟩
      go_wp2_with fail
      go_ret
      exact ⟨rfl, rfl⟩
    · have he : decide (y < x) = false := by simpa using h2
      rw [if_neg h2]
      clear h h2
      go_enter Tryz.func63, Tryz.ntmps63
      go_wp2_with fail
      refine H1.out.mono ?_
      rintro e w' ⟨rfl, rfl⟩
      go_wp2_with fail
      refine H2.out.mono ?_
      rintro e w' ⟨rfl, rfl⟩
      go_wp2_with fail
      go_ret
      exact ⟨rfl, rfl⟩
set_option maxHeartbeats 2000000 in
theorem lit_compare (a b : Int) (w : World) : Calls Tryz.prog 40 #[.int .i64 a, .int .i64 b] w fun e w' => e = .returned (.int .i64 (litC a b)) ∧ w = w' := by
  have HA := lit_index a w
  have HB := lit_index b w
  unfold litC
  cases ha : litB a <;> cases hb : litB b <;> rw [ha] at HA <;> rw [hb] at HB <;> simp only [Bool.false_eq_true, if_false, if_true] at HA HB ⊢
  · have HA := Lib.hid HA
    have HB := Lib.hid HB
    have HC := cmp_lit a b w
    obtain ⟨r, hr⟩ : ∃ r, Lib.compareInt a b = r := ⟨_, rfl⟩
    rw [hr] at HC ⊢
    have HC := Lib.hid HC
    clear hr
    clear ha hb
    go_enter Tryz.func40, Tryz.ntmps40
    go_wp2_with fail
    refine HA.out.mono ?_
    rintro e w' ⟨rfl, rfl⟩
    go_wp2_with fail
    refine HB.out.mono ?_
    rintro e w' ⟨rfl, rfl⟩
    go_wp2_with fail
    refine HC.out.mono ?_
    rintro e w' ⟨rfl, rfl⟩
    go_wp2_with fail
    go_ret
    exact ⟨rfl, rfl⟩
  · have HA := Lib.hid HA
    have HB := Lib.hid HB
    clear ha hb
    go_enter Tryz.func40, Tryz.ntmps40
    go_wp2_with fail
    refine HA.out.mono ?_
    rintro e w' ⟨rfl, rfl⟩
    go_wp2_with fail
    refine HB.out.mono ?_
    rintro e w' ⟨rfl, rfl⟩
    go_wp2_with fail
    go_ret
    exact ⟨rfl, rfl⟩
  · have HA := Lib.hid HA
    have HB := Lib.hid HB
    clear ha hb
    go_enter Tryz.func40, Tryz.ntmps40
    go_wp2_with fail
    refine HA.out.mono ?_
    rintro e w' ⟨rfl, rfl⟩
    go_wp2_with fail
    refine HB.out.mono ?_
    rintro e w' ⟨rfl, rfl⟩
    go_wp2_with fail
    go_ret
    exact ⟨rfl, rfl⟩
  · have HA := Lib.hid HA
    have HB := Lib.hid HB
    have HC := cmp_int (litI a) (litI b) w
    obtain ⟨r, hr⟩ : ∃ r, Lib.compareInt (litI a) (litI b) = r := ⟨_, rfl⟩
    rw [hr] at HC ⊢
    have HC := Lib.hid HC
    clear hr
    clear ha hb
    go_enter Tryz.func40, Tryz.ntmps40
    go_wp2_with fail
    refine HA.out.mono ?_
    rintro e w' ⟨rfl, rfl⟩
    go_wp2_with fail
    refine HB.out.mono ?_
    rintro e w' ⟨rfl, rfl⟩
    go_wp2_with fail
    refine HC.out.mono ?_
    rintro e w' ⟨rfl, rfl⟩
    go_wp2_with fail
    go_ret
    exact ⟨rfl, rfl⟩
end Go.Proofs.YthhpffdbipgkcaaGreatDoor
