/- Plain lists of bytes: the number that digits are, and the two numbers of a Lit; no conditions. -/
import Derived.Test.YtihigfpikiaaiaaDoorPa
import Derived.Lib.Bytealg
namespace Tk
open Go

/-- the number that digits are -/
def num (l : List UInt8) : Nat := l.foldl (fun n c => 10 * n + (c.toNat - 48)) 0
def value (l : List UInt8) : Nat × Nat := if numeral l then (if 1000000000 < num l then (0, 281) else (num l, 0)) else (0, 280)
theorem num_snoc (l : List UInt8) (c : UInt8) : num (l ++ [c]) = 10 * num l + (c.toNat - 48) := by simp [num]
theorem foldl_ge (l : List UInt8) (n : Nat) : n ≤ l.foldl (fun n c => 10 * n + (c.toNat - 48)) n := by
  induction l generalizing n with
  | nil => exact Nat.le_refl _
  | cons c r ih => simp only [List.foldl_cons]; exact Nat.le_trans (by omega) (ih _)
theorem num_take (l : List UInt8) (k : Nat) : num (l.take k) ≤ num l := by
  have h : num l = (l.drop k).foldl (fun n c => 10 * n + (c.toNat - 48)) (num (l.take k)) := by
    unfold num
    rw [← List.foldl_append, List.take_append_drop]
  rw [h]
  exact foldl_ge _ _
theorem num_zero (r : List UInt8) : num (48 :: r) = num r := by simp [num]
theorem foldl_big (l : List UInt8) (n : Nat) : n * 10 ^ l.length ≤ l.foldl (fun n c => 10 * n + (c.toNat - 48)) n := by
  induction l generalizing n with
  | nil => simp
  | cons c r ih =>
    simp only [List.foldl_cons, List.length_cons]
    refine Nat.le_trans ?_ (ih _)
    rw [Nat.pow_succ, Nat.mul_comm (10 ^ r.length) 10, ← Nat.mul_assoc]
    exact Nat.mul_le_mul_right _ (by omega)
theorem num_big (c : UInt8) (r : List UInt8) (h : digit c = true) (h0 : c ≠ 48) (hl : 10 ≤ r.length) : 1000000000 < num (c :: r) := by
  have h1 : 1 ≤ c.toNat - 48 := by
    have h2 : c.toNat ≠ 48 := fun e => h0 (UInt8.toNat_inj.1 e)
    simp [digit] at h
    omega
  have h2 := foldl_big r (10 * 0 + (c.toNat - 48))
  have h3 : 10 ^ 10 ≤ 10 ^ r.length := Nat.pow_le_pow_right (by omega) hl
  have h4 : 1 * 10 ^ 10 ≤ (10 * 0 + (c.toNat - 48)) * 10 ^ r.length := Nat.mul_le_mul (by omega) h3
  show 1000000000 < (c :: r).foldl (fun n c => 10 * n + (c.toNat - 48)) 0
  rw [List.foldl_cons]
  omega
theorem value_err (l : List UInt8) : (value l).2 = 0 ∨ (value l).2 = 280 ∨ (value l).2 = 281 := by
  unfold value
  split
  · split <;> simp
  · simp
theorem value_le (l : List UInt8) : (value l).1 ≤ 1000000000 := by
  unfold value
  split
  · split
    · simp
    · simp only []; omega
  · simp
theorem value_bad (l : List UInt8) : (value l).2 ≠ 0 → (value l).1 = 0 := by
  unfold value
  split
  · split <;> simp
  · simp

/-- the two numbers of a Lit, and the error -/
def parts (l : List UInt8) : Nat × Nat × Nat :=
  if Lib.indexByte l 58 < 0 then (0, 0, 280)
  else
    let a := value (l.take (Lib.indexByte l 58).toNat)
    let b := value (l.drop ((Lib.indexByte l 58).toNat + 1))
    if a.2 = 280 ∨ b.2 = 280 then (0, 0, 280) else if a.2 ≠ 0 ∨ b.2 ≠ 0 then (0, 0, 281) else (a.1, b.1, 0)

theorem index_at (l : List UInt8) (c : UInt8) (h : 0 ≤ Lib.indexByte l c) : (Lib.indexByte l c).toNat < l.length ∧ l.getD (Lib.indexByte l c).toNat 0 = c ∧ ∀ j, j < (Lib.indexByte l c).toNat → l.getD j 0 ≠ c := by
  induction l with
  | nil => simp [Lib.indexByte] at h
  | cons b l ih =>
    have hge := Lib.indexByte_ge l c
    simp only [Lib.indexByte] at h ⊢
    by_cases hb : b = c
    · subst hb; simp
    · have hb' : (b == c) = false := by simpa using hb
      simp only [hb', Bool.false_eq_true, if_false, beq_iff_eq] at h ⊢
      by_cases hm : Lib.indexByte l c = -1
      · rw [if_pos hm] at h; omega
      · rw [if_neg hm]
        obtain ⟨h1, h2, h3⟩ := ih (by omega)
        rw [show (Lib.indexByte l c + 1).toNat = (Lib.indexByte l c).toNat + 1 by omega]
        refine ⟨by simpa using h1, by simpa using h2, fun j hj => ?_⟩
        cases j with
        | zero => simpa using hb
        | succ j => simpa using h3 j (by omega)
theorem index_none (l : List UInt8) (c : UInt8) (h : Lib.indexByte l c < 0) (j : Nat) (hj : j < l.length) : l.getD j 0 ≠ c := by
  induction l generalizing j with
  | nil => simp at hj
  | cons b l ih =>
    have hge := Lib.indexByte_ge l c
    simp only [Lib.indexByte] at h
    by_cases hb : b = c
    · subst hb; simp at h
    · have hb' : (b == c) = false := by simpa using hb
      simp only [hb', Bool.false_eq_true, if_false, beq_iff_eq] at h
      cases j with
      | zero => simpa using hb
      | succ j =>
        by_cases hm : Lib.indexByte l c = -1
        · simpa using ih (by omega) j (by simpa using hj)
        · rw [if_neg hm] at h; omega
theorem index_eq (l : List UInt8) (c : UInt8) (n : Nat) (hn : n < l.length) (h1 : l.getD n 0 = c) (h2 : ∀ j, j < n → l.getD j 0 ≠ c) : Lib.indexByte l c = n := by
  by_cases h : Lib.indexByte l c < 0
  · exact absurd h1 (index_none l c h n hn)
  · obtain ⟨a1, a2, a3⟩ := index_at l c (by omega)
    rcases Nat.lt_trichotomy (Lib.indexByte l c).toNat n with hlt | he | hgt
    · exact absurd a2 (h2 _ hlt)
    · omega
    · exact absurd h1 (a3 _ hgt)

theorem digits_no_colon (l : List UInt8) (h : l.all digit = true) (j : Nat) (hj : j < l.length) : l.getD j 0 ≠ 58 := by
  intro e
  rw [List.getD_eq_getElem?_getD, List.getElem?_eq_getElem hj] at e
  simp only [Option.getD_some] at e
  have := List.all_eq_true.1 h _ (List.getElem_mem hj)
  rw [e] at this
  exact absurd this (by decide)

theorem kind3 (l : List UInt8) : kind l = 3 ↔ (0 ≤ Lib.indexByte l 58 ∧ numeral (l.take (Lib.indexByte l 58).toNat) = true ∧ numeral (l.drop ((Lib.indexByte l 58).toNat + 1)) = true) := by
  constructor
  · intro h
    cases l with
    | nil => simp [kind] at h
    | cons c r =>
      rw [kind_cons] at h
      split at h
      · simp at h
      · split at h
        · simp at h
        · split at h
          · rename_i hl
            generalize c :: r = l at *
            simp only [isLit, List.any_eq_true, List.mem_range, Bool.and_eq_true, decide_eq_true_eq, litAt, beq_iff_eq] at hl
            obtain ⟨i, hi, h1, ⟨h58, hp⟩, hq⟩ := hl
            have he : Lib.indexByte l 58 = i := by
              refine index_eq l 58 i hi (by rw [List.getD_eq_getElem?_getD, h58]; rfl) (fun j hj => ?_)
              simp only [numeral, Bool.and_eq_true] at hp
              have := digits_no_colon _ hp.2 j (by simp; omega)
              rw [List.getD_eq_getElem?_getD, List.getElem?_take, if_pos hj, ← List.getD_eq_getElem?_getD] at this
              exact this
            rw [he]
            exact ⟨by omega, hp, hq⟩
          · split at h <;> simp at h
  · rintro ⟨h0, hp, hq⟩
    obtain ⟨a1, a2, a3⟩ := index_at l 58 h0
    generalize (Lib.indexByte l 58).toNat = i at *
    have hi1 : 1 ≤ i := by
      cases i with
      | zero => simp [numeral] at hp
      | succ i => omega
    have h58 : l[i]? = some 58 := by
      rw [List.getElem?_eq_getElem a1]
      rw [List.getD_eq_getElem?_getD, List.getElem?_eq_getElem a1] at a2
      simpa using a2
    have hlit : isLit l = true := by
      simp only [isLit, List.any_eq_true, List.mem_range, Bool.and_eq_true, decide_eq_true_eq, litAt, beq_iff_eq]
      exact ⟨i, a1, hi1, ⟨h58, hp⟩, hq⟩
    cases l with
    | nil => simp at a1
    | cons c r =>
      have hd : digit c = true := by
        simp only [numeral, Bool.and_eq_true] at hp
        rw [take_cons' c r i (by omega)] at hp
        simp only [List.all_cons, Bool.and_eq_true] at hp
        exact hp.2.1
      have hna : (c :: r).all digit = false := by
        rw [Bool.eq_false_iff]
        intro hall
        exact digits_no_colon _ hall i a1 a2
      rw [kind_digit c r hd, hna, hlit]
      rfl
theorem parts_ref (l : List UInt8) : parts l = if kind l = 3 then
    (if (value (l.take (Lib.indexByte l 58).toNat)).2 + (value (l.drop ((Lib.indexByte l 58).toNat + 1))).2 ≠ 0 then (0, 0, 281) else ((value (l.take (Lib.indexByte l 58).toNat)).1, (value (l.drop ((Lib.indexByte l 58).toNat + 1))).1, 0)) else (0, 0, 280) := by
  have hk := kind3 l
  unfold parts
  by_cases h0 : Lib.indexByte l 58 < 0
  · rw [if_pos h0, if_neg (fun h => by have := (hk.1 h).1; omega)]
  · rw [if_neg h0]
    simp only []
    by_cases hp : numeral (l.take (Lib.indexByte l 58).toNat) = true
    · by_cases hq : numeral (l.drop ((Lib.indexByte l 58).toNat + 1)) = true
      · rw [if_pos (hk.2 ⟨by omega, hp, hq⟩)]
        have e1 : (value (l.take (Lib.indexByte l 58).toNat)).2 ≠ 280 := by
          unfold value; rw [if_pos hp]; split <;> simp
        have e2 : (value (l.drop ((Lib.indexByte l 58).toNat + 1))).2 ≠ 280 := by
          unfold value; rw [if_pos hq]; split <;> simp
        rw [if_neg (by rintro (h | h); exact e1 h; exact e2 h)]
        by_cases h : (value (l.take (Lib.indexByte l 58).toNat)).2 ≠ 0 ∨ (value (l.drop ((Lib.indexByte l 58).toNat + 1))).2 ≠ 0
        · rw [if_pos h, if_pos (by omega)]
        · rw [if_neg h, if_neg (by omega)]
      · rw [if_neg (fun h => hq (hk.1 h).2.2)]
        have e2 : (value (l.drop ((Lib.indexByte l 58).toNat + 1))).2 = 280 := by
          unfold value; rw [if_neg hq]
        rw [if_pos (.inr e2)]
    · rw [if_neg (fun h => hp (hk.1 h).2.1)]
      have e1 : (value (l.take (Lib.indexByte l 58).toNat)).2 = 280 := by
        unfold value; rw [if_neg hp]
      rw [if_pos (.inl e1)]
end Tk
