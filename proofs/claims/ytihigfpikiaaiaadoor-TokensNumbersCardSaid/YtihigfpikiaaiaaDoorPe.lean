/- Plain lists of bytes: digits written in front; no conditions. -/
import Derived.Test.YtihigfpikiaaiaaDoorPb
namespace Tk
open Go

theorem foldl_at (l : List UInt8) (n : Nat) : l.foldl (fun n c => 10 * n + (c.toNat - 48)) n = n * 10 ^ l.length + num l := by
  induction l generalizing n with
  | nil => simp [num]
  | cons c r ih =>
    have h1 := ih (10 * n + (c.toNat - 48))
    have h2 := ih (10 * 0 + (c.toNat - 48))
    have h3 : num (c :: r) = r.foldl (fun n c => 10 * n + (c.toNat - 48)) (10 * 0 + (c.toNat - 48)) := rfl
    rw [List.foldl_cons, h1, h3, h2, List.length_cons, Nat.pow_succ, Nat.add_mul, Nat.add_mul]
    have : 10 * n * 10 ^ r.length = n * (10 ^ r.length * 10) := by rw [Nat.mul_comm 10 n, Nat.mul_assoc, Nat.mul_comm 10]
    omega
theorem num_cons (c : UInt8) (l : List UInt8) : num (c :: l) = (c.toNat - 48) * 10 ^ l.length + num l := by
  have := foldl_at l (10 * 0 + (c.toNat - 48))
  rw [show 10 * 0 + (c.toNat - 48) = c.toNat - 48 by omega] at this
  rw [← this]
  show l.foldl _ (10 * 0 + (c.toNat - 48)) = _
  rw [show 10 * 0 + (c.toNat - 48) = c.toNat - 48 by omega]
theorem num_app (a b : List UInt8) : num (a ++ b) = num a * 10 ^ b.length + num b := by
  have := foldl_at b (num a)
  rw [← this]
  unfold num
  rw [List.foldl_append]
theorem num_zeros (k : Nat) (l : List UInt8) : num (List.replicate k 48 ++ l) = num l := by
  induction k with
  | zero => rfl
  | succ k ih => rw [List.replicate_succ, List.cons_append, num_zero, ih]
/-- what is written of a number -/
def Wr (l : List UInt8) (x : Nat) : Prop := l ≠ [] ∧ l.all digit = true ∧ num l = x
theorem Wr.numeral {l : List UInt8} {x : Nat} (h : Wr l x) : numeral l = true := by
  unfold Tk.numeral
  rw [h.2.1]
  have : l.isEmpty = false := by simpa using h.1
  rw [this]; rfl
theorem Wr.value {l : List UInt8} {x : Nat} (h : Wr l x) (hx : x ≤ 1000000000) : value l = (x, 0) := by
  unfold Tk.value
  rw [h.numeral, if_pos rfl, h.2.2, if_neg (by omega)]
theorem index_app (a b : List UInt8) (h : ∀ j, j < a.length → a.getD j 0 ≠ 58) : Lib.indexByte (a ++ 58 :: b) 58 = a.length := by
  refine index_eq _ _ _ (by simp) (by simp [List.getD_eq_getElem?_getD]) (fun j hj => ?_)
  have := h j hj
  rw [List.getD_eq_getElem?_getD] at this ⊢
  rwa [List.getElem?_append_left hj]
theorem parts_app (a b : List UInt8) (h : ∀ j, j < a.length → a.getD j 0 ≠ 58) : parts (a ++ 58 :: b) =
    if (value a).2 = 280 ∨ (value b).2 = 280 then (0, 0, 280) else if (value a).2 ≠ 0 ∨ (value b).2 ≠ 0 then (0, 0, 281) else ((value a).1, (value b).1, 0) := by
  unfold parts
  rw [index_app a b h, if_neg (by omega)]
  simp only [Int.toNat_natCast]
  rw [List.take_left, show a.length + 1 = (a ++ [58]).length by simp, show a ++ 58 :: b = (a ++ [58]) ++ b by simp, List.drop_left]
theorem Wr.no_colon {l : List UInt8} {x : Nat} (h : Wr l x) : ∀ j, j < l.length → l.getD j 0 ≠ 58 := digits_no_colon l h.2.1
theorem Wr.parts {a b : List UInt8} {x y : Nat} (ha : Wr a x) (hb : Wr b y) (hx : x ≤ 1000000000) (hy : y ≤ 1000000000) : parts (a ++ 58 :: b) = (x, y, 0) := by
  rw [parts_app a b ha.no_colon, ha.value hx, hb.value hy]
  rfl
/-- what is no number, and has no colon -/
def Nn (l : List UInt8) : Prop := numeral l = false ∧ ∀ j, j < l.length → l.getD j 0 ≠ 58
theorem Nn.value {l : List UInt8} (h : Nn l) : value l = (0, 280) := by
  unfold Tk.value
  rw [h.1]; rfl
theorem Nn.parts {a : List UInt8} (b : List UInt8) (h : Nn a) : parts (a ++ 58 :: b) = (0, 0, 280) := by
  rw [parts_app a b h.2, h.value]
  rfl
theorem Nn.before {l : List UInt8} {x : Nat} (h : Wr l x) (c : UInt8) (hc : digit c = false) (h58 : c ≠ 58) : Nn (c :: l) := by
  refine ⟨by simp [Tk.numeral, hc], fun j hj => ?_⟩
  cases j with
  | zero => simpa using h58
  | succ j => simpa using h.no_colon j (by simpa using hj)
theorem Nn.behind {l : List UInt8} {x : Nat} (h : Wr l x) (c : UInt8) (hc : digit c = false) (h58 : c ≠ 58) : Nn (l ++ [c]) := by
  refine ⟨by simp [Tk.numeral, hc], fun j hj => ?_⟩
  rw [List.getD_eq_getElem?_getD]
  by_cases hjl : j < l.length
  · rw [List.getElem?_append_left hjl, ← List.getD_eq_getElem?_getD]
    exact h.no_colon j hjl
  · have : j = l.length := by simp at hj; omega
    subst this
    simpa using h58
theorem great (l : List UInt8) (x : Nat) (h : Wr l x) : value (49 :: (l ++ [48, 48, 48, 48, 48, 48, 48, 48, 48, 48])) = (0, 281) := by
  have h1 := num_big 49 (l ++ [48, 48, 48, 48, 48, 48, 48, 48, 48, 48]) rfl (by decide) (by simp)
  have h2 : numeral (49 :: (l ++ [48, 48, 48, 48, 48, 48, 48, 48, 48, 48])) = true := by
    simp only [Tk.numeral, List.all_cons, List.all_append, h.2.1]
    rfl
  unfold Tk.value
  rw [h2, if_pos rfl, if_pos h1]
theorem great_parts {a : List UInt8} {x : Nat} (h : Wr a x) (hx : x ≤ 1000000000) : parts (a ++ 58 :: [57, 57, 57, 57, 57, 57, 57, 57, 57, 57]) = (0, 0, 281) := by
  rw [parts_app a _ h.no_colon, h.value hx]
  rfl
/-- the digits written so far, and what is left -/
theorem wr_step (l : List UInt8) (m x : Nat) (h1 : l.all digit = true) (h2 : m * 10 ^ l.length + num l = x) :
    (UInt8.ofNat (48 + m % 10) :: l).all digit = true ∧ (m / 10) * 10 ^ (UInt8.ofNat (48 + m % 10) :: l).length + num (UInt8.ofNat (48 + m % 10) :: l) = x := by
  have hm : m % 10 < 10 := Nat.mod_lt _ (by omega)
  have hc : (UInt8.ofNat (48 + m % 10)).toNat = 48 + m % 10 := by
    rw [UInt8.toNat_ofNat_of_lt' (show 48 + m % 10 < 256 by omega)]
  refine ⟨by simp only [List.all_cons, h1, Bool.and_true, digit, hc]; simp; try omega, ?_⟩
  rw [num_cons, hc, List.length_cons, Nat.pow_succ]
  rw [show 48 + m % 10 - 48 = m % 10 by omega]
  have : m / 10 * (10 ^ l.length * 10) + m % 10 * 10 ^ l.length = m * 10 ^ l.length := by
    rw [Nat.mul_comm (10 ^ l.length) 10, ← Nat.mul_assoc, ← Nat.add_mul]
    congr 1
    omega
  omega
theorem wr_len (l : List UInt8) (m x : Nat) (h2 : m * 10 ^ l.length + num l = x) (hx : x ≤ 1000000000) (h3 : l = [] ∨ 0 < m) : l.length ≤ 9 := by
  rcases h3 with h3 | h3
  · rw [h3]; simp
  · rcases Nat.lt_or_ge 9 l.length with h | h
    · have h4 : 10 ^ 10 ≤ 10 ^ l.length := Nat.pow_le_pow_right (by omega) h
      have h5 : 1 * 10 ^ l.length ≤ m * 10 ^ l.length := Nat.mul_le_mul_right _ h3
      omega
    · exact h
end Tk
