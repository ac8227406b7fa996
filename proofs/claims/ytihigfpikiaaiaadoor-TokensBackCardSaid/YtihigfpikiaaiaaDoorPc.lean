/- Plain lists of bytes: lines and columns, and that they are those of the pieces between line feeds; no conditions. -/
import Derived.Test.YtihigfpikiaaiaaDoorPb
import Derived.Lib.Split
import Derived.Lib.SplitLaws
import Derived.Lib.CountLaws
namespace Tk
open Go

/-- the line and the column behind some bytes -/
def lineN (l : List UInt8) : Nat := l.foldl (fun n c => if c == 10 then n + 1 else n) 1
def colN (l : List UInt8) : Nat := l.foldl (fun n c => if c == 10 then 1 else n + 1) 1
theorem lineN_snoc (l : List UInt8) (c : UInt8) : lineN (l ++ [c]) = if c == 10 then lineN l + 1 else lineN l := by simp [lineN]
theorem colN_snoc (l : List UInt8) (c : UInt8) : colN (l ++ [c]) = if c == 10 then 1 else colN l + 1 := by simp [colN]
theorem line_fold (l : List UInt8) (n : Nat) : l.foldl (fun n c => if c == 10 then n + 1 else n) n = n + l.count 10 := by
  induction l generalizing n with
  | nil => simp
  | cons c r ih =>
    simp only [List.foldl_cons, ih, List.count_cons]
    split <;> omega
theorem lineN_eq (l : List UInt8) : lineN l = 1 + l.count 10 := line_fold l 1
theorem col_none (l : List UInt8) (n : Nat) (h : ∀ c ∈ l, c ≠ 10) : l.foldl (fun n c => if c == 10 then 1 else n + 1) n = n + l.length := by
  induction l generalizing n with
  | nil => simp
  | cons c r ih =>
    have hc : (c == 10) = false := by simpa using h c (by simp)
    simp only [List.foldl_cons, hc, Bool.false_eq_true, if_false, List.length_cons]
    rw [ih _ (fun d hd => h d (by simp [hd]))]
    omega
theorem colN_none (l : List UInt8) (h : ∀ c ∈ l, c ≠ 10) : colN l = l.length + 1 := by
  unfold colN; rw [col_none l 1 h]; omega
theorem colN_at (a r : List UInt8) : colN (a ++ 10 :: r) = colN r := by simp [colN]
theorem lineN_at (a r : List UInt8) (h : ∀ c ∈ a, c ≠ 10) : lineN (a ++ 10 :: r) = 1 + lineN r := by
  rw [lineN_eq, lineN_eq, List.count_append, List.count_cons, List.count_eq_zero_of_not_mem (fun hm => h 10 hm rfl)]
  simp
  omega
theorem lineN_none (l : List UInt8) (h : ∀ c ∈ l, c ≠ 10) : lineN l = 1 := by
  rw [lineN_eq, List.count_eq_zero_of_not_mem (fun hm => h 10 hm rfl)]

theorem index_one (l : List UInt8) (c : UInt8) : Lib.index l [c] = Lib.indexByte l c := by
  induction l with
  | nil => rfl
  | cons b l ih =>
    have : [c].isPrefixOf (b :: l) = (c == b) := by simp [List.isPrefixOf]
    simp only [Lib.index, Lib.indexByte, this, ih]
    by_cases h : b = c
    · simp [h]
    · have h' : ¬ c = b := fun e => h e.symm
      simp [h, h']
theorem indexB_nl (s : ByteArray) : Lib.indexB s ⟨#[10]⟩ = Lib.indexByte s.data.toList 10 := index_one _ _
theorem none_of_index (l : List UInt8) (c : UInt8) (h : Lib.indexByte l c < 0) : ∀ d ∈ l, d ≠ c := by
  intro d hd e
  obtain ⟨j, hj, he⟩ := List.getElem_of_mem hd
  refine index_none l c h j hj ?_
  rw [List.getD_eq_getElem?_getD, List.getElem?_eq_getElem hj, he, e]
  rfl
theorem split_at (l : List UInt8) (c : UInt8) (h : 0 ≤ Lib.indexByte l c) : l = l.take (Lib.indexByte l c).toNat ++ c :: l.drop ((Lib.indexByte l c).toNat + 1) ∧ ∀ d ∈ l.take (Lib.indexByte l c).toNat, d ≠ c := by
  obtain ⟨h1, h2, h3⟩ := index_at l c h
  generalize (Lib.indexByte l c).toNat = i at *
  constructor
  · have e := List.take_append_drop i l
    rw [List.drop_eq_getElem_cons h1] at e
    rw [List.getD_eq_getElem?_getD, List.getElem?_eq_getElem h1] at h2
    simp only [Option.getD_some] at h2
    rw [h2] at e
    exact e.symm
  · intro d hd e
    obtain ⟨j, hj, he⟩ := List.getElem_of_mem hd
    simp only [List.length_take] at hj
    refine h3 j (by omega) ?_
    rw [List.getElem_take] at he
    rw [List.getD_eq_getElem?_getD, List.getElem?_eq_getElem (by omega), he, e]
    rfl

theorem split_lines (k : Nat) : ∀ s : ByteArray, s.size ≤ k → (Lib.splitB ⟨#[10]⟩ 0 (Lib.countB s ⟨#[10]⟩) s).length = Lib.countB s ⟨#[10]⟩ + 1 ∧ Lib.countB s ⟨#[10]⟩ + 1 = lineN s.data.toList ∧
    ∃ t, (Lib.splitB ⟨#[10]⟩ 0 (Lib.countB s ⟨#[10]⟩) s)[Lib.countB s ⟨#[10]⟩]? = some t ∧ t.size + 1 = colN s.data.toList := by
  induction k with
  | zero =>
    intro s hs
    have e : s.data.toList = [] := List.eq_nil_of_length_eq_zero (by have : s.data.toList.length = s.size := by simp
                                                                     omega)
    have hi : Lib.indexB s ⟨#[10]⟩ = -1 := by rw [indexB_nl, e]; rfl
    rw [Lib.countB_miss s _ hi, Lib.splitB_zero, e]
    exact ⟨rfl, rfl, s, rfl, by show s.size + 1 = 1; omega⟩
  | succ k ih =>
    intro s hs
    by_cases h : Lib.indexByte s.data.toList 10 < 0
    · have hge := Lib.indexByte_ge s.data.toList 10
      have hi : Lib.indexB s ⟨#[10]⟩ = -1 := by rw [indexB_nl]; omega
      have hn := none_of_index _ _ h
      rw [Lib.countB_miss s _ hi, Lib.splitB_zero, lineN_none _ hn, colN_none _ hn]
      exact ⟨rfl, rfl, s, rfl, by simp⟩
    · have hi : Lib.indexB s ⟨#[10]⟩ = ((Lib.indexByte s.data.toList 10).toNat : Nat) := by rw [indexB_nl]; omega
      obtain ⟨h1, h2⟩ := split_at s.data.toList 10 (by omega)
      obtain ⟨h3, _, _⟩ := index_at s.data.toList 10 (by omega)
      have hsz : s.data.toList.length = s.size := by simp
      have he : (s.extract ((Lib.indexByte s.data.toList 10).toNat + (⟨#[10]⟩ : ByteArray).size) s.size).data.toList = s.data.toList.drop ((Lib.indexByte s.data.toList 10).toNat + 1) := Lib.extract_to_end _ _
      have hlen : (s.extract ((Lib.indexByte s.data.toList 10).toNat + (⟨#[10]⟩ : ByteArray).size) s.size).size ≤ k := by
        have e2 : (s.extract ((Lib.indexByte s.data.toList 10).toNat + (⟨#[10]⟩ : ByteArray).size) s.size).data.toList.length = (s.extract ((Lib.indexByte s.data.toList 10).toNat + (⟨#[10]⟩ : ByteArray).size) s.size).size := by simp
        rw [he, List.length_drop] at e2
        omega
      obtain ⟨i1, i2, t, i3, i4⟩ := ih _ hlen
      have el : lineN s.data.toList = 1 + lineN (s.data.toList.drop ((Lib.indexByte s.data.toList 10).toNat + 1)) := (congrArg lineN h1).trans (lineN_at _ _ h2)
      have ec : colN s.data.toList = colN (s.data.toList.drop ((Lib.indexByte s.data.toList 10).toNat + 1)) := (congrArg colN h1).trans (colN_at _ _)
      rw [Lib.countB_hit s ⟨#[10]⟩ _ (by decide) hi, Nat.add_comm 1, Lib.splitB_hit _ _ _ _ _ hi, el, ec]
      rw [he] at i2 i4
      refine ⟨by rw [List.length_cons, i1], by rw [← i2]; omega, t, by simpa using i3, i4⟩
end Tk
