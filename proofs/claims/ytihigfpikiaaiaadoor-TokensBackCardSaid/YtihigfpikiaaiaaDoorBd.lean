/- Where Next goes on from a token's end; the words that the law makes. -/
import Derived.Test.YtihigfpikiaaiaaDoorBc
namespace Go.Proofs.YtihigfpikiaaiaaDoor
open Go.RowKit

/-- where the search for the i-th token begins -/
def fromOf (s : ByteArray) (a : Nat) (l : List Nat) : Nat → Nat
  | 0 => a
  | i + 1 => tkEnd s (l.getD i 0)
theorem places_next (s : ByteArray) (f a : Nat) (l : List Nat) (z : Nat) (h : places s f a = l ++ [z]) (i : Nat) (hi : i ≤ l.length) : (l ++ [z])[i]? = some (skipTo s (fromOf s a l i)) := by
  induction f generalizing a l i with
  | zero => simp [places] at h
  | succ f ih =>
    simp only [places] at h
    split at h
    · have hl : l = [] := by
        cases l with
        | nil => rfl
        | cons x l =>
          have := congrArg List.length h
          simp at this
      subst hl
      have h0 : i = 0 := by simpa using hi
      subst h0
      rw [← h]
      rfl
    · cases l with
      | nil =>
        have h2 := congrArg List.length h
        simp only [List.length_cons, List.nil_append, List.length_nil] at h2
        have h3 : places s f (tkEnd s (skipTo s a)) = [] := List.length_eq_zero_iff.1 (by omega)
        have := ih (tkEnd s (skipTo s a)) [] 
        cases f with
        | zero =>
          simp only [List.nil_append, List.cons.injEq] at h
          have h0 : i = 0 := by simpa using hi
          subst h0
          rw [← h.1]
          rfl
        | succ f =>
          simp only [places] at h3
          split at h3 <;> cases h3
      | cons x l =>
        simp only [List.cons_append, List.cons.injEq] at h
        obtain ⟨hx, h⟩ := h
        cases i with
        | zero => rw [← hx]; rfl
        | succ i =>
          have := ih (tkEnd s (skipTo s a)) l h i (by simpa using hi)
          rw [List.cons_append, List.getElem?_cons_succ, this]
          congr 2
          cases i with
          | zero => simp [fromOf, hx]
          | succ i => simp [fromOf]
/-- the i-th search begins at the end before and finds the i-th token; the last finds the end -/
theorem scan_next (s : ByteArray) (i : Nat) (hi : i ≤ (tokensOf s).length) : (tokensOf s ++ [stopAt s])[i]? = some (skipTo s (fromOf s 0 (tokensOf s) i)) :=
  places_next s _ 0 _ _ (places_eq s).1 i hi

/-! ### the words -/
def wordOf (n : Nat) : List UInt8 :=
  if n % 4 = 0 then Tk.wordsL.getD (n / 4 % 5) [] else if n % 4 = 1 then Tk.numsL.getD (n / 4 % 4) [] else if n % 4 = 2 then Tk.litsL.getD (n / 4 % 3) [] else Tk.signsL.getD (n / 4 % 26) []
theorem getD_mem' (l : List (List UInt8)) (i : Nat) (h : i < l.length) : l.getD i [] ∈ l := by
  rw [List.getD_eq_getElem?_getD, List.getElem?_eq_getElem h]
  exact List.getElem_mem _
theorem wordOf_word (n : Nat) : ∃ k, Tk.Word (wordOf n) k := by
  unfold wordOf
  split
  · exact ⟨1, Tk.words_word _ (getD_mem' _ _ (by show _ < 5; omega))⟩
  · split
    · exact ⟨2, Tk.nums_word _ (getD_mem' _ _ (by show _ < 4; omega))⟩
    · split
      · exact ⟨3, Tk.lits_word _ (getD_mem' _ _ (by show _ < 3; omega))⟩
      · exact ⟨4, Tk.signs_word _ (getD_mem' _ _ (by show _ < 26; omega))⟩
def wordS (n : Nat) : ByteArray := ⟨(wordOf n).toArray⟩
theorem wordS_list (n : Nat) : (wordS n).data.toList = wordOf n := by unfold wordS; simp
theorem wordOf_len (n : Nat) : (wordOf n).length ≤ 12 := by
  have h : ∀ (l : List (List UInt8)), (∀ w ∈ l, w.length ≤ 12) → ∀ i, (l.getD i []).length ≤ 12 := fun l hl i => by
    rcases Nat.lt_or_ge i l.length with hi | hi
    · exact hl _ (getD_mem' l i hi)
    · rw [List.getD_eq_getElem?_getD, List.getElem?_eq_none hi]
      simp
  unfold wordOf
  split
  · exact h _ (by decide) _
  · split
    · exact h _ (by decide) _
    · split
      · exact h _ (by decide) _
      · exact h _ (by decide) _
end Go.Proofs.YtihigfpikiaaiaaDoor
