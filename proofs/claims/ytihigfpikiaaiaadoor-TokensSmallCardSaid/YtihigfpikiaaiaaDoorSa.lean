/- Facts of the texts of TokensSmall: blanks and plus signs of the greatest length. -/
import Derived.Test.YtihigfpikiaaiaaDoorRk
namespace Go.Proofs.YtihigfpikiaaiaaDoor
open Go.RowKit

theorem bl_spaces (n : Nat) (l : List UInt8) : Tk.bl false (List.replicate n 32 ++ l) = n + Tk.bl false l := by
  induction n with
  | zero => simp
  | succ n ih =>
    rw [List.replicate_succ, List.cons_append]
    simp only [Tk.bl]
    rw [if_neg (by decide), if_pos (by decide), ih]
    omega
theorem rep_list (c : UInt8) (k : Nat) : Lib.repeatL [c] k = List.replicate k c := by
  induction k with
  | zero => rfl
  | succ k ih => rw [Lib.repeatL, ih, List.replicate_succ]; rfl
/-- k times a byte -/
def repS (c : UInt8) (k : Nat) : ByteArray := ⟨(Lib.repeatL [c] k).toArray⟩
theorem repS_list (c : UInt8) (k : Nat) : (repS c k).data.toList = List.replicate k c := by unfold repS; rw [rep_list]
theorem repS_size (c : UInt8) (k : Nat) : (repS c k).size = k := by
  rw [← size_list, repS_list, List.length_replicate]
theorem spaces_skip (k : Nat) : skipTo (repS 32 k) 0 = k := by
  unfold skipTo
  rw [List.drop_zero, repS_list]
  have := bl_spaces k []
  rw [List.append_nil] at this
  rw [this]
  simp [Tk.bl]
theorem spaces_scan (k : Nat) : stopAt (repS 32 k) = k ∧ scanErr (repS 32 k) = 0 := by
  have hk : tkKind (repS 32 k) (skipTo (repS 32 k) 0) = 0 := by
    rw [spaces_skip]
    have := tkKind_end (repS 32 k)
    rwa [repS_size] at this
  obtain ⟨h1, h2⟩ := scan_ends (repS 32 k) [] ((repS 32 k).size + 1) 0 (by simp) (by omega) hk
  rw [spaces_skip] at h1
  refine ⟨h1, ?_⟩
  unfold scanErr
  rw [h1, repS_size, if_neg (by omega)]
/-- spaces and a letter -/
def spacesA (k : Nat) : ByteArray := repS 32 k ++ ⟨#[97]⟩
theorem spacesA_list (k : Nat) : (spacesA k).data.toList = List.replicate k 32 ++ [97] := by unfold spacesA; rw [app_data, repS_list]
theorem spacesA_drop (k a : Nat) (h : a ≤ k) : (spacesA k).data.toList.drop a = List.replicate (k - a) 32 ++ [97] := by
  rw [spacesA_list, List.drop_append, List.drop_replicate]
  simp only [List.length_replicate]
  rw [show a - k = 0 by omega]
  rfl
theorem spacesA_size (k : Nat) : (spacesA k).size = k + 1 := by unfold spacesA; rw [ByteArray.size_append, repS_size]; rfl
theorem spacesA_skip (k a : Nat) (h : a ≤ k) : skipTo (spacesA k) a = k := by
  unfold skipTo
  rw [spacesA_drop k a h, bl_spaces]
  have : Tk.bl false [97] = 0 := by decide
  rw [this]
  omega
theorem spacesA_tok (k : Nat) : tkKind (spacesA k) k = 1 ∧ tkEnd (spacesA k) k = k + 1 ∧ nxErr (spacesA k) k = 0 := by
  have h : Tk.tok ((spacesA k).data.toList.drop k) = (1, 1) := by
    rw [spacesA_drop k k (Nat.le_refl _), Nat.sub_self]
    decide
  have h1 : tkKind (spacesA k) k = 1 := by unfold tkKind; rw [h]
  refine ⟨h1, by unfold tkEnd; rw [h], ?_⟩
  unfold nxErr
  rw [if_neg (by omega)]
theorem plus_drop (k a : Nat) : (repS 43 k).data.toList.drop a = List.replicate (k - a) 43 := by rw [repS_list, List.drop_replicate]
theorem plus_skip (k a : Nat) : skipTo (repS 43 k) a = a := by
  unfold skipTo
  rw [plus_drop]
  cases k - a with
  | zero => simp [Tk.bl]
  | succ m => rw [List.replicate_succ]; simp [Tk.bl, Tk.blankB]
theorem plus_tok (k a : Nat) (h : a < k) : tkKind (repS 43 k) a = 4 ∧ tkEnd (repS 43 k) a = a + 1 := by
  have ht : Tk.tok ((repS 43 k).data.toList.drop a) = (4, 1) := by
    rw [plus_drop]
    obtain ⟨m, hm⟩ : ∃ m, k - a = m + 1 := ⟨k - a - 1, by omega⟩
    rw [hm, List.replicate_succ]
    cases m with
    | zero => decide
    | succ m =>
      rw [List.replicate_succ]
      simp [Tk.tok, Tk.letter, Tk.digit, Tk.sign, Tk.pair, Tk.single, Tk.singleL]
  exact ⟨by unfold tkKind; rw [ht], by unfold tkEnd; rw [ht]⟩
theorem plus_places (k f a : Nat) (ha : a ≤ k) (hf : k < f + a) : places (repS 43 k) f a = List.range' a (k - a + 1) := by
  induction f generalizing a with
  | zero => omega
  | succ f ih =>
    simp only [places]
    rw [plus_skip]
    by_cases h : a < k
    · obtain ⟨h1, h2⟩ := plus_tok k a h
      rw [h1, h2, if_neg (by omega), ih (a + 1) (by omega) (by omega)]
      rw [show k - a + 1 = (k - (a + 1) + 1) + 1 by omega]
      exact (List.range'_succ (s := a) (n := k - (a + 1) + 1) (step := 1)).symm
    · have : a = k := by omega
      subst this
      have h0 := tkKind_end (repS 43 a)
      rw [repS_size] at h0
      rw [h0, if_pos rfl, Nat.sub_self]
      rfl
theorem plus_scan (k : Nat) : stopAt (repS 43 k) = k ∧ scanErr (repS 43 k) = 0 ∧ (scanL (repS 43 k)).length = k := by
  have h1 := plus_places k (k + 1) 0 (by omega) (by omega)
  have h2 := (places_eq (repS 43 k)).1
  rw [repS_size, h1, Nat.sub_zero, List.range'_concat] at h2
  obtain ⟨h3, h4⟩ := List.append_inj' h2 rfl
  simp only [List.cons.injEq, and_true] at h4
  have h5 : stopAt (repS 43 k) = k := by omega
  refine ⟨h5, by unfold scanErr; rw [h5, repS_size, if_neg (by omega)], ?_⟩
  unfold scanL
  rw [h5, repS_size, if_neg (by omega), ← h3, List.length_range']
end Go.Proofs.YtihigfpikiaaiaaDoor
