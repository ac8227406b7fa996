/- How many different numbers there are in a list: sorted, and compacted. -/
import Derived.Test.YtfbiaclpopjipaaAq
namespace Go.Proofs.Ytfbiaclpopjipaa
open Go.RowKit

/-- how many different numbers -/
def dn (xs : List Int) : Nat := (Lib.compact (sortI xs)).length
theorem compact_up (d : Array Int) (n : Nat) (hs : ∀ i j, i ≤ j → j < n → d[i]! ≤ d[j]!) (m : Nat) (hm : m ≤ n) :
    (Lib.compactUpTo d m).Pairwise (· < ·) ∧ (∀ y ∈ Lib.compactUpTo d m, ∃ j, j < m ∧ y = d[j]!) ∧ ∀ j, j < m → d[j]! ∈ Lib.compactUpTo d m := by
  induction m with
  | zero => exact ⟨by simp [Lib.compactUpTo], fun y hy => by simp [Lib.compactUpTo] at hy, fun j hj => by omega⟩
  | succ m ih =>
    obtain ⟨h1, h2, h3⟩ := ih (by omega)
    rw [Lib.compactUpTo_succ]
    by_cases h0 : m = 0
    · subst h0
      have hk : Lib.keeps d 0 = true := Lib.keeps_lt_one d 0 (by omega)
      have he : Lib.compactUpTo d 0 = [] := by simp [Lib.compactUpTo]
      rw [he, hk]
      simp only [if_true, List.nil_append]
      exact ⟨List.pairwise_singleton _ _, fun y hy => ⟨0, by omega, by simpa using hy⟩, fun j hj => by
        obtain rfl : j = 0 := by omega
        simp⟩
    · by_cases hne : d[m]! = d[m - 1]!
      · rw [Lib.keeps_neg (by omega) hne]
        simp only [Bool.false_eq_true, if_false, List.append_nil]
        refine ⟨h1, fun y hy => ?_, fun j hj => ?_⟩
        · obtain ⟨j, hj, e⟩ := h2 y hy
          exact ⟨j, by omega, e⟩
        · by_cases hjm : j = m
          · rw [hjm, hne]
            exact h3 (m - 1) (by omega)
          · exact h3 j (by omega)
      · rw [Lib.keeps_pos hne]
        simp only [if_true]
        refine ⟨List.pairwise_append.2 ⟨h1, List.pairwise_singleton _ _, fun y hy z hz => ?_⟩, fun y hy => ?_, fun j hj => ?_⟩
        · obtain ⟨j, hj, rfl⟩ := h2 y hy
          obtain rfl := List.mem_singleton.1 hz
          have a1 := hs j (m - 1) (by omega) (by omega)
          have a2 := hs (m - 1) m (by omega) (by omega)
          omega
        · rcases List.mem_append.1 hy with hy | hy
          · obtain ⟨j, hj, e⟩ := h2 y hy
            exact ⟨j, by omega, e⟩
          · exact ⟨m, by omega, List.mem_singleton.1 hy⟩
        · by_cases hjm : j = m
          · rw [hjm]
            exact List.mem_append_right _ (List.mem_singleton.2 rfl)
          · exact List.mem_append_left _ (h3 j (by omega))
theorem sortI_sorted (xs : List Int) : (sortI xs).Pairwise (· ≤ ·) := by
  have := List.pairwise_mergeSort (le := fun x y : Int => decide (x ≤ y)) (fun a b c h1 h2 => by simp at *; omega) (fun a b => by simp; omega) xs
  exact this.imp (fun h => by simpa using h)
theorem sortI_mem (xs : List Int) (x : Int) : x ∈ sortI xs ↔ x ∈ xs := (List.mergeSort_perm xs _).mem_iff
theorem dn_nodup (xs : List Int) : (Lib.compact (sortI xs)).Nodup ∧ ∀ x, x ∈ Lib.compact (sortI xs) ↔ x ∈ xs := by
  have hs : ∀ i j, i ≤ j → j < (sortI xs).length → (sortI xs).toArray[i]! ≤ (sortI xs).toArray[j]! := by
    intro i j hij hj
    have hi : i < (sortI xs).length := by omega
    rw [show (sortI xs).toArray[i]! = (sortI xs)[i] by simp [hi], show (sortI xs).toArray[j]! = (sortI xs)[j] by simp [hj]]
    rcases Nat.eq_or_lt_of_le hij with rfl | hlt
    · exact Int.le_refl _
    · exact List.pairwise_iff_getElem.1 (sortI_sorted xs) i j hi hj hlt
  obtain ⟨h1, h2, h3⟩ := compact_up (sortI xs).toArray (sortI xs).length hs (sortI xs).length (Nat.le_refl _)
  refine ⟨h1.imp (fun h => by omega), fun x => ⟨fun hx => ?_, fun hx => ?_⟩⟩
  · obtain ⟨j, hj, rfl⟩ := h2 x hx
    rw [show (sortI xs).toArray[j]! = (sortI xs)[j] by simp [hj]]
    exact (sortI_mem xs _).1 (List.getElem_mem hj)
  · obtain ⟨j, hj, rfl⟩ := List.getElem_of_mem ((sortI_mem xs x).2 hx)
    have := h3 j hj
    rwa [show (sortI xs).toArray[j]! = (sortI xs)[j] by simp [hj]] at this
theorem dn_le {xs ys : List Int} (h : ∀ x ∈ xs, x ∈ ys) : dn xs ≤ dn ys :=
  List.Nodup.length_le_of_subset (dn_nodup xs).1 (fun x hx => ((dn_nodup ys).2 x).2 (h x (((dn_nodup xs).2 x).1 hx)))
theorem dn_len (xs : List Int) : dn xs ≤ xs.length := List.Nodup.length_le_of_subset (dn_nodup xs).1 (fun x hx => ((dn_nodup xs).2 x).1 hx)
theorem dn_append (xs ys : List Int) : dn (xs ++ ys) ≤ dn xs + dn ys := by
  unfold dn
  rw [← List.length_append]
  refine List.Nodup.length_le_of_subset (dn_nodup (xs ++ ys)).1 (fun x hx => ?_)
  rcases List.mem_append.1 (((dn_nodup (xs ++ ys)).2 x).1 hx) with h | h
  · exact List.mem_append_left _ (((dn_nodup xs).2 x).2 h)
  · exact List.mem_append_right _ (((dn_nodup ys).2 x).2 h)
theorem dn_seen {xs seen : List Int} (hn : seen.Nodup) (h : ∀ x, x ∈ seen ↔ x ∈ xs) : dn xs = seen.length := by
  refine Nat.le_antisymm ?_ ?_
  · exact List.Nodup.length_le_of_subset (dn_nodup xs).1 (fun x hx => (h x).2 (((dn_nodup xs).2 x).1 hx))
  · exact List.Nodup.length_le_of_subset hn (fun x hx => ((dn_nodup xs).2 x).2 ((h x).1 hx))
theorem dn_bound {xs : List Int} {n : Nat} (h : ∀ x ∈ xs, 1 ≤ x ∧ x ≤ (n : Int)) : dn xs ≤ n := by
  have hl : ((List.range n).map fun k : Nat => (k : Int) + 1).length = n := by simp
  rw [← hl]
  refine List.Nodup.length_le_of_subset (dn_nodup xs).1 (fun x hx => ?_)
  have hx' := h x (((dn_nodup xs).2 x).1 hx)
  exact List.mem_map.2 ⟨(x - 1).toNat, List.mem_range.2 (by omega), by omega⟩
end Go.Proofs.Ytfbiaclpopjipaa
