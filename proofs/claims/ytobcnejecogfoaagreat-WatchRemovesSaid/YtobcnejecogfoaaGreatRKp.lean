/- package salvorlaw13: WatchWrong. -/
import Derived.Test.YtobcnejecogfoaaGreatRKo
namespace Go.Proofs.YtobcnejecogfoaaGreat
open Go.RowKit

theorem k_own (W : World) (xs : List Value) (t : TypeId) (h : xs.length ≤ 1000) : (W.alloc (.cells xs.toArray t)).ownsRow W.heap.size t 1 (.slice (some ⟨W.heap.size, 0, none⟩) xs.length xs.length) xs.length xs :=
  ⟨by simp, .inr ⟨W.heap.size, xs.length, _, rfl, Nat.le_refl _, World.alloc_heap_new _ _, Nat.le_refl _, by unfold maxLen; omega, by simp, by simp⟩⟩
/-- the numbers of clauses that are known, in their order -/
theorem keys_eq {S : Wst} (hb : S.Bnd) {k : Nat} (h : ∀ j, (S.kn j).isSome = decide (1 ≤ j ∧ j ≤ (k : Int))) : S.known.map Prod.fst = (List.range k).map fun i : Nat => (i : Int) + 1 := by
  have hr : (S.known.map Prod.fst).Pairwise (· < ·) := by
    have := hb.kr
    unfold Rising at this
    rw [List.pairwise_map]
    exact this
  have hs : ((List.range k).map fun i : Nat => (i : Int) + 1).Pairwise (· < ·) := by
    rw [List.pairwise_map]
    exact List.pairwise_lt_range.imp (fun h => by omega)
  refine List.Perm.eq_of_pairwise (le := fun a b : Int => a < b) (fun a b _ _ h1 h2 => by omega) hr hs ?_
  refine (List.perm_ext_iff_of_nodup (hr.imp (fun h e => by omega)) (hs.imp (fun h e => by omega))).2 (fun j => ?_)
  have h1 : j ∈ S.known.map Prod.fst ↔ (S.kn j).isSome = true := by
    rw [List.mem_map]
    constructor
    · rintro ⟨p, hp, rfl⟩
      cases hg : S.kn p.1 with
      | some k => rfl
      | none =>
        exact absurd hp (getA_none.1 hg p.2)
    · intro hi
      obtain ⟨k, hk⟩ := Option.isSome_iff_exists.1 hi
      exact ⟨_, getA_some hk, rfl⟩
  rw [h1, h, List.mem_map, decide_eq_true_eq]
  constructor
  · rintro ⟨h1, h2⟩
    exact ⟨(j - 1).toNat, List.mem_range.2 (by omega), by omega⟩
  · rintro ⟨i, hi, rfl⟩
    have := List.mem_range.1 hi
    omega
theorem get_cls2 {cs : List (List Int)} (h : ∀ c ∈ cs, clauseB c = true) (hl : cs.length ≤ 900) (j : Int) : (addAll arn0 0 cs).get j = clsC cs j := by
  rw [(addAll_get cs arn0 0 inv0 (by decide) (by omega) j).1]
  unfold clsC
  by_cases hj : 1 ≤ j
  · rw [if_pos (by omega), if_pos hj, show (j - ((0 : Nat) : Int) - 1).toNat = (j - 1).toNat by omega]
    cases hc : cs[(j - 1).toNat]? with
    | none => rfl
    | some c =>
      show (if clauseB c = true then some c else none) = some c
      rw [if_pos (h c (List.mem_of_getElem? hc))]
  · rw [if_neg (by omega), if_neg hj]
    exact Arn.get_low _ (by omega)
end Go.Proofs.YtobcnejecogfoaaGreat
