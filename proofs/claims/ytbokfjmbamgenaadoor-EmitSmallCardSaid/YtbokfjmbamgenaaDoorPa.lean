/- Chapter 17, plain: the log and the reference's log are alike, and stay so. -/
import Derived.Test.YtbokfjmbamgenaaDoorEs
import Derived.Test.YtbokfjmbamgenaaDoorRd
namespace Go.Proofs.YtbokfjmbamgenaaDoor
open Go.RowKit

/-- a log and one of the reference that say the same -/
structure Alike (L : ELog) (R : RLog) : Prop where
  inv : L.Inv
  last : R.last = (L.last : Int)
  steps : R.steps = L.steps
  done : R.done = L.done
  cnt : R.there.length = L.count
  nodup : R.there.Nodup
  mem : ∀ x, R.there.contains x = L.has x
theorem thereL_mem (n : Nat) (x : Int) : x ∈ thereL n ↔ 1 ≤ x ∧ x ≤ (n : Int) := by
  unfold thereL
  rw [List.mem_map]
  constructor
  · rintro ⟨i, hi, rfl⟩
    have := List.mem_range.1 hi
    omega
  · intro h
    exact ⟨(x - 1).toNat, List.mem_range.2 (by omega), by omega⟩
theorem thereL_nodup (n : Nat) : (thereL n).Nodup := by
  unfold thereL
  rw [List.Nodup, List.pairwise_map]
  exact List.nodup_range.imp (fun h => by omega)
theorem new_has' (m : Nat) (x : Int) : (newLog m).has x = decide (1 ≤ x ∧ x ≤ (m : Int)) := by
  unfold ELog.has newLog
  simp
theorem alike_new (n : Nat) (h : n ≤ 1048576) : Alike (newLog n) ⟨thereL n, n, [], false⟩ where
  inv := inv_new n h
  last := rfl
  steps := rfl
  done := rfl
  cnt := thereL_length n
  nodup := thereL_nodup n
  mem := fun x => by
    rw [Bool.eq_iff_iff, List.contains_iff_mem]
    show x ∈ thereL n ↔ _
    rw [thereL_mem, new_has', decide_eq_true_eq]
theorem alike_learnErr {L : ELog} {R : RLog} (h : Alike L R) (c hs : List Int) : refErr R c hs = learnErr L c hs := by
  unfold refErr learnErr
  rw [h.done]
  have e1 : (hs.any fun x => !R.there.contains x) = (hs.any fun x => !L.has x) := by
    congr 1
    funext x
    rw [h.mem]
  rw [e1, h.last, h.steps]
  have e2 : (1073741824 ≤ (L.last : Int) ∨ 262144 ≤ L.steps.length) ↔ L.full = true := by
    unfold ELog.full
    rw [Bool.or_eq_true, decide_eq_true_eq, decide_eq_true_eq]
    omega
  simp only [e2]
theorem alike_learnNum {L : ELog} {R : RLog} (h : Alike L R) (c hs : List Int) : refNum R c hs = learnNum L c hs := by
  unfold refNum learnNum
  rw [alike_learnErr h, h.last]
theorem alike_learn {L : ELog} {R : RLog} (h : Alike L R) (c hs : List Int) : Alike (learnLog L c hs) (refLog R c hs) := by
  unfold refLog learnLog
  rw [alike_learnErr h]
  by_cases he : learnErr L c hs = 0
  · rw [if_pos he, if_pos he]
    have hng : ((L.last : Int) + 1) ∉ L.gone := fun hm => by have := h.inv.rng _ hm; omega
    have hnt : ((L.last : Int) + 1) ∉ R.there := fun hm => by
      have h1 := h.mem ((L.last : Int) + 1)
      rw [List.contains_iff_mem.2 hm] at h1
      have := has_rng h1.symm
      omega
    refine ⟨inv_learn h.inv he, ?_, ?_, rfl, ?_, ?_, fun x => ?_⟩
    · show R.last + 1 = ((L.last + 1 : Nat) : Int)
      rw [h.last]
      omega
    · show R.steps ++ [_] = L.steps ++ [_]
      rw [h.steps, h.last]
    · show (R.there ++ [R.last + 1]).length = L.count + 1
      rw [List.length_append, h.cnt]
      rfl
    · show (R.there ++ [R.last + 1]).Nodup
      rw [h.last, List.nodup_append]
      refine ⟨h.nodup, by simp, fun a ha b hb e => ?_⟩
      rw [List.mem_singleton.1 hb] at e
      exact hnt (e ▸ ha)
    · show (R.there ++ [R.last + 1]).contains x = (L.learn c hs).has x
      rw [Bool.eq_iff_iff, List.contains_iff_mem, List.mem_append, List.mem_singleton, ← List.contains_iff_mem, h.mem, h.last]
      unfold ELog.has ELog.learn
      simp only [Bool.and_eq_true, decide_eq_true_eq, Bool.not_eq_true', List.contains_eq_mem, decide_eq_false_iff_not]
      constructor
      · rintro (h1 | rfl)
        · exact ⟨⟨h1.1.1, by have := h1.1.2; omega⟩, h1.2⟩
        · exact ⟨⟨by omega, by omega⟩, hng⟩
      · rintro ⟨⟨h1, h2⟩, h3⟩
        by_cases hx : x = (L.last : Int) + 1
        · exact .inr hx
        · exact .inl ⟨⟨h1, by omega⟩, h3⟩
  · rw [if_neg he, if_neg he]
    exact h
theorem refBad_badGo (L : ELog) (T seen ids : List Int) (h : ∀ x, T.contains x = (L.has x && !seen.contains x)) : refBad T ids = (badGo L seen ids).head? := by
  induction ids generalizing T seen with
  | nil => rfl
  | cons x r ih =>
    simp only [refBad, badGo]
    have hx := h x
    by_cases hc : T.contains x = true
    · rw [if_pos hc]
      rw [hc] at hx
      have hx' := (Bool.and_eq_true_iff.1 hx.symm)
      rw [if_neg (by rw [hx'.1]; simpa using hx'.2)]
      refine ih _ _ (fun y => ?_)
      rw [Bool.eq_iff_iff]
      have hy := Bool.eq_iff_iff.1 (h y)
      rw [List.contains_iff_mem] at hy ⊢
      rw [List.mem_filter, hy]
      simp only [Bool.and_eq_true, Bool.not_eq_true', List.contains_eq_mem, decide_eq_false_iff_not, List.mem_append, List.mem_singleton, not_or, bne_iff_ne]
      exact ⟨fun h => ⟨h.1.1, h.1.2, h.2⟩, fun h => ⟨⟨h.1, h.2.1⟩, h.2.2⟩⟩
    · have hc' : T.contains x = false := by simpa using hc
      rw [if_neg hc]
      rw [hc'] at hx
      rw [if_pos]
      · rfl
      · cases h1 : L.has x with
        | false => rfl
        | true =>
          rw [h1] at hx
          simpa using hx.symm
theorem refBad_alike {L : ELog} {R : RLog} (h : Alike L R) (ids : List Int) : refBad R.there ids = (badGo L [] ids).head? :=
  refBad_badGo L _ _ _ (fun x => by rw [h.mem]; simp)
theorem refRest_contains (T ids : List Int) (x : Int) : (refRest T ids).contains x = (T.contains x && !ids.contains x) := by
  induction ids generalizing T with
  | nil => show T.contains x = _; simp
  | cons y r ih =>
    show (refRest (T.filter (· != y)) r).contains x = _
    rw [ih, Bool.eq_iff_iff, Bool.and_eq_true, Bool.and_eq_true, List.contains_iff_mem, List.contains_iff_mem, List.mem_filter]
    simp only [Bool.not_eq_true', List.contains_eq_mem, decide_eq_false_iff_not, List.mem_cons, not_or, bne_iff_ne]
    exact ⟨fun h => ⟨h.1.1, h.1.2, h.2⟩, fun h => ⟨⟨h.1, h.2.1⟩, h.2.2⟩⟩
theorem refRest_nodup (T ids : List Int) (h : T.Nodup) : (refRest T ids).Nodup := by
  induction ids generalizing T with
  | nil => exact h
  | cons y r ih => exact ih _ (h.filter _)
theorem refRest_count (T ids : List Int) (h : T.Nodup) (hb : refBad T ids = none) : (refRest T ids).length + ids.length = T.length := by
  induction ids generalizing T with
  | nil => rfl
  | cons y r ih =>
    simp only [refBad] at hb
    split at hb
    · rename_i hy
      have h1 := ih _ (h.filter _) hb
      have h2 := h.erase_eq_filter y
      have h3 := List.length_erase_of_mem (List.contains_iff_mem.1 hy)
      rw [h2] at h3
      have h4 : 0 < T.length := List.length_pos_of_mem (List.contains_iff_mem.1 hy)
      show (refRest (T.filter (· != y)) r).length + (r.length + 1) = _
      omega
    · cases hb
/-- what keeps the limits of Forget away -/
structure Small (L : ELog) (n : Nat) : Prop where
  steps : L.steps.length < 262144
  hints : ∀ s ∈ L.steps, s.hints.length + n ≤ 65536
  num : n ≤ 65536
theorem small_tot {L : ELog} {ids : List Int} (h : Small L ids.length) : L.tot ids ≤ 65536 := by
  unfold ELog.tot
  split
  · rename_i s hs
    have := h.hints s (List.mem_of_getLast? hs)
    have := h.num
    split <;> omega
  · exact h.num
theorem alike_forgetErr {L : ELog} {R : RLog} (h : Alike L R) (ids : List Int) (hs : Small L ids.length) : refForgetErr R ids = forgetErr L ids := by
  unfold refForgetErr forgetErr
  rw [h.done, refBad_alike h]
  have e1 : ((badGo L [] ids).head? ≠ none) ↔ badGo L [] ids ≠ [] := by
    cases badGo L [] ids <;> simp
  simp only [e1]
  have e2 := small_tot hs
  have e3 := hs.steps
  have e4 : (if ids.length = 0 then 0 else if 65536 < L.tot ids then 5 else if L.join = false ∧ 262144 ≤ L.steps.length then 4 else 0) = 0 := by
    split
    · rfl
    · rw [if_neg (by omega), if_neg (by omega)]
  rw [e4]
theorem alike_forgetNum {L : ELog} {R : RLog} (h : Alike L R) (ids : List Int) (hs : Small L ids.length) : refForgetNum R ids = forgetNum L ids := by
  unfold refForgetNum forgetNum
  rw [h.done, refBad_alike h, alike_forgetErr h ids hs]
  cases badGo L [] ids <;> rfl
theorem alike_forget {L : ELog} {R : RLog} (h : Alike L R) (ids : List Int) (hs : Small L ids.length) : Alike (forgetLog L ids) (refForgetLog R ids) := by
  unfold refForgetLog forgetLog
  rw [alike_forgetErr h ids hs]
  by_cases he : forgetErr L ids = 0 ∧ ids.length ≠ 0
  · rw [if_pos he, if_pos he]
    have hinv := inv_forget h.inv he.1 he.2
    have hbg : badGo L [] ids = [] := by
      have h1 := he.1
      unfold forgetErr at h1
      split at h1
      · cases h1
      · split at h1
        · cases h1
        · rename_i h2
          simpa using h2
    have hbad : refBad R.there ids = none := by rw [refBad_alike h, hbg]; rfl
    have hcount := refRest_count _ _ h.nodup hbad
    obtain ⟨l1, l2, l3, l4, l5⟩ : (L.forget ids).last = L.last ∧ (L.forget ids).count = L.count - ids.length ∧ (L.forget ids).gone = L.gone ++ ids ∧ (L.forget ids).done = L.done ∧ (R.forget ids).there = refRest R.there ids ∧ (R.forget ids).last = R.last ∧ (R.forget ids).done = R.done ∧ (R.forget ids).steps = (L.forget ids).steps := by
      unfold ELog.forget RLog.forget
      rw [h.steps]
      cases hg : L.steps.getLast? with
      | none => exact ⟨rfl, rfl, rfl, rfl, rfl, rfl, rfl, by rw [h.last]; rfl⟩
      | some s =>
        simp only []
        by_cases hd : s.del = true
        · rw [if_pos hd, if_pos hd]
          exact ⟨rfl, rfl, rfl, rfl, rfl, rfl, rfl, rfl⟩
        · rw [if_neg hd, if_neg hd]
          exact ⟨rfl, rfl, rfl, rfl, rfl, rfl, rfl, by rw [h.last]; rfl⟩
    obtain ⟨l5, l6, l7, l8⟩ := l5
    refine ⟨hinv, by rw [l6, l1]; exact h.last, l8, by rw [l7, l4]; exact h.done, ?_, by rw [l5]; exact refRest_nodup _ _ h.nodup, fun x => ?_⟩
    · rw [l5, l2]
      have := h.cnt
      omega
    · rw [l5, refRest_contains, h.mem]
      unfold ELog.has
      rw [l1, l3, Bool.eq_iff_iff]
      simp only [Bool.and_eq_true, decide_eq_true_eq, Bool.not_eq_true', List.contains_eq_mem, decide_eq_false_iff_not, List.mem_append, not_or]
      exact ⟨fun h => ⟨h.1.1, h.1.2, h.2⟩, fun h => ⟨⟨h.1, h.2.1⟩, h.2.2⟩⟩
  · rw [if_neg he, if_neg he]
    exact h
/-- sizes of a log behind k calls of at most n IDs each -/
structure Within (L : ELog) (k n : Nat) : Prop where
  steps : L.steps.length ≤ k
  hints : ∀ s ∈ L.steps, s.hints.length ≤ k * n
theorem within_new (m n : Nat) : Within (newLog m) 0 n := ⟨Nat.le_refl _, fun s hs => by cases hs⟩
theorem Within.succ {L : ELog} {k n : Nat} (h : Within L k n) : Within L (k + 1) n :=
  ⟨Nat.le_succ_of_le h.steps, fun s hs => Nat.le_trans (h.hints s hs) (Nat.mul_le_mul_right _ (Nat.le_succ _))⟩
theorem within_learn {L : ELog} {k n : Nat} (h : Within L k n) (c hs : List Int) (hl : hs.length ≤ n) : Within (learnLog L c hs) (k + 1) n := by
  unfold learnLog
  split
  · refine ⟨by show (L.steps ++ [_]).length ≤ _; rw [List.length_append]; have := h.steps; simpa using this, fun s hm => ?_⟩
    rcases List.mem_append.1 (show s ∈ L.steps ++ [_] from hm) with h1 | h1
    · exact h.succ.hints s h1
    · rw [List.mem_singleton.1 h1, Nat.succ_mul]
      exact Nat.le_trans hl (Nat.le_add_left _ _)
  · exact h.succ
theorem within_forget {L : ELog} {k n : Nat} (h : Within L k n) (ids : List Int) (hl : ids.length ≤ n) : Within (forgetLog L ids) (k + 1) n := by
  unfold forgetLog
  split
  · have hadd : Within (L.addDel ids) (k + 1) n := by
      refine ⟨by show (L.steps ++ [_]).length ≤ _; rw [List.length_append]; have := h.steps; simpa using this, fun s hm => ?_⟩
      rcases List.mem_append.1 (show s ∈ L.steps ++ [_] from hm) with h1 | h1
      · exact h.succ.hints s h1
      · rw [List.mem_singleton.1 h1, Nat.succ_mul]
        exact Nat.le_trans hl (Nat.le_add_left _ _)
    unfold ELog.forget
    split
    · rename_i s0 hs0
      split
      · have hm0 := h.hints s0 (List.mem_of_getLast? hs0)
        have hk := h.steps
        refine ⟨by show (L.steps.dropLast ++ [_]).length ≤ _; rw [List.length_append, List.length_dropLast]; simp only [List.length_singleton]; omega, fun s hm => ?_⟩
        rcases List.mem_append.1 (show s ∈ L.steps.dropLast ++ [_] from hm) with h1 | h1
        · exact h.succ.hints s (List.dropLast_subset _ h1)
        · rw [List.mem_singleton.1 h1, Nat.succ_mul]
          show (s0.hints ++ ids).length ≤ _
          rw [List.length_append]
          omega
      · exact hadd
    · exact hadd
  · exact h.succ
theorem Within.small {L : ELog} {k n m : Nat} (h : Within L k n) (hk : k < 262144) (hm : m ≤ n) (hn : (k + 1) * n ≤ 65536) : Small L m := by
  have e : (k + 1) * n = k * n + n := Nat.succ_mul _ _
  refine ⟨Nat.lt_of_le_of_lt h.steps hk, fun s hs => ?_, by omega⟩
  have := h.hints s hs
  omega
theorem learn_last_le {L : ELog} (c hs : List Int) : (learnLog L c hs).last ≤ L.last + 1 := by
  unfold learnLog
  split
  · exact Nat.le_refl _
  · exact Nat.le_succ _
theorem forget_last {L : ELog} (ids : List Int) : (forgetLog L ids).last = L.last := by
  unfold forgetLog ELog.forget
  split
  · split
    · split <;> rfl
    · rfl
  · rfl
end Go.Proofs.YtbokfjmbamgenaaDoor
