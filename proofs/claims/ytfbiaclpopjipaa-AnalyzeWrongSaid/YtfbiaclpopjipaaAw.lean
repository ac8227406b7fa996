/- Plain: what Conflict tells at AnalyzeWrong's trails. -/
import Derived.Test.YtfbiaclpopjipaaAu
import Derived.Test.YtfbiaclpopjipaaTh
namespace Go.Proofs.Ytfbiaclpopjipaa
open Go

def z4 : TV := ⟨0, 0, 0, 0⟩
/-- two decisions at a level -/
def trD : Trl := ⟨[z4, ⟨1, 0, 0, -1⟩, ⟨1, 0, 1, -1⟩, z4, z4, z4, z4], [-1, -2], [0, 0]⟩
/-- a decision, and a literal with a reason -/
def trR (r : Int) : Trl := ⟨[z4, ⟨1, 0, 0, 1⟩, ⟨1, r, 1, -1⟩, z4, z4, z4, z4], [1, -2], [0, 0]⟩
theorem trD_eq : ((trl0 6).push.assigned (-1) 0).assigned (-2) 0 = trD := by kernel_rfl
theorem trD_back : trD.back 0 0 = trl0 6 := by kernel_rfl
theorem trR_eq {r : Int} (h0 : 0 ≤ r) (h1 : r ≤ 1073741824) : ((trl0 6).push.assigned 1 0).assigned (-2) r = trR r ∧ ((trl0 6).push.assigned 1 0).assignErr (-2) r = 0 := by
  have e : (trl0 6).push.assigned 1 0 = ⟨[z4, ⟨1, 0, 0, 1⟩, z4, z4, z4, z4, z4], [1], [0, 0]⟩ := by kernel_rfl
  rw [e]
  have ha : Trl.at (⟨[z4, ⟨1, 0, 0, 1⟩, z4, z4, z4, z4, z4], [1], [0, 0]⟩ : Trl) ((litV (-2) : Nat) : Int) = some z4 := by kernel_rfl
  have hE : Trl.assignErr (⟨[z4, ⟨1, 0, 0, 1⟩, z4, z4, z4, z4, z4], [1], [0, 0]⟩ : Trl) (-2) r = 0 := by
    unfold Trl.assignErr
    rw [ha]
    simp only []
    rw [if_neg (by omega), if_neg (by simp [z4])]
  refine ⟨?_, hE⟩
  unfold Trl.assigned
  rw [if_pos hE]
  rfl
theorem conf_miss {A : Arn} {T : Trl} {id : Int} (h : A.get id = none) : confP A T id = (lrn0, 30) := by
  unfold confP
  rw [h]
theorem conf_free {A : Arn} {id : Int} (h : A.get id = some [1, 2]) : confP A (trl0 6) id = (lrn0, 140) := by
  unfold confP
  rw [h]
  have : (trl0 6).failMax [1, 2] 0 = none := by kernel_rfl
  simp only [this]
theorem right_none {A : Arn} {T : Trl} {l r : Int} (hr : T.reason (litV l : Nat) = r) (h : A.get r = none) : rightP A T l = none := by
  unfold rightP
  rw [hr, h]
theorem conf_two {A : Arn} {id : Int} (h : A.get id = some [1, 2]) : confP A trD id = (lrn0, 141) := by
  unfold confP
  rw [h]
  have h1 : trD.failMax [1, 2] 0 = some 1 := by kernel_rfl
  have h2 : cfEnd A trD 1 [1, 2] = none := by
    have e : cfEnd A trD 1 [1, 2] = cfRun A trD 1 ⟨[1, 2], 2, [], [], []⟩ [-2, -1] := by rfl
    rw [e]
    have e2 : cfStep A trD 1 ⟨[1, 2], 2, [], [], []⟩ (-2) = none := by
      unfold cfStep
      rw [if_neg (by decide), if_neg (by decide), right_none (r := 0) (by decide) (A.get_low (by decide))]
    unfold cfRun
    rw [e2]
  simp only [h1, h2]
theorem conf_lost {A : Arn} {id r : Int} (h : A.get id = some [-1, 2]) (hr : A.get r = none) : confP A (trR r) id = (lrn0, 141) := by
  unfold confP
  rw [h]
  have h1 : (trR r).failMax [-1, 2] 0 = some 1 := by rfl
  have h2 : cfEnd A (trR r) 1 [-1, 2] = none := by
    have e : cfEnd A (trR r) 1 [-1, 2] = cfRun A (trR r) 1 ⟨[1, 2], 2, [], [], []⟩ [-2, 1] := by rfl
    rw [e]
    have e2 : cfStep A (trR r) 1 ⟨[1, 2], 2, [], [], []⟩ (-2) = none := by
      unfold cfStep
      rw [if_neg (by decide), if_neg (fun h => Bool.noConfusion ((show (trR r).goes 1 2 ((litV (-2) : Nat) : Int) = true by rfl).symm.trans h)), right_none (r := r) rfl hr]
    unfold cfRun
    rw [e2]
  simp only [h1, h2]
theorem conf_one {A : Arn} {id r : Int} (h : A.get id = some [-1, 2]) (hr : A.get r = some [-1, -2]) : ∃ x : Lrn, confP A (trR r) id = (x, 0) ∧ x.lits = [-1] := by
  unfold confP
  rw [h]
  have h1 : (trR r).failMax [-1, 2] 0 = some 1 := by rfl
  have hR : rightP A (trR r) (-2) = some (r, [-1, -2]) := by
    rw [rightP_some (r := r) rfl hr, if_pos ⟨by rfl, by decide, by rfl⟩]
  have h2 : cfEnd A (trR r) 1 [-1, 2] = some ⟨[1, 2], 1, [-1], [r], [2, 1]⟩ := by
    have e : cfEnd A (trR r) 1 [-1, 2] = cfRun A (trR r) 1 ⟨[1, 2], 2, [], [], []⟩ [-2, 1] := by rfl
    rw [e]
    have e2 : cfStep A (trR r) 1 ⟨[1, 2], 2, [], [], []⟩ (-2) = some ⟨[1, 2], 1, [], [r], [2]⟩ := by
      unfold cfStep
      rw [if_neg (by decide), if_neg (fun h => Bool.noConfusion ((show (trR r).goes 1 2 ((litV (-2) : Nat) : Int) = true by rfl).symm.trans h)), hR]
      rfl
    have e3 : cfStep A (trR r) 1 ⟨[1, 2], 1, [], [r], [2]⟩ 1 = some ⟨[1, 2], 1, [-1], [r], [2, 1]⟩ := by rfl
    unfold cfRun
    rw [e2]
    unfold cfRun
    simp only [e3]
    rfl
  simp only [h1, h2]
  exact ⟨_, rfl, rfl⟩
/-- nothing of an arena is gone -/
structure Arn.Full (A : Arn) : Prop where
  used : A.used = A.store.length
  count : A.count = A.all.length
theorem Arn.Full.add {A : Arn} (h : A.Full) (id : Int) (c : List Int) : (A.add id c).Full := by
  obtain ⟨h1, h2⟩ := h
  constructor
  · show A.used + c.length = (A.store ++ c).length
    rw [h1, List.length_append]
  · show A.count + 1 = (A.all ++ [_]).length
    rw [h2, List.length_append]
    rfl
theorem addAll_full (cs : List (List Int)) (A : Arn) (i : Nat) (h : A.Full) : (addAll A i cs).Full := by
  induction cs generalizing A i with
  | nil => exact h
  | cons c cs ih =>
    refine ih _ _ ?_
    unfold Arn.put
    split
    · exact h.add _ _
    · exact h
theorem addAll_low (cs : List (List Int)) (A : Arn) (i : Nat) (h : A.Low i) (hc : ∀ c ∈ cs, c.length ≤ 1000) : (addAll A i cs).Low (i + cs.length) := by
  induction cs generalizing A i with
  | nil => exact h
  | cons c cs ih =>
    have := ih _ (i + 1) (h.next c (hc c (List.mem_cons_self ..))) (fun c h => hc c (List.mem_cons_of_mem _ h))
    rw [List.length_cons, show i + (cs.length + 1) = i + 1 + cs.length by omega]
    exact this
/-- where a clause lies -/
theorem Arn.Inv.lies {A : Arn} (h : A.Inv) {id : Int} {c : List Int} (hg : A.get id = some c) : ∃ p x, A.find id = some p ∧ A.all[p]? = some x ∧ x.upto - x.fr = c.length ∧ x.upto ≤ A.store.length := by
  unfold Arn.get Arn.ent at hg
  cases hf : A.find id with
  | none => rw [hf] at hg; cases hg
  | some p =>
    rw [hf] at hg
    obtain ⟨x, hx, _, _⟩ := Arn.find_lt hf
    simp only [hx, Option.some.injEq] at hg
    have hsp := h.span x (List.mem_of_getElem? hx)
    refine ⟨p, x, rfl, hx, ?_, hsp.2⟩
    rw [← hg, List.length_take, List.length_drop]
    omega
/-- the arena of AnalyzeWrong -/
structure WrA (L : Nat) (A : Arn) : Prop where
  one : A.get ((L : Int) + 1) = some [1, 2]
  two : A.get ((L : Int) + 2) = some [-1, -2]
  low : A.Low (L + 2)
  inv : A.Inv
  full : A.Full
  gone : ∀ j : Int, j < 1 ∨ (L : Int) + 3 ≤ j → A.get j = none
theorem wrA {cs : List (List Int)} {L : Nat} (hL : cs.length = L) (hl : L ≤ 10) (hc : ∀ c ∈ cs, clauseB c = true ∧ c.length ≤ 1000) : WrA L (addAll arn0 0 (cs ++ [[1, 2], [-1, -2]])) := by
  have hlen : (cs ++ [[1, 2], [-1, -2]]).length = L + 2 := by rw [List.length_append, hL]; rfl
  have hcc : ∀ c ∈ cs ++ [[1, 2], [-1, -2]], c.length ≤ 1000 := fun c h => by
    rcases List.mem_append.1 h with h | h
    · exact (hc c h).2
    · simp only [List.mem_cons, List.not_mem_nil, or_false] at h
      rcases h with rfl | rfl <;> decide
  have hlow := addAll_low (cs ++ [[1, 2], [-1, -2]]) arn0 0 ⟨by decide, by decide, by decide, by decide, by decide⟩ hcc
  rw [hlen, Nat.zero_add] at hlow
  have hget := fun j => addAll_get (cs ++ [[1, 2], [-1, -2]]) arn0 0 inv0 (by decide) (by rw [hlen]; omega) j
  refine ⟨?_, ?_, hlow, (hget 0).2.1, addAll_full _ _ _ ⟨rfl, rfl⟩, fun j hj => ?_⟩
  · rw [(hget _).1, if_pos (by omega), show ((L : Int) + 1 - ((0 : Nat) : Int) - 1).toNat = L by omega, List.getElem?_append_right (by omega), hL, Nat.sub_self]
    rfl
  · rw [(hget _).1, if_pos (by omega), show ((L : Int) + 2 - ((0 : Nat) : Int) - 1).toNat = L + 1 by omega, List.getElem?_append_right (by omega), hL, show L + 1 - L = 1 by omega]
    rfl
  · rcases hj with hj | hj
    · exact Arn.get_low _ hj
    · refine (hget 0).2.1.gone ?_
      have := (hget 0).2.2
      rw [hlen] at this
      omega
end Go.Proofs.Ytfbiaclpopjipaa
