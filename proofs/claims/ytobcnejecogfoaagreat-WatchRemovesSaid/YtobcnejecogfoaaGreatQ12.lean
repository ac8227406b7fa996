/- Plain: what a trail says of literals, by the list of what was assigned. -/
import Derived.Test.YtobcnejecogfoaaGreatQ11
import Derived.Test.YtobcnejecogfoaaGreatQ10
namespace Go.Proofs.YtobcnejecogfoaaGreat
open Go.RowKit

variable {T : Trl} {its : List RIt}
theorem litS_not (l : Int) : litS l ≠ 0 := by
  unfold litS
  split <;> decide
theorem Sim.fal_iff (h : Sim T its) {y : Int} (hy : litB y = true) : T.fal y = true ↔ ∃ (p : Nat) (x : RIt), its[p]? = some x ∧ x.lit = -y := by
  have hn := (litB_iff y).1 hy
  unfold Trl.fal
  rw [decide_eq_true_eq, h.val]
  constructor
  · intro hf
    obtain ⟨p, x, hp, e, _⟩ := h.fal hf
    exact ⟨p, x, hp, by omega⟩
  · rintro ⟨p, x, hp, e⟩
    have := (h.val_at hp y (by rw [e, litV_negate])).2
    rw [if_neg (by omega)] at this
    omega
theorem Sim.tru_iff (h : Sim T its) {y : Int} (hy : litB y = true) : T.tru y = true ↔ ∃ (p : Nat) (x : RIt), its[p]? = some x ∧ x.lit = y := by
  have hn := (litB_iff y).1 hy
  unfold Trl.tru
  rw [decide_eq_true_eq, h.val]
  constructor
  · intro hf
    rcases h.cases y with ⟨p, x, hp, e⟩ | hno
    · have hv := (h.val_at hp y e).2
      by_cases hxy : x.lit = y
      · exact ⟨p, x, hp, hxy⟩
      · rw [if_neg hxy] at hv
        omega
    · rw [rVl_none its y (fun _ => hno)] at hf
      omega
  · rintro ⟨p, x, hp, e⟩
    have := (h.val_at hp y (by rw [e])).2
    rw [if_pos e] at this
    omega
theorem Trl.not_both {y : Int} (h1 : T.fal y = true) (h2 : T.tru y = true) : False := by
  unfold Trl.fal at h1
  unfold Trl.tru at h2
  rw [decide_eq_true_eq] at h1 h2
  omega
theorem Sim.snoc (hs : Sim T its) {l r : Int} (he : T.assignErr l r = 0) : Sim (T.assigned l r) (its ++ [⟨l, r, T.now⟩]) := by
  unfold Trl.assigned
  rw [if_pos he]
  unfold Trl.assignErr at he
  cases hat : T.at (litV l : Nat) with
  | none => rw [hat] at he; cases he
  | some s =>
    rw [hat] at he
    simp only at he
    have ha := hat
    unfold Trl.at at ha
    split at ha
    · rename_i hlt
      rw [Int.toNat_natCast] at ha
      have hb : litB l = true := litB_of_litV (by omega)
      have hvl : litV l < T.vars.length := by omega
      have h0 : s.value = 0 := by
        split at he
        · cases he
        · split at he
          · cases he
          · rename_i _ h2
            omega
      have hfree : ∀ x ∈ its, litV x.lit ≠ litV l := fun x hx e => by
        obtain ⟨p, hp, e2⟩ := List.getElem_of_mem hx
        have hx2 := (hs.at_ p x (by rw [List.getElem?_eq_getElem hp, e2])).2
        rw [e, ha] at hx2
        have h3 := congrArg TV.value (Option.some.inj hx2)
        simp only at h3
        have := litS_not x.lit
        omega
      have hol : T.order.length = its.length := by rw [hs.order, List.length_map]
      refine { order := ?_, size := ?_, at_ := fun p x hp => ?_, free := fun v s hv hf => ?_, mono := fun p q x y hpq hp hq => ?_, pos := fun x hx => ?_, now := hs.now }
      · simp only [Trl.assign, hs.order, List.map_append, List.map_cons, List.map_nil]
      · simp only [Trl.assign, List.length_set]
        exact hs.size
      · simp only [Trl.assign]
        rw [List.getElem?_append] at hp
        split at hp
        · obtain ⟨g1, g2⟩ := hs.at_ p x hp
          refine ⟨g1, ?_⟩
          rw [List.getElem?_set_ne (fun e => hfree x (List.mem_of_getElem? hp) e.symm)]
          exact g2
        · rename_i hpl
          have hp0 : p = its.length := by
            have := (List.getElem?_eq_some_iff.1 hp).1
            simp only [List.length_cons, List.length_nil] at this
            omega
          subst hp0
          rw [Nat.sub_self] at hp
          obtain rfl := Option.some.inj hp
          refine ⟨hb, ?_⟩
          simp only
          rw [List.getElem?_set_self hvl, hol]
      · simp only [Trl.assign] at hv
        have hvne : litV l ≠ v := hf ⟨l, r, T.now⟩ (List.mem_append_right _ (List.mem_singleton.2 rfl))
        rw [List.getElem?_set_ne hvne] at hv
        exact hs.free v s hv (fun x hx => hf x (List.mem_append_left _ hx))
      · rw [List.getElem?_append] at hp hq
        split at hq
        · rw [if_pos (by omega)] at hp
          exact hs.mono p q x y hpq hp hq
        · have hyl : y.level = T.now := by
            have := List.mem_of_getElem? hq
            rw [List.mem_singleton.1 this]
          split at hp
          · have := (hs.pos x (List.mem_of_getElem? hp)).2
            omega
          · have := List.mem_of_getElem? hp
            rw [List.mem_singleton.1 this, hyl]
            exact Int.le_refl _
      · rcases List.mem_append.1 hx with hx | hx
        · exact hs.pos x hx
        · rw [List.mem_singleton.1 hx]
          have := hs.now
          have e : (T.assign l r).now = T.now := rfl
          simp only
          omega
    · cases ha
theorem Sim.lev (h : Sim T its) : ∀ x ∈ its, 0 ≤ x.level ∧ x.level ≤ T.now := h.pos
theorem Sim.varlt (h : Sim T its) {p : Nat} {x : RIt} (hp : its[p]? = some x) : 1 ≤ litV x.lit ∧ litV x.lit < T.vars.length := by
  obtain ⟨h1, h2⟩ := h.at_ p x hp
  exact ⟨(litV_pos h1).1, (List.getElem?_eq_some_iff.1 h2).1⟩
theorem Sim.nodup (h : Sim T its) : (its.map fun x => litV x.lit).Nodup := by
  rw [List.Nodup, List.pairwise_iff_getElem]
  intro i j hi hj hij e
  rw [List.length_map] at hi hj
  rw [List.getElem_map, List.getElem_map] at e
  have := h.inj (List.getElem?_eq_getElem hi) (List.getElem?_eq_getElem hj) e
  omega
/-- there are fewer items than variables, with the one of no number -/
theorem Sim.len (h : Sim T its) : its.length < T.vars.length ∨ its = [] := by
  cases its with
  | nil => exact .inr rfl
  | cons x r =>
    left
    have h1 : ((x :: r).map fun x => litV x.lit).length ≤ (List.range' 1 (T.vars.length - 1)).length := by
      refine List.Nodup.length_le_of_subset h.nodup (fun v hv => ?_)
      obtain ⟨z, hz, rfl⟩ := List.mem_map.1 hv
      obtain ⟨p, hp, e2⟩ := List.getElem_of_mem hz
      have := h.varlt (p := p) (x := z) (by rw [List.getElem?_eq_getElem hp, e2])
      rw [List.mem_range'_1]
      omega
    rw [List.length_map, List.length_range'] at h1
    have := (h.varlt (p := 0) (x := x) rfl).2
    omega
theorem assign_ok {l r : Int} (hl : litB l = true) (hv : litV l < T.vars.length) (hr : 0 ≤ r ∧ r ≤ 1073741824) (h0 : T.fal l = false) (h1 : T.tru l = false) : T.assignErr l r = 0 := by
  unfold Trl.assignErr
  have hp := (litV_pos hl).1
  have hat : T.at (litV l : Nat) = some T.vars[litV l] := by
    unfold Trl.at
    rw [if_pos (by omega), Int.toNat_natCast]
    exact List.getElem?_eq_getElem hv
  rw [hat]
  simp only
  rw [if_neg (by omega), if_neg]
  intro hn
  have h2 : T.val l = T.vars[litV l].value * litS l := by
    unfold Trl.val
    rw [hat]
  have h3 : T.val l ≠ 0 := by
    rw [h2]
    intro e
    rcases Int.mul_eq_zero.1 e with e | e
    · exact hn e
    · exact litS_not l e
  unfold Trl.fal at h0
  unfold Trl.tru at h1
  rw [decide_eq_false_iff_not] at h0 h1
  omega
theorem assigned_now (T : Trl) (l r : Int) : (T.assigned l r).now = T.now := by
  unfold Trl.assigned
  split <;> rfl
theorem assigned_vars (T : Trl) (l r : Int) : (T.assigned l r).vars.length = T.vars.length := by
  unfold Trl.assigned
  split
  · simp [Trl.assign]
  · rfl
end Go.Proofs.YtobcnejecogfoaaGreat
