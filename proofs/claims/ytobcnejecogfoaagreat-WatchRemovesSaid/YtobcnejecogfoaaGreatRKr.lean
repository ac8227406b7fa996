/- Plain: the same decisions give the same literals. -/
import Derived.Test.YtobcnejecogfoaaGreatQ36
import Derived.Test.YtobcnejecogfoaaGreatQ35
namespace Go.Proofs.YtobcnejecogfoaaGreat
open Go.RowKit

/-- what has no reason is not at the level 0 -/
def PL (T : Trl) : Prop := ∃ its, Sim T its ∧ ∀ x ∈ its, x.reason = 0 → 1 ≤ x.level
section
variable {cs : List (List Int)} {T : Trl} {its : List RIt} {S : Wst}
theorem PL.of_pz (h : PZ (fun _ => False) T) : PL T := by
  obtain ⟨its, h1, h2⟩ := h
  exact ⟨its, h1, fun x hx h0 => (h2 x hx h0).elim⟩
theorem PL.push (h : PL T) : PL T.push := by
  obtain ⟨its, h1, h2⟩ := h
  exact ⟨its, h1.pushT, h2⟩
theorem PL.assigned (h : PL T) (l r : Int) (hr : r ≠ 0 ∨ 1 ≤ T.now) : PL (T.assigned l r) := by
  obtain ⟨its, h1, h2⟩ := h
  by_cases he : T.assignErr l r = 0
  · refine ⟨_, h1.snoc he, fun x hx h0 => ?_⟩
    rcases List.mem_append.1 hx with hx | hx
    · exact h2 x hx h0
    · rw [List.mem_singleton.1 hx] at h0 ⊢
      rcases hr with hr | hr
      · exact absurd h0 hr
      · exact hr
  · have e : T.assigned l r = T := by unfold Trl.assigned; rw [if_neg he]
    rw [e]
    exact ⟨its, h1, h2⟩
theorem PL.lookOne {A : Arn} (h : PL T) (l id : Int) (hid : id ≠ 0) : PL (lookOne A T S l id).1 := by
  unfold Proofs.YtobcnejecogfoaaGreat.lookOne
  split
  · exact h
  · split
    · exact h
    · split
      · exact h
      · split
        · exact h
        · split
          · exact h
          · exact h.assigned _ _ (.inl hid)
theorem PL.lookGo {A : Arn} (l : Int) (ids : List Int) : ∀ {T : Trl} {S : Wst}, (∀ id ∈ ids, id ≠ 0) → PL T → PL (lookGo A T S l ids).1 := by
  induction ids with
  | nil => exact fun _ h => h
  | cons id r ih =>
    intro T S hid h
    have h1 := h.lookOne (A := A) (S := S) l id (hid id List.mem_cons_self)
    rw [lookGo_cons]
    split
    · exact h1
    · exact ih (fun j hj => hid j (List.mem_cons_of_mem _ hj)) h1
theorem PL.propGo {A : Arn} (n : Nat) : ∀ {T : Trl} {S : Wst}, S.Bnd → S.Link → (∃ its, Sim T its) → PL T → PL (propGo A n T S).1 := by
  induction n with
  | zero => exact fun _ _ _ h => h
  | succ n ih =>
    intro T S hb hL hs h
    unfold Proofs.YtobcnejecogfoaaGreat.propGo
    split
    · exact h
    · rename_i y hy
      have hr := hb.row (litN y)
      have hg := PL.lookGo (A := A) (S := S) (litN y) (S.row (litN y)) (fun id hid => by have := (hr.2 id hid).1; omega) h
      have ha := lookGo_all A (T := T) (S.row (litN y)) hb hL hs (fun id hid => hid) (up_nodup hr.1)
      split
      · rename_i he
        rw [he] at hg
        exact hg
      · rename_i T' S' he
        rw [he] at hg ha
        obtain ⟨h1, h2, h3, _, _⟩ := ha
        exact ih (S := S'.step) ⟨h1.kr, h1.kb, h1.kl, h1.orr, h1.ob⟩ h2 h3 hg
theorem PL.decT {A : Arn} (h : PL T) (hr : Run cs T its S) (l : Int) : PL (propW A (decT T l) S).1 := by
  have hn : 1 ≤ T.push.now := by
    have := hr.st.sim.now
    rw [push_now]
    omega
  have key : PL (Proofs.YtobcnejecogfoaaGreat.decT T l) ∧ ∃ i, Sim (Proofs.YtobcnejecogfoaaGreat.decT T l) i := by
    unfold Proofs.YtobcnejecogfoaaGreat.decT decA
    split
    · refine ⟨h.push.assigned l 0 (.inr hn), ?_⟩
      obtain ⟨i, h1, _⟩ := h.push.assigned l 0 (.inr hn)
      exact ⟨i, h1⟩
    · exact ⟨h.push, its, hr.st.sim.pushT⟩
  exact PL.propGo _ hr.st.inv.bnd hr.st.inv.link key.2 key.1
theorem PL.pre {T' : Trl} {its' : List RIt} (h : PL T) (hs : Sim T its) (hs' : Sim T' its') (hp : its' <+: its) : PL T' := by
  obtain ⟨i, h1, h2⟩ := h
  have : i = its := h1.uniq hs
  subst this
  exact ⟨its', hs', fun x hx h0 => h2 x (hp.subset hx) h0⟩
/-- no clause is false -/
theorem Run.noFail (h : Run cs T its S) (h6 : Six cs) {id : Int} {c : List Int} (hc : clsC cs id = some c) (hf : ∀ y ∈ c, Has its (-y)) : False := by
  have hcb := (h6.fit id c hc).2.2
  cases c with
  | nil =>
    have ha : alwL [] = false := alwL_no (fun y hy => by cases hy)
    obtain ⟨y, hy, _⟩ := h.one id [] trivial hc ha (Nat.zero_le _)
    cases hy
  | cons a r =>
    have h1 := h.closed h6 hc List.mem_cons_self (fun y hy _ => hf y hy)
    exact Has.two h.st.sim (hcb a List.mem_cons_self).1 h1 (hf a List.mem_cons_self)
/-- where all is at the level 0, all literals are those that follow of the clauses -/
theorem run0_sub {T' : Trl} {its' : List RIt} {S' : Wst} (h : Run cs T its S) (h' : Run cs T' its' S') (h6 : Six cs) (h0 : T'.now = 0) (hp : PL T') : ∀ y, Has its' y → Has its y := by
  obtain ⟨i, h1, h2⟩ := hp
  have : i = its' := h1.uniq h'.st.sim
  subst this
  refine closed_sub h'.st.inv.rs (fun id c hc a ha ho => h.closed h6 hc ha ho) (fun p x hx h3 => ?_)
  have a1 := h2 x (List.mem_of_getElem? hx) h3
  have a2 := h'.st.sim.pos x (List.mem_of_getElem? hx)
  omega
theorem run0_same {T' : Trl} {its' : List RIt} {S' : Wst} (h : Run cs T its S) (h' : Run cs T' its' S') (h6 : Six cs) (h0 : T.now = 0) (hp : PL T) (h0' : T'.now = 0) (hp' : PL T') : ∀ y, Has its y ↔ Has its' y :=
  fun y => ⟨run0_sub h' h h6 h0 hp y, run0_sub h h' h6 h0' hp' y⟩
theorem dec_sub {T' : Trl} {its' : List RIt} {S' : Wst} (h6 : Six cs) (hB : ∀ y, Has its y → Has its' y) {l : Int} (hl : litB l = true) {R R' : Trl × Wst × Option Int} {i i' : List RIt} (hd : DecO cs T its S l R i) (hd' : DecO cs T' its' S' l R' i') (hB' : ∀ y, Has its' y → Has its y) (hr : R'.2.2 = none) : ∀ y, Has i y → Has i' y := by
  have hR := hd'.ok hr
  refine closed_sub hd.st.inv.rs (fun id c hc a ha ho => hR.closed h6 hc ha ho) (fun p x hx h0 => ?_)
  rcases hd.src p x hx h0 with h1 | h1
  · exact (hB _ h1).pre hd'.pre
  · have hx' : Has i l := ⟨p, x, hx, h1⟩
    rcases hd'.has with h2 | h2
    · rw [h1]
      exact h2
    · exact (Has.two hd.st.sim hl hx' ((hB' _ h2).pre hd.pre)).elim
/-- the same decision from the same literals -/
theorem dec_same {T' : Trl} {its' : List RIt} {S' : Wst} (h6 : Six cs) (hB : ∀ y, Has its y ↔ Has its' y) {l : Int} (hl : litB l = true) {R R' : Trl × Wst × Option Int} {i i' : List RIt} (hd : DecO cs T its S l R i) (hd' : DecO cs T' its' S' l R' i') :
    (R.2.2 = none ↔ R'.2.2 = none) ∧ (R.2.2 = none → ∀ y, Has i y ↔ Has i' y) := by
  have one : R.2.2 = none → R'.2.2 = none := fun hr => by
    cases h2 : R'.2.2 with
    | none => rfl
    | some id =>
      obtain ⟨c, hc, hf⟩ := hd'.bad id h2
      have hs := dec_sub h6 (fun y => (hB y).2) hl hd' hd (fun y => (hB y).1) hr
      exact ((hd.ok hr).noFail h6 hc (fun y hy => hs _ (hf y hy))).elim
  have two : R'.2.2 = none → R.2.2 = none := fun hr => by
    cases h2 : R.2.2 with
    | none => rfl
    | some id =>
      obtain ⟨c, hc, hf⟩ := hd.bad id h2
      have hs := dec_sub h6 (fun y => (hB y).1) hl hd hd' (fun y => (hB y).2) hr
      exact ((hd'.ok hr).noFail h6 hc (fun y hy => hs _ (hf y hy))).elim
  exact ⟨⟨one, two⟩, fun hr y => ⟨dec_sub h6 (fun y => (hB y).1) hl hd hd' (fun y => (hB y).2) (one hr) y, dec_sub h6 (fun y => (hB y).2) hl hd' hd (fun y => (hB y).1) hr y⟩⟩
theorem has_order (h : Sim T its) (y : Int) : y ∈ T.order ↔ Has its y := by
  rw [h.order, List.mem_map]
  constructor
  · rintro ⟨x, hx, rfl⟩
    obtain ⟨p, hp, e⟩ := List.getElem_of_mem hx
    exact ⟨p, x, by rw [List.getElem?_eq_getElem hp, e], rfl⟩
  · rintro ⟨p, x, hp, rfl⟩
    exact ⟨x, List.mem_of_getElem? hp, rfl⟩
theorem order_nodup (h : Sim T its) : T.order.Nodup := by
  have := h.nodup
  rw [h.order]
  rw [List.Nodup, List.pairwise_map] at this ⊢
  exact this.imp (fun h e => h (by rw [e]))
theorem sort_same {T' : Trl} {its' : List RIt} (h : Sim T its) (h' : Sim T' its') (hB : ∀ y, Has its y ↔ Has its' y) : (sortI T.order == sortI T'.order) = true := by
  have hp : T.order.Perm T'.order := (List.perm_ext_iff_of_nodup (order_nodup h) (order_nodup h')).2 (fun y => (has_order h y).trans ((hB y).trans (has_order h' y).symm))
  rw [sortI_eq (hp.trans (List.mergeSort_perm T'.order fun x y => decide (x ≤ y)).symm) (sortI_sorted T'.order)]
  exact beq_self_eq_true _
end
end Go.Proofs.YtobcnejecogfoaaGreat
