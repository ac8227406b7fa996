/- Plain: decisions and their ways over any map of clauses. -/
import Derived.Test.YtobcnejecogfoaaGreatRKr
namespace Go.Proofs.YtobcnejecogfoaaGreat
open Go.RowKit

/-- a watch that knows all of some clauses, from the level 0 on -/
structure RunC (C : Int → Option (List Int)) (T : Trl) (its : List RIt) (S : Wst) : Prop where
  st : St C T its S
  kn : ∀ j, (S.kn j).isSome = (C j).isSome
  one : One C (fun _ => True) its
  lk : S.looked = its.length
section
variable {C C2 : Int → Option (List Int)} {A A2 : Arn} {T T' : Trl} {its its' : List RIt} {S S' : Wst}
theorem Run.c {cs : List (List Int)} (h : Run cs T its S) : RunC (clsC cs) T its S := ⟨h.st, h.kn, h.one, h.lk⟩
theorem St.findC (hA : ∀ id c, C id = some c → (A.find id).isSome = true) (h : St C T its S) : ∀ id k, S.kn id = some k → (A.find id).isSome = true := fun id k hk => by
  obtain ⟨c, hc, _⟩ := h.inv.kn id k hk
  exact hA id c hc
/-- a watched literal that is false: the other is true -/
theorem St.otherC (h : St (C) T its S) (hl : S.looked = its.length) {id : Int} {k : Kn} (hk : S.kn id = some k) {a : Int} (ha : a ∈ k.by_) (hf : Has its (-a)) : Has its (k.other a) := by
  obtain ⟨p, x, hp, e⟩ := hf
  have hpl := (List.getElem?_eq_some_iff.1 hp).1
  obtain ⟨q, y, hq, h1, _⟩ := h.inv.w id k a hk ha p x (by omega) hp e
  exact ⟨q, y, hq, h1⟩
theorem RunC.known (h : RunC C T its S) {id : Int} {c : List Int} (hc : C id = some c) : ∃ k, S.kn id = some k ∧ k.lits = eachL c := by
  have hk := h.kn id
  rw [hc] at hk
  obtain ⟨k, hk⟩ := Option.isSome_iff_exists.1 hk
  obtain ⟨d, hd, hl⟩ := h.st.inv.kn id k hk
  rw [hc] at hd
  obtain rfl := Option.some.inj hd
  exact ⟨k, hk, hl⟩
/-- a clause all but one of whose literals are false has that one -/
theorem RunC.closed (h : RunC C T its S) (h6 : Fit6 C) {id : Int} {c : List Int} (hc : C id = some c) {a : Int} (ha : a ∈ c) (ho : ∀ y ∈ c, y ≠ a → Has its (-y)) : Has its a := by
  have hcb := (h6 id c hc).2.2
  obtain ⟨k, hk, hkl⟩ := h.known hc
  obtain ⟨_, hby, _, hlb⟩ := h.st.inv.bnd.kn hk
  rcases hby with h0 | ⟨p, q, hpq, hb, hp, hq⟩
  · cases hal : alwL c with
    | true =>
      obtain ⟨y, hy, hny⟩ := alwL_two hal
      by_cases e1 : y = a
      · subst e1
        have hne : -y ≠ y := fun e => by
          have := (litB_iff y).1 (hcb y hy).1
          omega
        have := ho (-y) hny hne
        rwa [Int.neg_neg] at this
      · by_cases e2 : -y = a
        · have := ho y hy e1
          rwa [e2] at this
        · have h1 := ho y hy e1
          have h2 := ho (-y) hny e2
          rw [Int.neg_neg] at h2
          exact (Has.two h.st.sim (hcb y hy).1 h2 h1).elim
    | false =>
      rcases h.st.inv.two id k c hk hc h0 with h2 | h2
      · rw [hal] at h2; cases h2
      · rw [hkl] at h2
        obtain ⟨y, hy, hh⟩ := h.one id c trivial hc hal h2
        rw [lits_one h2 ha hy]
        exact hh.has
  · rw [hkl] at hp hq
    have hp' := eachL_mem.1 hp
    have hq' := eachL_mem.1 hq
    have hpm : p ∈ k.by_ := by rw [hb]; simp
    have hqm : q ∈ k.by_ := by rw [hb]; simp
    have op : k.other p = q := by unfold Kn.other; rw [hb]; simp
    have oq : k.other q = p := by unfold Kn.other; rw [hb]; simp [hpq]
    by_cases e1 : q = a
    · have hne : p ≠ a := fun e => hpq (e.trans e1.symm)
      have := h.st.otherC h.lk hk hpm (ho p hp' hne)
      rwa [op, e1] at this
    · have h1 := h.st.otherC h.lk hk hqm (ho q hq' e1)
      rw [oq] at h1
      by_cases e2 : p = a
      · rwa [e2] at h1
      · exact (Has.two h.st.sim (hcb p hp').1 h1 (ho p hp' e2)).elim
/-- a decision -/
structure DecC (C : Int → Option (List Int)) (T : Trl) (its : List RIt) (S : Wst) (l : Int) (R : Trl × Wst × Option Int) (its' : List RIt) : Prop where
  st : St (C) R.1 its' R.2.1
  pre : its <+: its'
  now : R.1.now = T.now + 1
  kn : ∀ j, (R.2.1.kn j).isSome = (C j).isSome
  one : One (C) (fun _ => True) its'
  has : Has its' l ∨ Has its (-l)
  src : ∀ (p : Nat) (x : RIt), its'[p]? = some x → x.reason = 0 → Has its x.lit ∨ x.lit = l
  ok : R.2.2 = none → RunC C R.1 its' R.2.1
  bad : ∀ id, R.2.2 = some id → ∃ c, C id = some c ∧ ∀ y ∈ c, Has its' (-y)
theorem dec_stepC (h : RunC C T its S) (h6 : Fit6 C) (hA : ∀ id c, C id = some c → (A.find id).isSome = true) {l : Int} (hl : litB l = true ∧ litV l < 7) : ∃ its', DecC C T its S l (propW A (decT T l) S) its' := by
  have hp := h.st.push h.lk
  have key : ∃ i1, St (C) (decT T l) i1 S ∧ its <+: i1 ∧ (decT T l).now = T.now + 1 ∧ (Has i1 l ∨ Has its (-l)) ∧ ∀ x ∈ i1, x.reason = 0 → Has its x.lit ∨ x.lit = l := by
    have hold : ∀ x ∈ its, Has its x.lit := fun x hx => by
      obtain ⟨p, hp, e⟩ := List.getElem_of_mem hx
      exact ⟨p, x, by rw [List.getElem?_eq_getElem hp, e], rfl⟩
    unfold decT decA
    by_cases hz : T.push.val l = 0
    · rw [if_pos hz]
      have herr := free_err (T := T.push) h.st.vars hl.1 hl.2 hz (r := 0) ⟨by omega, by omega⟩
      refine ⟨_, hp.assign herr (fun h => absurd rfl h), ⟨_, rfl⟩, (assigned_now _ _ _).trans push_now, .inl ⟨its.length, ⟨l, 0, T.push.now⟩, by simp, rfl⟩, fun x hx _ => ?_⟩
      rcases List.mem_append.1 hx with hx | hx
      · exact .inl (hold x hx)
      · rw [List.mem_singleton.1 hx]
        exact .inr rfl
    · rw [if_neg hz]
      refine ⟨its, hp, List.prefix_refl _, push_now, ?_, fun x hx _ => .inl (hold x hx)⟩
      by_cases h1 : T.push.fal l = true
      · exact .inr ((hp.sim.fal_iff hl.1).1 h1)
      · by_cases h2 : T.push.tru l = true
        · exact .inl ((hp.sim.tru_iff hl.1).1 h2)
        · exact absurd (sim_val (Bool.not_eq_true _ ▸ h1) (Bool.not_eq_true _ ▸ h2)) hz
  obtain ⟨i1, hs1, hp1, hn1, hh1, hz1⟩ := key
  obtain ⟨its', h1, h2, h3, h4, h5⟩ := hs1.prop (A := A) h6 (St.findC hA h.st)
  have hpz := PZ.propGo (B := fun y => Has its y ∨ y = l) (A := A) ((decT T l).vars.length + 1) hs1.inv.bnd hs1.inv.link ⟨i1, hs1.sim⟩ ⟨i1, hs1.sim, hz1⟩
  have hkn : ∀ j, ((propW A (decT T l) S).2.1.kn j).isSome = (C j).isSome := fun j => (h4 j).trans (h.kn j)
  have hone := (h.one.pre hp1).pre h2
  refine ⟨its', h1, hp1.trans h2, h3.trans hn1, hkn, hone, hh1.imp_left (Has.pre h2), fun p x hx h0 => ?_, fun hr => ?_, fun id hr => ?_⟩
  · obtain ⟨i2, a1, a2⟩ := hpz
    have : its' = i2 := h1.sim.uniq a1
    subst this
    exact a2 x (List.mem_of_getElem? hx) h0
  · rcases h5 with ⟨_, h5⟩ | ⟨id, c, h5, _⟩
    · exact ⟨h1, hkn, hone, h5⟩
    · rw [hr] at h5; cases h5
  · rcases h5 with ⟨h5, _⟩ | ⟨id', c, h5, hc, hf⟩
    · rw [hr] at h5; cases h5
    · rw [hr] at h5
      obtain rfl := Option.some.inj h5
      exact ⟨c, hc, hf⟩
/-- no clause is false -/
theorem RunC.noFail (h : RunC C T its S) (h6 : Fit6 C) {id : Int} {c : List Int} (hc : C id = some c) (hf : ∀ y ∈ c, Has its (-y)) : False := by
  have hcb := (h6 id c hc).2.2
  cases c with
  | nil =>
    have ha : alwL [] = false := alwL_no (fun y hy => by cases hy)
    obtain ⟨y, hy, _⟩ := h.one id [] trivial hc ha (Nat.zero_le _)
    cases hy
  | cons a r =>
    have h1 := h.closed h6 hc List.mem_cons_self (fun y hy _ => hf y hy)
    exact Has.two h.st.sim (hcb a List.mem_cons_self).1 h1 (hf a List.mem_cons_self)
/-- each clause of the second lies in the first -/
def SubC (C2 C : Int → Option (List Int)) : Prop := ∀ id c, C2 id = some c → ∃ j, C j = some c
theorem closed0C (hs : SubC C2 C) (h : RunC C T its S) (h6 : Fit6 C) (h2 : St C2 T' its' S') (h0 : T'.now = 0) (hp : PL T') : ∀ y, Has its' y → Has its y := by
  obtain ⟨i, h1, h3⟩ := hp
  have : i = its' := h1.uniq h2.sim
  subst this
  refine closed_sub h2.inv.rs (fun id c hc a ha ho => ?_) (fun p x hx h4 => ?_)
  · obtain ⟨j, hj⟩ := hs id c hc
    exact h.closed h6 hj ha ho
  · have a1 := h3 x (List.mem_of_getElem? hx) h4
    have a2 := h2.sim.pos x (List.mem_of_getElem? hx)
    omega
theorem dec_subC (hs : SubC C2 C) (h6 : Fit6 C) (hB : ∀ y, Has its y → Has its' y) {l : Int} (hl : litB l = true) {R R' : Trl × Wst × Option Int} {i i' : List RIt} (hd : DecC C2 T its S l R i) (hd' : DecC C T' its' S' l R' i') (hB' : ∀ y, Has its' y → Has its y) (hr : R'.2.2 = none) : ∀ y, Has i y → Has i' y := by
  have hR := hd'.ok hr
  refine closed_sub hd.st.inv.rs (fun id c hc a ha ho => by
    obtain ⟨j, hj⟩ := hs id c hc
    exact hR.closed h6 hj ha ho) (fun p x hx h0 => ?_)
  rcases hd.src p x hx h0 with h1 | h1
  · exact (hB _ h1).pre hd'.pre
  · have hx' : Has i l := ⟨p, x, hx, h1⟩
    rcases hd'.has with h2 | h2
    · rw [h1]
      exact h2
    · exact (Has.two hd.st.sim hl hx' ((hB' _ h2).pre hd.pre)).elim
/-- the same decision from the same literals -/
theorem dec_sameC (hs : SubC C2 C) (hs' : SubC C C2) (h6 : Fit6 C) (h6' : Fit6 C2) (hB : ∀ y, Has its y ↔ Has its' y) {l : Int} (hl : litB l = true) {R R' : Trl × Wst × Option Int} {i i' : List RIt} (hd : DecC C T its S l R i) (hd' : DecC C2 T' its' S' l R' i') :
    (R.2.2 = none ↔ R'.2.2 = none) ∧ (R.2.2 = none → ∀ y, Has i y ↔ Has i' y) := by
  have one : R.2.2 = none → R'.2.2 = none := fun hr => by
    cases h2 : R'.2.2 with
    | none => rfl
    | some id =>
      obtain ⟨c, hc, hf⟩ := hd'.bad id h2
      obtain ⟨j, hj⟩ := hs id c hc
      have hx := dec_subC hs h6 (fun y => (hB y).2) hl hd' hd (fun y => (hB y).1) hr
      exact ((hd.ok hr).noFail h6 hj (fun y hy => hx _ (hf y hy))).elim
  have two : R'.2.2 = none → R.2.2 = none := fun hr => by
    cases h2 : R.2.2 with
    | none => rfl
    | some id =>
      obtain ⟨c, hc, hf⟩ := hd.bad id h2
      obtain ⟨j, hj⟩ := hs' id c hc
      have hx := dec_subC hs' h6' (fun y => (hB y).1) hl hd hd' (fun y => (hB y).2) hr
      exact ((hd'.ok hr).noFail h6' hj (fun y hy => hx _ (hf y hy))).elim
  exact ⟨⟨one, two⟩, fun hr y => ⟨dec_subC hs' h6' (fun y => (hB y).1) hl hd hd' (fun y => (hB y).2) (one hr) y, dec_subC hs h6 (fun y => (hB y).2) hl hd' hd (fun y => (hB y).1) hr y⟩⟩
end
end Go.Proofs.YtobcnejecogfoaaGreat
