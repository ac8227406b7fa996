/- Plain: what a search keeps: decisions come first of their levels; a clause that is learned is added where all of its literals but one are false. Plain: one step of what is met, and the end of it. Plain: what is learned from a clause that fails: its literals, and the chain of its hints. -/
import Derived.Test.YtoojmhjagipmdaaGreatQ22
import Derived.Test.YtoojmhjagipmdaaGreatQ27
import Derived.Test.YtoojmhjagipmdaaGreatQ21
namespace Go.Proofs.YtoojmhjagipmdaaGreat
open Go.RowKit

section
variable {C : Int → Option (List Int)} {T : Trl} {its : List RIt} {S : Wst}
theorem Dcs.pre {its' : List RIt} (h : Dcs its') (hp : its <+: its') : Dcs its := fun p x hx h0 => by
  obtain ⟨h1, h2⟩ := h p x (pre_get hp hx) h0
  exact ⟨h1, fun q y hq hy => h2 q y hq (pre_get hp hy)⟩
theorem Dcs.snoc (h : Dcs its) {x : RIt} (hx : x.reason = 0 → 1 ≤ x.level ∧ ∀ y ∈ its, y.level < x.level) : Dcs (its ++ [x]) := fun p z hz h0 => by
  have hpre : its <+: its ++ [x] := ⟨[x], rfl⟩
  rcases Nat.lt_or_ge p its.length with hp | hp
  · rw [List.getElem?_append_left hp] at hz
    obtain ⟨h1, h2⟩ := h p z hz h0
    exact ⟨h1, fun q y hq hy => h2 q y hq (by rwa [List.getElem?_append_left (by omega)] at hy)⟩
  · have h1 := (List.getElem?_eq_some_iff.1 hz).1
    rw [List.length_append, List.length_singleton] at h1
    obtain rfl : p = its.length := by omega
    rw [List.getElem?_append_right (Nat.le_refl _), Nat.sub_self] at hz
    obtain rfl : x = z := by simpa using hz
    obtain ⟨a1, a2⟩ := hx h0
    exact ⟨a1, fun q y hq hy => by
      rw [List.getElem?_append_left hq] at hy
      exact a2 y (List.mem_of_getElem? hy)⟩
/-- a trail whose decisions are the first of their levels -/
def DZ (T : Trl) : Prop := ∃ its, Sim T its ∧ Dcs its
theorem DZ.assigned (h : DZ T) (l r : Int) (hr : r ≠ 0) : DZ (T.assigned l r) := by
  obtain ⟨its, h1, h2⟩ := h
  by_cases he : T.assignErr l r = 0
  · exact ⟨_, h1.snoc he, h2.snoc fun h0 => absurd h0 hr⟩
  · have e : T.assigned l r = T := by unfold Trl.assigned; rw [if_neg he]
    rw [e]
    exact ⟨its, h1, h2⟩
theorem DZ.lookOne {A : Arn} (h : DZ T) (l id : Int) (hid : id ≠ 0) : DZ (lookOne A T S l id).1 := by
  unfold Proofs.YtoojmhjagipmdaaGreat.lookOne
  split
  · exact h
  · split
    · exact h
    · split
      · exact h
      · split
        · exact h
        · split
          · exact h
          · exact h.assigned _ _ hid
theorem DZ.lookGo {A : Arn} (l : Int) (ids : List Int) : ∀ {T : Trl} {S : Wst}, (∀ id ∈ ids, id ≠ 0) → DZ T → DZ (lookGo A T S l ids).1 := by
  induction ids with
  | nil => exact fun _ h => h
  | cons id r ih =>
    intro T S hid h
    have h1 := h.lookOne (A := A) (S := S) l id (hid id List.mem_cons_self)
    rw [lookGo_cons]
    split
    · exact h1
    · exact ih (fun j hj => hid j (List.mem_cons_of_mem _ hj)) h1
theorem DZ.propGo {A : Arn} (n : Nat) : ∀ {T : Trl} {S : Wst}, S.Bnd → S.Link → (∃ its, Sim T its) → DZ T → DZ (propGo A n T S).1 := by
  induction n with
  | zero => exact fun _ _ _ h => h
  | succ n ih =>
    intro T S hb hL hs h
    unfold Proofs.YtoojmhjagipmdaaGreat.propGo
    split
    · exact h
    · rename_i y hy
      have hr := hb.row (litN y)
      have hg := DZ.lookGo (A := A) (S := S) (litN y) (S.row (litN y)) (fun id hid => by have := (hr.2 id hid).1; omega) h
      have ha := lookGo_all A (T := T) (S.row (litN y)) hb hL hs (fun id hid => hid) (up_nodup hr.1)
      split
      · rename_i he
        rw [he] at hg
        exact hg
      · rename_i T' S' he
        rw [he] at hg ha
        obtain ⟨h1, h2, h3, _, _⟩ := ha
        exact ih (S := S'.step) ⟨h1.kr, h1.kb, h1.kl, h1.orr, h1.ob⟩ h2 h3 hg
theorem DZ.dcs (h : DZ T) (hs : Sim T its) : Dcs its := by
  obtain ⟨i2, h1, h2⟩ := h
  rw [hs.uniq h1]
  exact h2
/-- more clauses are there, none of them known -/
theorem St.wide {C' : Int → Option (List Int)} (h : St C T its S) (hC : ∀ id c, C id = some c → C' id = some c) : St C' T its S where
  sim := h.sim
  vars := h.vars
  sta := h.sta
  inv := by
    have hi := h.inv
    have key : ∀ id k c, S.kn id = some k → C' id = some c → C id = some c := fun id k c hk hc => by
      obtain ⟨d, hd, _⟩ := hi.kn id k hk
      rw [hC id d hd] at hc
      rw [← Option.some.inj hc]
      exact hd
    exact ⟨hi.bnd, hi.link, fun id k hk => (hi.kn id k hk).imp fun c hc => ⟨hC id c hc.1, hc.2⟩, fun id k c hk hc => hi.two id k c hk (key id k c hk hc), fun id k c hk hc => hi.alw id k c hk (key id k c hk hc), hi.w, hi.cur, hi.len, fun p x hx h0 => by
      obtain ⟨d, h1, h2⟩ := hi.rs p x hx h0
      exact ⟨d, hC _ d h1, h2⟩⟩
/-- the first of what is sorted has the greatest level -/
theorem stab_max {xs : List Int} {b : Int} {r : List Int} (h : T.stab xs = b :: r) : b ∈ xs ∧ ∀ z ∈ xs, T.level (litV z : Nat) ≤ T.level (litV b : Nat) := by
  have hp := stab_perm T xs
  rw [h] at hp
  refine ⟨hp.mem_iff.1 List.mem_cons_self, fun z hz => ?_⟩
  have hs := foldL_srt (fun z => T.level (litV z : Nat)) xs (r := []) List.Pairwise.nil
  have e : foldL (fun z => T.level (litV z : Nat)) [] xs = r.reverse ++ [b] := by
    have := stab_fold T xs
    rw [h] at this
    have h2 := congrArg List.reverse this
    rw [List.reverse_reverse, List.reverse_cons] at h2
    exact h2.symm
  rw [e] at hs
  unfold SrtL at hs
  rw [List.pairwise_append] at hs
  rcases List.mem_cons.1 (hp.mem_iff.2 hz) with h2 | h2
  · rw [h2]
    exact Int.le_refl _
  · exact hs.2.2 z (List.mem_reverse.2 h2) b (List.mem_singleton.2 rfl)
theorem one_of {xs : List Int} {x : Int} (hn : xs.Nodup) (hm : x ∈ xs) (ha : ∀ y ∈ xs, y = x) : xs = [x] := by
  cases xs with
  | nil => cases hm
  | cons y r =>
    rw [ha y List.mem_cons_self]
    cases r with
    | nil => rfl
    | cons z r =>
      have h1 := ha y List.mem_cons_self
      have h2 := ha z (List.mem_cons_of_mem _ List.mem_cons_self)
      rw [List.nodup_cons] at hn
      exact absurd (by rw [h1, ← h2]; exact List.mem_cons_self) hn.1
/-- what a clause is watched by all of whose literals but one are false -/
theorem learn_two {L : List Int} {l0 : Int} (h0 : l0 ∈ L) (hf0 : T.fal l0 = false) (hft : ∀ y ∈ L, y ≠ l0 → T.fal y = true) :
    ((∀ y ∈ L, y = l0) ∧ addTwo T L = [l0]) ∨ ∃ b, addTwo T L = [l0, b] ∧ b ∈ L ∧ b ≠ l0 ∧ ∀ y ∈ L, y ≠ l0 → T.level (litV y : Nat) ≤ T.level (litV b : Nat) := by
  have e1 : (eachL L).filter (fun x => !T.fal x) = [l0] := one_of ((eachL_nodup L).filter _) (List.mem_filter.2 ⟨eachL_mem.2 h0, by rw [hf0]; rfl⟩) fun y hy => by
    obtain ⟨h1, h2⟩ := List.mem_filter.1 hy
    refine Classical.byContradiction fun hne => ?_
    rw [hft y (eachL_mem.1 h1) hne] at h2
    cases h2
  have hmem : ∀ y, y ∈ (eachL L).filter T.fal ↔ y ∈ L ∧ y ≠ l0 := fun y => by
    rw [List.mem_filter, eachL_mem]
    constructor
    · rintro ⟨h1, h2⟩
      refine ⟨h1, fun e => ?_⟩
      rw [e, hf0] at h2
      cases h2
    · rintro ⟨h1, h2⟩
      exact ⟨h1, hft y h1 h2⟩
  unfold addTwo Trl.first
  rw [e1]
  cases hs : T.stab ((eachL L).filter T.fal) with
  | nil =>
    left
    refine ⟨fun y hy => Classical.byContradiction fun hne => ?_, rfl⟩
    have := (stab_perm T ((eachL L).filter T.fal)).mem_iff.2 ((hmem y).2 ⟨hy, hne⟩)
    rw [hs] at this
    cases this
  | cons b r =>
    right
    obtain ⟨h1, h2⟩ := stab_max hs
    obtain ⟨h3, h4⟩ := (hmem b).1 h1
    exact ⟨b, rfl, h3, h4, fun y hy hne => h2 y ((hmem y).2 ⟨hy, hne⟩)⟩
/-- Add of what is learned -/
theorem St.learn (h : St C T its S) (hF : Fit6 C) (hlk : S.looked = its.length) {id l0 : Int} {L : List Int} (hc : C id = some L) (hk0 : S.kn id = none) (hal : alwL L = false) (h0 : l0 ∈ L) (hz : T.val l0 = 0) (hft : ∀ y ∈ L, y ≠ l0 → Has its (-y)) (hlv : (∃ y ∈ L, y ≠ l0) → ∃ y ∈ L, y ≠ l0 ∧ T.now ≤ T.level (litV y : Nat)) :
    (addOk T S id L).res = 2 ∧ (addOk T S id L).T = T.assigned l0 id ∧ St C (T.assigned l0 id) (its ++ [⟨l0, id, T.now⟩]) (addOk T S id L).S ∧ (addOk T S id L).S.looked = S.looked ∧ (∀ j, ((addOk T S id L).S.kn j).isSome = (decide (j = id) || (S.kn j).isSome)) ∧ Sim (T.assigned l0 id) (its ++ [⟨l0, id, T.now⟩]) := by
  obtain ⟨hid, hcl, hcb⟩ := hF id L hc
  have hid' : 1 ≤ id ∧ id ≤ 1073741824 := ⟨hid.1, by omega⟩
  have hc' : (eachL L).length ≤ 4096 ∧ ∀ l ∈ eachL L, litB l = true := ⟨Nat.le_trans (eachL_len L) (by omega), fun l hl => (hcb l (eachL_mem.1 hl)).1⟩
  have hi := h.inv
  have hf0 : T.fal l0 = false := by unfold Trl.fal; rw [hz]; rfl
  have ht0 : T.tru l0 = false := by unfold Trl.tru; rw [hz]; rfl
  have hft' : ∀ y ∈ L, y ≠ l0 → T.fal y = true := fun y hy hne => (h.sim.fal_iff (hcb y hy).1).2 (hft y hy hne)
  have herr := free_err h.vars (hcb l0 h0).1 (hcb l0 h0).2 hz (r := id) ⟨by omega, by omega⟩
  have hsn := h.sim.snoc herr
  have e : addOk T S id L = ⟨addKind T (addTwo T L), 0, if addKind T (addTwo T L) = 2 then T.assigned ((addTwo T L).headD 0) id else T, S.addBy id (eachL L) (addTwo T L)⟩ := by unfold addOk; rw [if_neg (by rw [hal]; decide)]
  have hno : ∀ (p : Nat) (x : RIt), its[p]? = some x → x.lit ≠ -l0 := fun p x hx e => by
    have := (h.sim.fal_iff (hcb l0 h0).1).2 ⟨p, x, hx, e⟩
    rw [hf0] at this
    cases this
  have isS : ∀ {S' : Wst} {bs : List Int}, (∀ j, S'.kn j = if j = id then some ⟨bs, eachL L⟩ else S.kn j) → ∀ j, (S'.kn j).isSome = (decide (j = id) || (S.kn j).isSome) := fun hkn j => by
    rw [hkn]
    by_cases e : j = id
    · rw [if_pos e, decide_eq_true e]
      rfl
    · rw [if_neg e, decide_eq_false e]
      rfl
  have fin : ∀ {S' : Wst} {bs : List Int}, S'.Bnd → S'.Link → S'.looked = S.looked → (∀ j, S'.kn j = if j = id then some ⟨bs, eachL L⟩ else S.kn j) → (bs = [] → (eachL L).length ≤ 1) → (∀ a ∈ bs, a = l0 ∨ (a ∈ L ∧ a ≠ l0 ∧ (⟨bs, eachL L⟩ : Kn).other a = l0 ∧ T.now ≤ T.level (litV a : Nat))) → St C (T.assigned l0 id) (its ++ [⟨l0, id, T.now⟩]) S' := fun {S' bs} hb hL hlk' hkn h2 h3 => by
    refine ⟨hsn, (assigned_vars T l0 id).trans h.vars, h.sta.snoc (assigned_starts l0 id) l0 id, ?_⟩
    rw [assigned_now]
    exact {
      bnd := hb
      link := hL
      kn := fun j k hk => by
        rw [hkn] at hk
        split at hk
        · rename_i e
          subst e
          rw [← Option.some.inj hk]
          exact ⟨L, hc, rfl⟩
        · exact hi.kn j k hk
      two := fun j k c' hk hc' hby => by
        rw [hkn] at hk
        split at hk
        · rename_i e
          subst e
          rw [hc] at hc'
          obtain rfl := Option.some.inj hc'
          rw [← Option.some.inj hk] at hby ⊢
          exact .inr (h2 hby)
        · exact hi.two j k c' hk hc' hby
      alw := fun j k c' hk hc' ha => by
        rw [hkn] at hk
        split at hk
        · rename_i e
          subst e
          rw [hc] at hc'
          obtain rfl := Option.some.inj hc'
          rw [hal] at ha
          cases ha
        · exact hi.alw j k c' hk hc' ha
      w := fun j k a hk ha p x hp hx hxl => by
        rw [hlk', hlk] at hp
        rw [List.getElem?_append_left hp] at hx
        rw [hkn] at hk
        split at hk
        · obtain rfl := Option.some.inj hk
          rcases h3 a ha with e | ⟨e1, e2, e3, e4⟩
          · exact absurd (by rw [hxl, e]) (hno p x hx)
          · refine ⟨its.length, ⟨l0, id, T.now⟩, by simp, e3.symm, ?_⟩
            have := (at_fal h.sim hx hxl).2.2.2.2
            show T.now ≤ x.level
            omega
        · obtain ⟨q, y, hq, h1, h2⟩ := hi.w j k a hk ha p x (by omega) hx hxl
          exact ⟨q, y, by rw [List.getElem?_append_left (List.getElem?_eq_some_iff.1 hq).1]; exact hq, h1, h2⟩
      cur := fun p x hp hx => by
        rw [List.getElem?_append] at hx
        split at hx
        · exact hi.cur p x (by omega) hx
        · rw [List.mem_singleton.1 (List.mem_of_getElem? hx)]
      len := by
        rw [List.length_append]
        have := hi.len
        omega
      rs := hi.rs.snoc fun _ => ⟨L, hc, h0, hft⟩ }
  rw [e]
  rcases learn_two h0 hf0 hft' with ⟨h1, h2⟩ | ⟨b, h2, h3, h4, h5⟩
  · have hk2 : addKind T (addTwo T L) = 2 := by
      rw [h2]
      show (if T.fal l0 = true then 3 else if T.tru l0 = true then 1 else 2) = 2
      rw [if_neg (by rw [hf0]; decide), if_neg (by rw [ht0]; decide)]
    have hl1 : (eachL L).length ≤ 1 := by
      rw [one_of (eachL_nodup L) (eachL_mem.2 h0) fun y hy => h1 y (eachL_mem.1 hy)]
      exact Nat.le_refl _
    have e2 : S.addBy id (eachL L) (addTwo T L) = S.set id ⟨[], eachL L⟩ := by rw [h2]; rfl
    obtain ⟨a1, a2⟩ := watch_none hi.bnd hi.link hk0 hid' hc'
    have hkn := fun j => Wst.kn_set hi.bnd id ⟨[], eachL L⟩ j
    simp only [hk2, if_true, e2]
    rw [h2]
    exact ⟨by trivial, rfl, fin a1 a2 rfl hkn (fun _ => hl1) (fun a ha => by cases ha), rfl, isS hkn, hsn⟩
  · have hk2 : addKind T (addTwo T L) = 2 := by
      rw [h2]
      show (if T.fal l0 = true then 3 else if T.tru l0 = true ∨ T.fal b = false then 1 else 2) = 2
      rw [if_neg (by rw [hf0]; decide), if_neg (by rw [ht0, hft' b h3 h4]; simp)]
    have hlb : T.now ≤ T.level (litV b : Nat) := by
      obtain ⟨y, hy, hne, hl⟩ := hlv ⟨b, h3, h4⟩
      have := h5 y hy hne
      omega
    obtain ⟨a1, a2, a3, a4, a5, a6⟩ := watch_two hi.bnd hi.link hk0 hid' hc' (Ne.symm h4) (eachL_mem.2 h0) (eachL_mem.2 h3)
    have hkn := fun j => Wst.kn_set hi.bnd id ⟨[l0, b], eachL L⟩ j
    simp only [hk2, if_true]
    rw [h2]
    refine ⟨by trivial, rfl, fin a5 a6 rfl hkn (fun h => by cases h) (fun a ha => ?_), rfl, isS hkn, hsn⟩
    rcases List.mem_cons.1 ha with e | ha
    · exact .inl e
    · rw [List.mem_singleton.1 ha]
      refine .inr ⟨h3, h4, ?_, hlb⟩
      unfold Kn.other
      simp [Ne.symm h4]
end
end Go.Proofs.YtoojmhjagipmdaaGreat
namespace Go.Proofs.YtoojmhjagipmdaaGreat
open Go.RowKit

section
variable {A : Arn} {C : Int → Option (List Int)} {T : Trl} {its : List RIt}
theorem litN_eq {l : Int} (h : litB l = true) : litN l = -l := by unfold litN; rw [if_pos h]
theorem not_contains {xs : List Int} {x : Int} (h : x ∉ xs) : xs.contains x = false := by
  cases hc : xs.contains x with
  | false => rfl
  | true => exact absurd (List.contains_iff_mem.1 hc) h
theorem desc_snoc {R : List Nat} {p : Nat} (h : R.Pairwise (· > ·)) (hp : ∀ q ∈ R, p + 1 ≤ q) : (R ++ [p]).Pairwise (· > ·) := by
  rw [List.pairwise_append]
  exact ⟨h, List.pairwise_singleton _ _, fun a ha b hb => by rw [List.mem_singleton.1 hb]; exact hp a ha⟩
theorem snoc_mem {R : List Nat} {p q : Nat} : q ∈ R ++ [p] ↔ q ∈ R ∨ q = p := by rw [List.mem_append, List.mem_singleton]
theorem goes_keep {lv op v : Int} (h : T.goes lv op v = false) : T.level v ≠ 0 ∧ (T.level v = lv → op ≤ 1) := by
  unfold Trl.goes at h
  rw [Bool.or_eq_false_iff, Bool.and_eq_false_iff] at h
  refine ⟨fun e => ?_, fun e => ?_⟩
  · have := h.1
    rw [e] at this
    cases this
  · rcases h.2 with h | h
    · rw [e, beq_self_eq_true] at h
      cases h
    · have := of_decide_eq_false h
      omega
theorem goes_go {lv op v : Int} (h : T.goes lv op v = true) : T.level v = 0 ∨ T.level v = lv ∧ 1 < op := by
  unfold Trl.goes at h
  rw [Bool.or_eq_true, Bool.and_eq_true] at h
  rcases h with h | h
  · exact .inl (eq_of_beq h)
  · exact .inr ⟨eq_of_beq h.1, of_decide_eq_true h.2⟩
theorem CfO.step {c : List Int} {lv : Int} {p : Nat} {s : CSt} {R K : List Nat} (o : CfO C T its c lv (p + 1) s R K) (hs : Sim T its) (hr : Rsn C its) (hA : ∀ j, A.get j = C j) (hd : Dcs its) {x : RIt} (hp : its[p]? = some x) :
    ∃ s' R' K', cfStep A T lv s x.lit = some s' ∧ CfO C T its c lv p s' R' K' := by
  have hxb := (hs.at_ p x hp).1
  have hlx := hs.level hp
  have hpl := (List.getElem?_eq_some_iff.1 hp).1
  have hpr : p ∉ R := fun h => by have := o.rge p h; omega
  have hpk : p ∉ K := fun h => by have := (o.kge p h).1; omega
  by_cases hm : ((litV x.lit : Nat) : Int) ∈ s.ms
  · by_cases hg : T.goes lv s.op ((litV x.lit : Nat) : Int) = true
    · -- it has to go
      have hgo := goes_go hg
      rw [hlx] at hgo
      have h0 : x.reason ≠ 0 := fun h0 => by
        obtain ⟨h1, h2⟩ := hd p x hp h0
        rcases hgo with e | ⟨e, hop⟩
        · omega
        · have hlv : lv ≠ 0 := by omega
          obtain ⟨q, y, hq, hym, hyl, hqr, hqv⟩ := o.more hs hlv [((litV x.lit : Nat) : Int)] (by simpa using hop)
          rcases Nat.lt_trichotomy q p with hlt | heq | hgt
          · have := h2 q y hlt hq
            omega
          · subst heq
            rw [hp] at hq
            obtain rfl := Option.some.inj hq
            exact hqv (List.mem_singleton.2 rfl)
          · rcases (o.all q y hgt hq).1 hym with h | h
            · exact hqr h
            · have := o.kop hlv ⟨q, h, (lvAt_eq hq).trans hyl⟩
              omega
      obtain ⟨d, hcd, hrp, hxd, hod⟩ := right_ok hs hr hA hp h0
      obtain ⟨new, m1, m2, m3, m4, m5⟩ := meet_ok (T := T) ((litV x.lit : Nat) : Int) lv d s.ms 0 o.nd
      have hnew : ∀ v ∈ new, ∃ (q : Nat) (y : RIt), q < p ∧ its[q]? = some y ∧ v = (litV y.lit : Nat) ∧ -y.lit ∈ d := fun v hv => by
        obtain ⟨hne, y, hy, e⟩ := m4 v hv
        have hyx : y ≠ x.lit := fun h => hne (by rw [e, h])
        obtain ⟨q, z, hq, hz, ez⟩ := hod y hy hyx
        have hzl := at_fal hs hz ez
        exact ⟨q, z, hq, hz, by rw [e, hzl.2.1], by rw [ez, Int.neg_neg]; exact hy⟩
      have hmono : ∀ (q : Nat) (y : RIt), q < p → its[q]? = some y → y.level ≤ x.level := fun q y hq hy => hs.mono q p y x (Nat.le_of_lt hq) hy hp
      refine ⟨_, R ++ [p], K, by unfold cfStep; rw [if_neg (by rw [List.contains_iff_mem.2 hm]; simp), if_neg (by rw [hg]; simp), hrp], ?_⟩
      have hop : ∀ h : lv ≠ 0, (if T.level (litV x.lit : Nat) = lv then s.op + (((T.meetGo ((litV x.lit : Nat) : Int) lv d s.ms 0).2 : Int) - 1) else s.op) = (((s.ms ++ new).filter fun v => decide (T.level v = lv)).length : Int) - (((R ++ [p]).filter fun q => decide (lvAt its q = lv)).length : Int) ∧ 1 ≤ (if T.level (litV x.lit : Nat) = lv then s.op + (((T.meetGo ((litV x.lit : Nat) : Int) lv d s.ms 0).2 : Int) - 1) else s.op) ∧ ((∃ q ∈ K, lvAt its q = lv) → (if T.level (litV x.lit : Nat) = lv then s.op + (((T.meetGo ((litV x.lit : Nat) : Int) lv d s.ms 0).2 : Int) - 1) else s.op) = 1) := fun h => by
        have a1 := o.op h
        have a2 := o.op1 h
        rw [List.filter_append, List.filter_append, List.length_append, List.length_append, m2, hlx, List.filter_cons, List.filter_nil, lvAt_eq hp]
        by_cases e : x.level = lv
        · have hop1 : 1 < s.op := by
            rcases hgo with e2 | e2
            · omega
            · exact e2.2
          rw [if_pos e, if_pos (decide_eq_true e)]
          simp only [List.length_cons, List.length_nil]
          refine ⟨by omega, by omega, fun hk => ?_⟩
          have := o.kop h hk
          omega
        · have hx0 : x.level = 0 := by
            rcases hgo with e2 | e2
            · exact e2
            · exact absurd e2.1 e
          have hz : (new.filter fun v => decide (T.level v = lv)) = [] := by
            rw [List.filter_eq_nil_iff]
            intro v hv
            obtain ⟨q, y, hq, hy, e3, _⟩ := hnew v hv
            rw [e3, hs.level hy, decide_eq_true_eq]
            have := hmono q y hq hy
            have := hs.pos y (List.mem_of_getElem? hy)
            omega
          rw [if_neg e, if_neg (by simpa using e), hz]
          simp only [List.length_nil]
          exact ⟨by omega, by omega, fun hk => o.kop h hk⟩
      rw [m1]
      exact {
        rdn := desc_snoc o.rdn o.rge
        kdn := o.kdn
        rge := fun q hq => by
          rcases snoc_mem.1 hq with h | h
          · have := o.rge q h
            omega
          · omega
        kge := fun q hq => by
          have := o.kge q hq
          omega
        ms := fun v hv => by
          rcases List.mem_append.1 hv with h | h
          · exact o.ms v h
          · obtain ⟨q, y, _, hy, e, _⟩ := hnew v h
            exact ⟨q, y, hy, e⟩
        nd := m3
        all := fun q y hq hy => by
          rw [snoc_mem]
          rcases Nat.eq_or_lt_of_le hq with e | hlt
          · subst e
            rw [hp] at hy
            obtain rfl := Option.some.inj hy
            exact ⟨fun _ => .inl (.inr rfl), fun _ => List.mem_append_left _ hm⟩
          · have h1 := o.all q y hlt hy
            rw [List.mem_append, h1]
            constructor
            · rintro (h | h)
              · exact h.imp_left .inl
              · obtain ⟨q2, y2, hq2, hy2, e2, _⟩ := hnew _ h
                have := hs.inj hy hy2 (by omega)
                omega
            · rintro ((h | h) | h)
              · exact .inl (.inl h)
              · omega
              · exact .inl (.inr h)
        dis := fun q hq => by
          rcases snoc_mem.1 hq with h | h
          · exact o.dis q h
          · rw [h]
            exact hpk
        src := fun q y hy hv => by
          rcases List.mem_append.1 hv with h | h
          · refine (o.src q y hy h).imp_right ?_
            rintro ⟨r, z, d2, a1, a2, a3⟩
            exact ⟨r, z, d2, a1, snoc_mem.2 (.inl a2), a3⟩
          · obtain ⟨q2, y2, hq2, hy2, e2, hd2⟩ := hnew _ h
            have e3 := hs.inj hy hy2 (by omega)
            subst e3
            rw [hy] at hy2
            obtain rfl := Option.some.inj hy2
            exact .inr ⟨p, x, d, hq2, snoc_mem.2 (.inr rfl), hp, hcd, hd2⟩
        cov := fun y hy => List.mem_append_left _ (o.cov y hy)
        covR := fun r hr2 => by
          rcases snoc_mem.1 hr2 with h | h
          · obtain ⟨z, d2, a1, a2, a3, a4, a5⟩ := o.covR r h
            exact ⟨z, d2, a1, a2, a3, a4, fun y hy hne => ⟨(a5 y hy hne).1, List.mem_append_left _ (a5 y hy hne).2⟩⟩
          · subst h
            refine ⟨x, d, hp, hcd, hxd, h0, fun y hy hne => ⟨hod y hy hne, m5 y hy fun e => hne ?_⟩⟩
            obtain ⟨q, z, hq, hz, ez⟩ := hod y hy hne
            have hzl := at_fal hs hz ez
            have := hs.inj hz hp (by rw [hzl.2.1]; omega)
            omega
        hints := by rw [List.map_append, ← o.hints, List.map_cons, List.map_nil, rsAt_eq hp]
        lits := o.lits
        met := fun q hq => by
          show _ ∈ (if 0 < T.level (litV x.lit : Nat) then s.met ++ [((litV x.lit : Nat) : Int)] else s.met)
          split
          · exact List.mem_append_left _ (o.met q hq)
          · exact o.met q hq
        lvl := fun q y hy hv => by
          rcases List.mem_append.1 hv with h | h
          · exact o.lvl q y hy h
          · obtain ⟨q2, y2, hq2, hy2, e2, _⟩ := hnew _ h
            have e3 := hs.inj hy hy2 (by omega)
            subst e3
            have := hmono q y hq2 hy
            have := o.lvl p x hp hm
            omega
        klv := o.klv
        op := fun h => (hop h).1
        op1 := fun h => (hop h).2.1
        kop := fun h => (hop h).2.2 }
    · -- it stays
      rw [Bool.not_eq_true] at hg
      have hk := goes_keep hg
      rw [hlx] at hk
      have hpos := (hs.pos x (List.mem_of_getElem? hp)).1
      refine ⟨_, R, K ++ [p], by unfold cfStep; rw [if_neg (by rw [List.contains_iff_mem.2 hm]; simp), if_pos hg], ?_⟩
      exact {
        rdn := o.rdn
        kdn := desc_snoc o.kdn fun q hq => (o.kge q hq).1
        rge := fun q hq => by
          have := o.rge q hq
          omega
        kge := fun q hq => by
          rcases snoc_mem.1 hq with h | h
          · have := o.kge q h
            omega
          · omega
        ms := o.ms
        nd := o.nd
        all := fun q y hq hy => by
          rw [snoc_mem]
          rcases Nat.eq_or_lt_of_le hq with e | hlt
          · subst e
            rw [hp] at hy
            obtain rfl := Option.some.inj hy
            exact ⟨fun _ => .inr (.inr rfl), fun _ => hm⟩
          · rw [o.all q y hlt hy]
            constructor
            · exact fun h => h.imp_right .inl
            · rintro (h | h | h)
              · exact .inl h
              · exact .inr h
              · omega
        dis := fun q hq h => by
          rcases snoc_mem.1 h with h | h
          · exact o.dis q hq h
          · exact hpr (h ▸ hq)
        src := o.src
        cov := o.cov
        covR := o.covR
        hints := o.hints
        lits := by rw [List.map_append, ← o.lits, List.map_cons, List.map_nil, litAt_eq hp, litN_eq hxb]
        met := fun q hq => by
          show _ ∈ (if 0 < T.level (litV x.lit : Nat) then s.met ++ [((litV x.lit : Nat) : Int)] else s.met)
          rw [hlx, if_pos (by omega), List.mem_append]
          rcases snoc_mem.1 hq with h | h
          · exact .inl (o.met q h)
          · rw [h, litAt_eq hp]
            exact .inr (List.mem_singleton.2 rfl)
        lvl := o.lvl
        klv := fun q hq => by
          rcases snoc_mem.1 hq with h | h
          · exact o.klv q h
          · rw [h, lvAt_eq hp]
            omega
        op := o.op
        op1 := o.op1
        kop := fun h hq => by
          obtain ⟨q, hq, e⟩ := hq
          rcases snoc_mem.1 hq with h2 | h2
          · exact o.kop h ⟨q, h2, e⟩
          · rw [h2, lvAt_eq hp] at e
            have := hk.2 e
            have := o.op1 h
            show s.op = 1
            omega }
  · refine ⟨s, R, K, by unfold cfStep; rw [if_pos (not_contains hm)], ?_⟩
    exact {
      rdn := o.rdn
      kdn := o.kdn
      rge := fun q hq => by
        have := o.rge q hq
        omega
      kge := fun q hq => by
        have := o.kge q hq
        omega
      ms := o.ms
      nd := o.nd
      all := fun q y hq hy => by
        rcases Nat.eq_or_lt_of_le hq with e | hlt
        · subst e
          rw [hp] at hy
          obtain rfl := Option.some.inj hy
          exact ⟨fun h => absurd h hm, fun h => h.elim (fun h => absurd h hpr) (fun h => absurd h hpk)⟩
        · exact o.all q y hlt hy
      dis := o.dis
      src := o.src
      cov := o.cov
      covR := o.covR
      hints := o.hints
      lits := o.lits
      met := o.met
      lvl := o.lvl
      klv := o.klv
      op := o.op
      op1 := o.op1
      kop := o.kop }
/-- the whole run -/
theorem CfO.run {c : List Int} {lv : Int} (hs : Sim T its) (hr : Rsn C its) (hA : ∀ j, A.get j = C j) (hd : Dcs its) : ∀ (p : Nat) (s : CSt) (R K : List Nat), p ≤ its.length → CfO C T its c lv p s R K → ∃ s' R' K', cfRun A T lv s ((its.take p).reverse.map RIt.lit) = some s' ∧ CfO C T its c lv 0 s' R' K' := by
  intro p
  induction p with
  | zero =>
    intro s R K _ o
    exact ⟨s, R, K, rfl, o⟩
  | succ p ih =>
    intro s R K hp o
    obtain ⟨x, hx⟩ := getElem_of (show p < its.length by omega)
    obtain ⟨s1, R1, K1, h1, o1⟩ := o.step hs hr hA hd hx
    obtain ⟨s', R', K', h2, o2⟩ := ih s1 R1 K1 (by omega) o1
    refine ⟨s', R', K', ?_, o2⟩
    rw [List.take_add_one, hx, Option.toList_some, List.reverse_append, List.reverse_cons, List.reverse_nil, List.nil_append, List.singleton_append, List.map_cons]
    unfold cfRun
    rw [h1]
    exact h2
end
end Go.Proofs.YtoojmhjagipmdaaGreat
namespace Go.Proofs.YtoojmhjagipmdaaGreat
open Go.RowKit

/-- hints that lead from the negations of L to a clause c that fails: the reasons of the places R, in their order -/
structure Chain (C : Int → Option (List Int)) (its : List RIt) (L c : List Int) (R : List Nat) : Prop where
  up : R.Pairwise (· < ·)
  rs : ∀ r ∈ R, ∃ (z : RIt) (d : List Int), its[r]? = some z ∧ C z.reason = some d ∧ z.lit ∈ d ∧ ∀ y ∈ d, y ≠ z.lit → ∃ (q : Nat) (x : RIt), q < r ∧ its[q]? = some x ∧ x.lit = -y ∧ (q ∈ R ∨ y ∈ L)
  cl : ∀ y ∈ c, ∃ (q : Nat) (x : RIt), its[q]? = some x ∧ x.lit = -y ∧ (q ∈ R ∨ y ∈ L)
  dis : ∀ r ∈ R, -(litAt its r) ∉ L
  need : ∀ r ∈ R, -(litAt its r) ∈ c ∨ ∃ (r' : Nat) (z : RIt) (d : List Int), r < r' ∧ r' ∈ R ∧ its[r']? = some z ∧ C z.reason = some d ∧ -(litAt its r) ∈ d
  fal : ∀ y ∈ L, Has its (-y)
/-- what is learned -/
structure ConfO (C : Int → Option (List Int)) (T : Trl) (its : List RIt) (id : Int) (c : List Int) (lv : Int) (x : Lrn) (R K : List Nat) : Prop where
  max : T.failMax c 0 = some lv
  lv0 : 0 ≤ lv
  chain : Chain C its x.lits c R
  hints : x.hints = R.map (rsAt its) ++ [id]
  lits : x.lits = K.map fun q => -(litAt its q)
  kdn : K.Pairwise (· > ·)
  kin : ∀ q ∈ K, q < its.length ∧ 0 < lvAt its q ∧ ((litV (litAt its q) : Nat) : Int) ∈ x.met
  one : lv ≠ 0 → ∃ k K', K = k :: K' ∧ lvAt its k = lv ∧ ∀ q ∈ K', lvAt its q < lv
  none : lv = 0 → K = []
  back : x.back = T.backOf x.lits
  levels : x.levels = T.levelsOf x.lits
section
variable {A : Arn} {C : Int → Option (List Int)} {T : Trl} {its : List RIt}
theorem failMax_has (h : Sim T its) : ∀ {c : List Int} {m : Int}, (∀ y ∈ c, Has its (-y)) → ∃ lv, T.failMax c m = some lv ∧ m ≤ lv ∧ (∀ (q : Nat) (x : RIt), its[q]? = some x → -x.lit ∈ c → x.level ≤ lv) ∧ (lv = m ∨ ∃ (q : Nat) (x : RIt), its[q]? = some x ∧ -x.lit ∈ c ∧ x.level = lv) := by
  intro c
  induction c with
  | nil =>
    intro m _
    refine ⟨m, rfl, Int.le_refl _, ?_, .inl rfl⟩
    intro _ _ _ hc
    cases hc
  | cons l c ih =>
    intro m hc
    obtain ⟨q, x, hq, e⟩ := hc l List.mem_cons_self
    obtain ⟨a1, a2, a3, a4, a5⟩ := at_fal h hq e
    obtain ⟨lv, h1, h2, h3, h4⟩ := ih (m := max m (T.level (litV l : Nat))) fun y hy => hc y (List.mem_cons_of_mem _ hy)
    refine ⟨lv, by unfold Trl.failMax; rw [if_neg (by omega)]; exact h1, by omega, fun p z hp hm => ?_, ?_⟩
    · rcases List.mem_cons.1 hm with hm | hm
      · have := h.inj hp hq (by rw [a2, ← hm, litV_negate])
        subst this
        rw [hp] at hq
        obtain rfl := Option.some.inj hq
        omega
      · exact h3 p z hp hm
    · rcases h4 with h4 | ⟨p, z, b1, b2, b3⟩
      · by_cases hm : m < T.level (litV l : Nat)
        · exact .inr ⟨q, x, hq, by rw [e, Int.neg_neg]; exact List.mem_cons_self, by omega⟩
        · exact .inl (by omega)
      · exact .inr ⟨p, z, b1, List.mem_cons_of_mem _ b2, b3⟩
/-- the beginning of the run -/
theorem cfo_begin (hs : Sim T its) {c : List Int} {lv : Int} (hc : ∀ y ∈ c, Has its (-y)) (hm : T.failMax c 0 = some lv) : CfO C T its c lv its.length ⟨(T.meetGo 0 lv c [] 0).1, ((T.meetGo 0 lv c [] 0).2 : Nat), [], [], []⟩ [] [] := by
  obtain ⟨lv', h1, h2, h3, h4⟩ := failMax_has hs (m := 0) hc
  rw [hm] at h1
  obtain rfl := Option.some.inj h1
  obtain ⟨new, m1, m2, m3, m4, m5⟩ := meet_ok (T := T) 0 lv c [] 0 List.nodup_nil
  rw [List.nil_append] at m1 m3 m5
  have hin : ∀ v ∈ new, ∃ (q : Nat) (x : RIt), its[q]? = some x ∧ v = (litV x.lit : Nat) ∧ -x.lit ∈ c := fun v hv => by
    obtain ⟨_, y, hy, e⟩ := m4 v hv
    obtain ⟨q, x, hq, ex⟩ := hc y hy
    exact ⟨q, x, hq, by rw [e, (at_fal hs hq ex).2.1], by rw [ex, Int.neg_neg]; exact hy⟩
  have hcov : ∀ y ∈ c, ((litV y : Nat) : Int) ∈ new := fun y hy => m5 y hy (by
    obtain ⟨q, x, hq, ex⟩ := hc y hy
    have := (litV_pos (at_fal hs hq ex).1).1
    omega)
  have hsrc : ∀ (q : Nat) (x : RIt), its[q]? = some x → ((litV x.lit : Nat) : Int) ∈ new → -x.lit ∈ c := fun q x hq hv => by
    obtain ⟨q2, x2, hq2, e, hx2⟩ := hin _ hv
    have := hs.inj hq hq2 (by omega)
    subst this
    rw [hq] at hq2
    obtain rfl := Option.some.inj hq2
    exact hx2
  rw [m1, m2]
  exact {
    rdn := List.Pairwise.nil
    kdn := List.Pairwise.nil
    rge := fun q hq => by cases hq
    kge := fun q hq => by cases hq
    ms := fun v hv => by
      obtain ⟨q, x, hq, e, _⟩ := hin v hv
      exact ⟨q, x, hq, e⟩
    nd := m3
    all := fun q x hq hx => by
      have := (List.getElem?_eq_some_iff.1 hx).1
      omega
    dis := fun q hq => by cases hq
    src := fun q x hq hv => .inl (hsrc q x hq hv)
    cov := hcov
    covR := fun r hr => by cases hr
    hints := rfl
    lits := rfl
    met := fun q hq => by cases hq
    lvl := fun q x hq hv => h3 q x hq (hsrc q x hq hv)
    klv := fun q hq => by cases hq
    op := fun _ => by
      simp only [List.filter_nil, List.length_nil]
      omega
    op1 := fun h => by
      rcases h4 with h4 | ⟨q, x, hq, hx, e⟩
      · exact absurd h4 h
      · have hv := hcov _ hx
        rw [litV_negate] at hv
        have : ((litV x.lit : Nat) : Int) ∈ new.filter fun v => decide (T.level v = lv) := List.mem_filter.2 ⟨hv, decide_eq_true ((hs.level hq).trans e)⟩
        have := List.length_pos_of_mem this
        show (1 : Int) ≤ ((0 + (new.filter fun v => decide (T.level v = lv)).length : Nat) : Int)
        omega
    kop := fun _ ⟨q, hq, _⟩ => by cases hq }
/-- the end of the run: the chain -/
theorem CfO.chain {c : List Int} {lv : Int} {s : CSt} {R K : List Nat} (o : CfO C T its c lv 0 s R K) (hs : Sim T its) (hc : ∀ y ∈ c, Has its (-y)) : Chain C its s.lits c R.reverse := by
  have hK : ∀ (q : Nat) (x : RIt) (y : Int), its[q]? = some x → x.lit = -y → ((litV y : Nat) : Int) ∈ s.ms → q ∈ R.reverse ∨ y ∈ s.lits := fun q x y hq e hv => by
    rw [List.mem_reverse]
    refine ((o.all q x (Nat.zero_le _) hq).1 (by rw [(at_fal hs hq e).2.1]; exact hv)).imp_right fun hk => ?_
    rw [o.lits, List.mem_map]
    exact ⟨q, hk, by rw [litAt_eq hq, e, Int.neg_neg]⟩
  exact {
    up := by
      rw [List.pairwise_reverse]
      exact o.rdn
    rs := fun r hr => by
      rw [List.mem_reverse] at hr
      obtain ⟨z, d, a1, a2, a3, _, a5⟩ := o.covR r hr
      refine ⟨z, d, a1, a2, a3, fun y hy hne => ?_⟩
      obtain ⟨⟨q, x, hq, hx, e⟩, hv⟩ := a5 y hy hne
      exact ⟨q, x, hq, hx, e, hK q x y hx e hv⟩
    cl := fun y hy => by
      obtain ⟨q, x, hq, e⟩ := hc y hy
      exact ⟨q, x, hq, e, hK q x y hq e (o.cov y hy)⟩
    dis := fun r hr hm => by
      rw [List.mem_reverse] at hr
      obtain ⟨z, d, a1, _⟩ := o.covR r hr
      rw [o.lits, List.mem_map] at hm
      obtain ⟨q, hq, e⟩ := hm
      obtain ⟨x, hx⟩ := getElem_of (o.kge q hq).2
      rw [litAt_eq hx, litAt_eq a1] at e
      have := hs.inj hx a1 (by rw [show x.lit = z.lit by omega])
      subst this
      exact o.dis q hr hq
    need := fun r hr => by
      rw [List.mem_reverse] at hr
      obtain ⟨z, d, a1, _⟩ := o.covR r hr
      rw [litAt_eq a1]
      refine (o.src r z a1 ((o.all r z (Nat.zero_le _) a1).2 (.inl hr))).imp_right ?_
      rintro ⟨r', z', d', b1, b2, b3⟩
      exact ⟨r', z', d', b1, List.mem_reverse.2 b2, b3⟩
    fal := fun y hy => by
      rw [o.lits, List.mem_map] at hy
      obtain ⟨q, hq, e⟩ := hy
      obtain ⟨x, hx⟩ := getElem_of (o.kge q hq).2
      exact ⟨q, x, hx, by rw [← e, litAt_eq hx, Int.neg_neg]⟩ }
/-- Conflict: what it returns -/
theorem conf_law (hs : Sim T its) (hr : Rsn C its) (hA : ∀ j, A.get j = C j) (hd : Dcs its) {id : Int} {c : List Int} (hcc : C id = some c) (hc : ∀ y ∈ c, Has its (-y)) : ∃ x lv R K, confP A T id = (x, 0) ∧ ConfO C T its id c lv x R K := by
  obtain ⟨lv, hm, h0, hmax, _⟩ := failMax_has hs (m := 0) hc
  obtain ⟨s, R, K, hrun, o⟩ := CfO.run (A := A) (lv := lv) hs hr hA hd its.length _ [] [] (Nat.le_refl _) (cfo_begin (C := C) hs hc hm)
  have hend : cfEnd A T lv c = some s := by
    unfold cfEnd
    rw [hs.order, ← List.map_reverse]
    rw [List.take_length] at hrun
    exact hrun
  refine ⟨⟨s.lits, T.backOf s.lits, T.levelsOf s.lits, s.hints.reverse ++ [id], sortI s.met⟩, lv, R.reverse, K, by unfold confP; rw [(hA id).trans hcc]; simp only [hm, hend], hm, h0, o.chain hs hc, by rw [o.hints, List.map_reverse], o.lits, o.kdn, fun q hq => ⟨(o.kge q hq).2, o.klv q hq, (sortI_mem _ _).2 (o.met q hq)⟩, fun hl => ?_, fun hl => ?_, rfl, rfl⟩
  · obtain ⟨q, x, hq, hv, hxl, hqr, _⟩ := o.more hs hl [] (by have := o.op1 hl; simp only [List.length_nil]; omega)
    have hqk : q ∈ K := ((o.all q x (Nat.zero_le _) hq).1 hv).resolve_left hqr
    have hop := o.kop hl ⟨q, hqk, (lvAt_eq hq).trans hxl⟩
    have huniq : ∀ q' ∈ K, lvAt its q' = lv → q' = q := fun q' hq' e => Classical.byContradiction fun hne => by
      have ho := o.op hl
      obtain ⟨x', hx'⟩ := getElem_of (o.kge q' hq').2
      rw [lvAt_eq hx'] at e
      have hv' := (o.all q' x' (Nat.zero_le _) hx').2 (.inr hq')
      have hsub : (((R.filter fun q => decide (lvAt its q = lv)).map fun q => ((litV (litAt its q) : Nat) : Int)) ++ [((litV x.lit : Nat) : Int), ((litV x'.lit : Nat) : Int)]).length ≤ (s.ms.filter fun v => decide (T.level v = lv)).length := by
        refine List.Nodup.length_le_of_subset ?_ ?_
        · rw [List.nodup_append]
          have hRin : ∀ r ∈ R, ∃ z, its[r]? = some z := fun r hr => by
            obtain ⟨z, d, a1, _⟩ := o.covR r hr
            exact ⟨z, a1⟩
          refine ⟨?_, ?_, ?_⟩
          · have hn : (R.filter fun q => decide (lvAt its q = lv)).Nodup := (o.rdn.imp (fun h e => by omega)).filter _
            unfold List.Nodup
            rw [List.pairwise_map]
            refine hn.imp_of_mem ?_
            intro a b ha hb hne e
            obtain ⟨za, hza⟩ := hRin a (List.mem_filter.1 ha).1
            obtain ⟨zb, hzb⟩ := hRin b (List.mem_filter.1 hb).1
            rw [litAt_eq hza, litAt_eq hzb] at e
            exact hne (hs.inj hza hzb (by omega))
          · rw [List.nodup_cons]
            refine ⟨fun h => hne ?_, by simp⟩
            rw [List.mem_singleton] at h
            exact hs.inj hx' hq (by omega)
          · intro a ha b hb e
            rw [List.mem_map] at ha
            obtain ⟨r, hr, e2⟩ := ha
            have hr := (List.mem_filter.1 hr).1
            obtain ⟨zr, hzr⟩ := hRin r hr
            rw [litAt_eq hzr] at e2
            rcases List.mem_cons.1 hb with e3 | hb
            · have := hs.inj hzr hq (by omega)
              exact hqr (this ▸ hr)
            · have e3 := List.mem_singleton.1 hb
              have := hs.inj hzr hx' (by omega)
              exact o.dis r hr (this ▸ hq')
        · intro v hv2
          rcases List.mem_append.1 hv2 with h | h
          · rw [List.mem_map] at h
            obtain ⟨r, hr, e2⟩ := h
            obtain ⟨hr, hrl⟩ := List.mem_filter.1 hr
            have hrl := of_decide_eq_true hrl
            obtain ⟨z, d, a1, _⟩ := o.covR r hr
            rw [litAt_eq a1] at e2
            rw [lvAt_eq a1] at hrl
            rw [← e2]
            exact List.mem_filter.2 ⟨(o.all r z (Nat.zero_le _) a1).2 (.inl hr), decide_eq_true ((hs.level a1).trans hrl)⟩
          · rcases List.mem_cons.1 h with h | h
            · rw [h]
              exact List.mem_filter.2 ⟨hv, decide_eq_true ((hs.level hq).trans hxl)⟩
            · rw [List.mem_singleton.1 h]
              exact List.mem_filter.2 ⟨hv', decide_eq_true ((hs.level hx').trans e)⟩
      rw [List.length_append, List.length_map] at hsub
      simp only [List.length_cons, List.length_nil] at hsub
      omega
    have hle : ∀ q' ∈ K, lvAt its q' ≤ lv := fun q' hq' => by
      obtain ⟨x', hx'⟩ := getElem_of (o.kge q' hq').2
      rw [lvAt_eq hx']
      exact o.lvl q' x' hx' ((o.all q' x' (Nat.zero_le _) hx').2 (.inr hq'))
    cases hK : K with
    | nil => rw [hK] at hqk; cases hqk
    | cons k K' =>
      rw [hK] at hqk hle huniq
      have hkd := o.kdn
      rw [hK, List.pairwise_cons] at hkd
      have hkq : k = q := by
        rcases List.mem_cons.1 hqk with e | hm2
        · exact e.symm
        · have hgt := hkd.1 q hm2
          obtain ⟨xk, hxk⟩ := getElem_of (o.kge k (by rw [hK]; exact List.mem_cons_self)).2
          have h1 := hs.mono q k x xk (Nat.le_of_lt hgt) hq hxk
          have h2 := hle k List.mem_cons_self
          rw [lvAt_eq hxk] at h2
          exact huniq k List.mem_cons_self (by rw [lvAt_eq hxk]; omega)
      refine ⟨k, K', rfl, by rw [hkq, lvAt_eq hq, hxl], fun q' hq' => ?_⟩
      have h1 := hle q' (List.mem_cons_of_mem _ hq')
      have h2 := huniq q' (List.mem_cons_of_mem _ hq')
      have h3 := hkd.1 q' hq'
      omega
  · cases hK : K with
    | nil => rfl
    | cons k K' =>
      have hk : k ∈ K := by rw [hK]; exact List.mem_cons_self
      obtain ⟨x, hx⟩ := getElem_of (o.kge k hk).2
      have h1 := o.lvl k x hx ((o.all k x (Nat.zero_le _) hx).2 (.inr hk))
      have h2 := o.klv k hk
      rw [lvAt_eq hx] at h2
      omega
end
end Go.Proofs.YtoojmhjagipmdaaGreat
