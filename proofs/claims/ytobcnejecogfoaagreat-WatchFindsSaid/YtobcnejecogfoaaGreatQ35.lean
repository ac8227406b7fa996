/- Plain: decisions, and ways back. Sort at rows that are owned (some laws turned from a worked proof of the kit). Small laws of sorted numbers, fresh rows and lists of clauses. -/
import Derived.Test.YtobcnejecogfoaaGreatQ34
import Derived.Test.YtobcnejecogfoaaGreatQ08
import Derived.Test.YtobcnejecogfoaaGreatShelf
import Derived.Test.YtobcnejecogfoaaGreatQ24
namespace Go.Proofs.YtobcnejecogfoaaGreat
open Go.RowKit

section
variable {cs : List (List Int)} {T : Trl} {its : List RIt} {S : Wst}
theorem Has.two (h : Sim T its) {y : Int} (hy : litB y = true) (h1 : Has its y) (h2 : Has its (-y)) : False := by
  obtain ⟨p, x, hp, e⟩ := h1
  obtain ⟨q, z, hq, e2⟩ := h2
  have := h.inj hp hq (by rw [e, e2, litV_negate])
  subst this
  rw [hp] at hq
  obtain rfl := Option.some.inj hq
  have := (litB_iff y).1 hy
  omega
/-- a watched literal that is false: the other is true -/
theorem St.other (h : St (clsC cs) T its S) (hl : S.looked = its.length) {id : Int} {k : Kn} (hk : S.kn id = some k) {a : Int} (ha : a ∈ k.by_) (hf : Has its (-a)) : Has its (k.other a) := by
  obtain ⟨p, x, hp, e⟩ := hf
  have hpl := (List.getElem?_eq_some_iff.1 hp).1
  obtain ⟨q, y, hq, h1, _⟩ := h.inv.w id k a hk ha p x (by omega) hp e
  exact ⟨q, y, hq, h1⟩
theorem lits_one {c : List Int} (hl : (eachL c).length ≤ 1) {a b : Int} (ha : a ∈ c) (hb : b ∈ c) : a = b := by
  have ha' := eachL_mem.2 ha
  have hb' := eachL_mem.2 hb
  cases he : eachL c with
  | nil => rw [he] at ha'; cases ha'
  | cons x r =>
    rw [he] at hl ha' hb'
    have hr : r = [] := List.eq_nil_of_length_eq_zero (by simpa using hl)
    subst hr
    exact (List.mem_singleton.1 ha').trans (List.mem_singleton.1 hb').symm
theorem Run.known (h : Run cs T its S) {id : Int} {c : List Int} (hc : clsC cs id = some c) : ∃ k, S.kn id = some k ∧ k.lits = eachL c := by
  have hk := h.kn id
  rw [hc] at hk
  obtain ⟨k, hk⟩ := Option.isSome_iff_exists.1 hk
  obtain ⟨d, hd, hl⟩ := h.st.inv.kn id k hk
  rw [hc] at hd
  obtain rfl := Option.some.inj hd
  exact ⟨k, hk, hl⟩
/-- a clause all but one of whose literals are false has that one -/
theorem Run.closed (h : Run cs T its S) (h6 : Six cs) {id : Int} {c : List Int} (hc : clsC cs id = some c) {a : Int} (ha : a ∈ c) (ho : ∀ y ∈ c, y ≠ a → Has its (-y)) : Has its a := by
  have hcb := (h6.fit id c hc).2.2
  obtain ⟨k, hk, hkl⟩ := h.known hc
  obtain ⟨_, hby, _, hlb⟩ := h.st.inv.bnd.kn hk
  rcases hby with h0 | ⟨p, q, hpq, hb, hp, hq⟩
  · cases hal : alwL c with
    | true =>
      obtain ⟨y, hy, hny⟩ := alwL_two hal
      by_cases e1 : y = a
      · subst e1
        have hne : -y ≠ y := fun e => by
          have := (litB_iff y).1 (hcb y hy).1
          omega
        have := ho (-y) hny hne
        rwa [Int.neg_neg] at this
      · by_cases e2 : -y = a
        · have := ho y hy e1
          rwa [e2] at this
        · have h1 := ho y hy e1
          have h2 := ho (-y) hny e2
          rw [Int.neg_neg] at h2
          exact (Has.two h.st.sim (hcb y hy).1 h2 h1).elim
    | false =>
      rcases h.st.inv.two id k c hk hc h0 with h2 | h2
      · rw [hal] at h2; cases h2
      · rw [hkl] at h2
        obtain ⟨y, hy, hh⟩ := h.one id c trivial hc hal h2
        rw [lits_one h2 ha hy]
        exact hh.has
  · rw [hkl] at hp hq
    have hp' := eachL_mem.1 hp
    have hq' := eachL_mem.1 hq
    have hpm : p ∈ k.by_ := by rw [hb]; simp
    have hqm : q ∈ k.by_ := by rw [hb]; simp
    have op : k.other p = q := by unfold Kn.other; rw [hb]; simp
    have oq : k.other q = p := by unfold Kn.other; rw [hb]; simp [hpq]
    by_cases e1 : q = a
    · have hne : p ≠ a := fun e => hpq (e.trans e1.symm)
      have := h.st.other h.lk hk hpm (ho p hp' hne)
      rwa [op, e1] at this
    · have h1 := h.st.other h.lk hk hqm (ho q hq' e1)
      rw [oq] at h1
      by_cases e2 : p = a
      · rwa [e2] at h1
      · exact (Has.two h.st.sim (hcb p hp').1 h1 (ho p hp' e2)).elim
/-- no clause is unit, or fails -/
theorem Run.done (h : Run cs T its S) (h6 : Six cs) {f : Int → Int} (hff : ∀ y, litB y = true → ((0 < ofF f y ↔ Has its y) ∧ (ofF f y < 0 ↔ Has its (-y)))) : ∀ c ∈ cs, alwL c = true ∨ (lookF f c).1 = 1 ∨ (lookF f c).1 = 4 := fun c hm => by
  obtain ⟨n, hn⟩ := List.getElem?_of_mem hm
  have hc : clsC cs ((n : Int) + 1) = some c := by
    unfold clsC
    rw [if_pos (by omega), show ((n : Int) + 1 - 1).toNat = n by omega]
    exact hn
  have hcb := (h6.fit _ c hc).2.2
  cases hal : alwL c with
  | true => exact .inl rfl
  | false =>
    right
    by_cases hex : ∃ y ∈ c, 0 < ofF f y
    · left
      rw [show lookF f c = (1, 0) from k_hold hex _ _]
    · right
      have hno : ∀ y ∈ c, ¬ 0 < ofF f y := fun y hy h => hex ⟨y, hy, h⟩
      have hnh : ∀ y ∈ c, ¬ Has its y := fun y hy hh => hno y hy ((hff y (hcb y hy).1).1.2 hh)
      obtain ⟨k, hk, hkl⟩ := h.known hc
      obtain ⟨_, hby, _, _⟩ := h.st.inv.bnd.kn hk
      rcases hby with h0 | ⟨p, q, hpq, hb, hp, hq⟩
      · rcases h.st.inv.two _ k c hk hc h0 with h2 | h2
        · rw [hal] at h2; cases h2
        · rw [hkl] at h2
          obtain ⟨y, hy, hh⟩ := h.one _ c trivial hc hal h2
          exact absurd hh.has (hnh y hy)
      · rw [hkl] at hp hq
        have hp' := eachL_mem.1 hp
        have hq' := eachL_mem.1 hq
        have hpm : p ∈ k.by_ := by rw [hb]; simp
        have hqm : q ∈ k.by_ := by rw [hb]; simp
        have op : k.other p = q := by unfold Kn.other; rw [hb]; simp
        have oq : k.other q = p := by unfold Kn.other; rw [hb]; simp [hpq]
        have zp : ofF f p = 0 := by
          have : ¬ ofF f p < 0 := fun h2 => by
            have := h.st.other h.lk hk hpm ((hff p (hcb p hp').1).2.1 h2)
            rw [op] at this
            exact hnh q hq' this
          have := hno p hp'
          omega
        have zq : ofF f q = 0 := by
          have : ¬ ofF f q < 0 := fun h2 => by
            have := h.st.other h.lk hk hqm ((hff q (hcb q hq').1).2.1 h2)
            rw [oq] at this
            exact hnh p hp' this
          have := hno q hq'
          omega
        rw [k_open hpq hp' hq' zp zq hno (fun y hy => by
          have := (litB_iff y).1 (hcb y hy).1
          omega)]
/-- a decision -/
structure DecO (cs : List (List Int)) (T : Trl) (its : List RIt) (S : Wst) (l : Int) (R : Trl × Wst × Option Int) (its' : List RIt) : Prop where
  st : St (clsC cs) R.1 its' R.2.1
  pre : its <+: its'
  now : R.1.now = T.now + 1
  kn : ∀ j, (R.2.1.kn j).isSome = (clsC cs j).isSome
  one : One (clsC cs) (fun _ => True) its'
  has : Has its' l ∨ Has its' (-l)
  src : ∀ (p : Nat) (x : RIt), its'[p]? = some x → x.reason = 0 → Has its x.lit ∨ x.lit = l
  ok : R.2.2 = none → Run cs R.1 its' R.2.1
  bad : ∀ id, R.2.2 = some id → ∃ c, clsC cs id = some c ∧ ∀ y ∈ c, Has its' (-y)
/-- what has no reason -/
def PZ (B : Int → Prop) (T : Trl) : Prop := ∃ its, Sim T its ∧ ∀ x ∈ its, x.reason = 0 → B x.lit
theorem PZ.assigned {B : Int → Prop} (h : PZ B T) (l r : Int) (hr : r = 0 → B l) : PZ B (T.assigned l r) := by
  obtain ⟨its, h1, h2⟩ := h
  by_cases he : T.assignErr l r = 0
  · refine ⟨_, h1.snoc he, fun x hx h0 => ?_⟩
    rcases List.mem_append.1 hx with hx | hx
    · exact h2 x hx h0
    · rw [List.mem_singleton.1 hx] at h0 ⊢
      exact hr h0
  · have e : T.assigned l r = T := by unfold Trl.assigned; rw [if_neg he]
    rw [e]
    exact ⟨its, h1, h2⟩
theorem PZ.lookOne {B : Int → Prop} {A : Arn} (h : PZ B T) (l id : Int) (hid : id ≠ 0) : PZ B (lookOne A T S l id).1 := by
  unfold Proofs.YtobcnejecogfoaaGreat.lookOne
  split
  · exact h
  · split
    · exact h
    · split
      · exact h
      · split
        · exact h
        · split
          · exact h
          · exact h.assigned _ _ (fun e => absurd e hid)
theorem PZ.lookGo {B : Int → Prop} {A : Arn} (l : Int) (ids : List Int) : ∀ {T : Trl} {S : Wst}, (∀ id ∈ ids, id ≠ 0) → PZ B T → PZ B (lookGo A T S l ids).1 := by
  induction ids with
  | nil => exact fun _ h => h
  | cons id r ih =>
    intro T S hid h
    have h1 := h.lookOne (A := A) (S := S) l id (hid id List.mem_cons_self)
    rw [lookGo_cons]
    split
    · exact h1
    · exact ih (fun j hj => hid j (List.mem_cons_of_mem _ hj)) h1
theorem PZ.propGo {B : Int → Prop} {A : Arn} (n : Nat) : ∀ {T : Trl} {S : Wst}, S.Bnd → S.Link → (∃ its, Sim T its) → PZ B T → PZ B (propGo A n T S).1 := by
  induction n with
  | zero => exact fun _ _ _ h => h
  | succ n ih =>
    intro T S hb hL hs h
    unfold Proofs.YtobcnejecogfoaaGreat.propGo
    split
    · exact h
    · rename_i y hy
      have hr := hb.row (litN y)
      have hg := PZ.lookGo (A := A) (S := S) (litN y) (S.row (litN y)) (fun id hid => by have := (hr.2 id hid).1; omega) h
      have ha := lookGo_all A (T := T) (S.row (litN y)) hb hL hs (fun id hid => hid) (up_nodup hr.1)
      split
      · rename_i he
        rw [he] at hg
        exact hg
      · rename_i T' S' he
        rw [he] at hg ha
        obtain ⟨h1, h2, h3, _, _⟩ := ha
        exact ih (S := S'.step) ⟨h1.kr, h1.kb, h1.kl, h1.orr, h1.ob⟩ h2 h3 hg
theorem dec_step (h : Run cs T its S) (h6 : Six cs) {l : Int} (hl : litB l = true ∧ litV l < 7) : ∃ its', DecO cs T its S l (propW (addAll arn0 0 cs) (decT T l) S) its' := by
  have hp := h.st.push h.lk
  have key : ∃ i1, St (clsC cs) (decT T l) i1 S ∧ its <+: i1 ∧ (decT T l).now = T.now + 1 ∧ (Has i1 l ∨ Has i1 (-l)) ∧ ∀ x ∈ i1, x.reason = 0 → Has its x.lit ∨ x.lit = l := by
    have hold : ∀ x ∈ its, Has its x.lit := fun x hx => by
      obtain ⟨p, hp, e⟩ := List.getElem_of_mem hx
      exact ⟨p, x, by rw [List.getElem?_eq_getElem hp, e], rfl⟩
    unfold decT decA
    by_cases hz : T.push.val l = 0
    · rw [if_pos hz]
      have herr := free_err (T := T.push) h.st.vars hl.1 hl.2 hz (r := 0) ⟨by omega, by omega⟩
      refine ⟨_, hp.assign herr (fun h => absurd rfl h), ⟨_, rfl⟩, (assigned_now _ _ _).trans push_now, .inl ⟨its.length, ⟨l, 0, T.push.now⟩, by simp, rfl⟩, fun x hx _ => ?_⟩
      rcases List.mem_append.1 hx with hx | hx
      · exact .inl (hold x hx)
      · rw [List.mem_singleton.1 hx]
        exact .inr rfl
    · rw [if_neg hz]
      refine ⟨its, hp, List.prefix_refl _, push_now, ?_, fun x hx _ => .inl (hold x hx)⟩
      by_cases h1 : T.push.fal l = true
      · exact .inr ((hp.sim.fal_iff hl.1).1 h1)
      · by_cases h2 : T.push.tru l = true
        · exact .inl ((hp.sim.tru_iff hl.1).1 h2)
        · exact absurd (sim_val (Bool.not_eq_true _ ▸ h1) (Bool.not_eq_true _ ▸ h2)) hz
  obtain ⟨i1, hs1, hp1, hn1, hh1, hz1⟩ := key
  obtain ⟨its', h1, h2, h3, h4, h5⟩ := hs1.prop (A := addAll arn0 0 cs) h6.fit (h.st.find h6)
  have hpz := PZ.propGo (B := fun y => Has its y ∨ y = l) (A := addAll arn0 0 cs) ((decT T l).vars.length + 1) hs1.inv.bnd hs1.inv.link ⟨i1, hs1.sim⟩ ⟨i1, hs1.sim, hz1⟩
  have hkn : ∀ j, ((propW (addAll arn0 0 cs) (decT T l) S).2.1.kn j).isSome = (clsC cs j).isSome := fun j => (h4 j).trans (h.kn j)
  have hone := (h.one.pre hp1).pre h2
  refine ⟨its', h1, hp1.trans h2, h3.trans hn1, hkn, hone, hh1.imp (Has.pre h2) (Has.pre h2), fun p x hx h0 => ?_, fun hr => ?_, fun id hr => ?_⟩
  · obtain ⟨i2, a1, a2⟩ := hpz
    have : its' = i2 := h1.sim.uniq a1
    subst this
    exact a2 x (List.mem_of_getElem? hx) h0
  · rcases h5 with ⟨_, h5⟩ | ⟨id, c, h5, _⟩
    · exact ⟨h1, hkn, hone, h5⟩
    · rw [hr] at h5; cases h5
  · rcases h5 with ⟨h5, _⟩ | ⟨id', c, h5, hc, hf⟩
    · rw [hr] at h5; cases h5
    · rw [hr] at h5
      obtain rfl := Option.some.inj h5
      exact ⟨c, hc, hf⟩
/-- the watch behind Back -/
def backS (T : Trl) (S : Wst) (j : Int) : Wst := ⟨S.known, S.of, min S.looked (T.backed j).order.length⟩
/-- going back -/
theorem back_step (h : St (clsC cs) T its S) (hkn : ∀ j, (S.kn j).isSome = (clsC cs j).isSome) (hone : One (clsC cs) (fun _ => True) its) {j : Int} (h0 : 0 ≤ j) (hj : j < T.now ∨ j = T.now ∧ S.looked = its.length) :
    ∃ its', Run cs (T.backed j) its' (backS T S j) ∧ (T.backed j).now = j ∧ T.backErr j = 0 ∧ its' <+: its ∧ ∀ y, Has0 its y → Has0 its' y := by
  have hn := now_eq (T := T)
  have herr : T.backErr j = 0 := by
    unfold Trl.backErr
    rw [if_neg (by omega)]
  rcases hj with hj | ⟨hj, hl⟩
  · obtain ⟨k, rfl⟩ : ∃ k : Nat, j = k := ⟨j.toNat, by omega⟩
    have hlt : k + 1 < T.starts.length := by omega
    obtain ⟨s, hs⟩ := getElem_of hlt
    have e1 : T.starts.getD (k + 1) 0 = s := by rw [List.getD_eq_getElem?_getD, hs]; rfl
    have eb : T.backed (k : Int) = T.back k s.toNat := by
      unfold Trl.backed
      rw [if_pos (by omega), Int.toNat_natCast, e1]
    unfold backS
    rw [eb]
    obtain ⟨h1, h2, h3, h4⟩ := h.back hlt hs
    refine ⟨_, ⟨h1, hkn, fun id c _ hc ha hl => ?_, h2⟩, h4, herr, List.take_prefix _ _, h3⟩
    obtain ⟨y, hy, hh⟩ := hone id c trivial hc ha hl
    exact ⟨y, hy, h3 y hh⟩
  · have eb : T.backed j = T := by
      unfold Trl.backed
      rw [if_neg (by omega)]
    have hol : T.order.length = its.length := by rw [h.sim.order, List.length_map]
    have e2 : (⟨S.known, S.of, min S.looked T.order.length⟩ : Wst) = S := by
      rw [show min S.looked T.order.length = S.looked by omega]
    unfold backS
    rw [eb, e2]
    exact ⟨its, ⟨h, hkn, hone, hl⟩, hj.symm, herr, List.prefix_refl _, fun _ h => h⟩
/-- what follows of some literals follows again -/
theorem closed_sub {C2 : Int → Option (List Int)} {i2 : List RIt} (hr : Rsn C2 i2) {H : Int → Prop} (hcl : ∀ id c, C2 id = some c → ∀ a ∈ c, (∀ y ∈ c, y ≠ a → H (-y)) → H a) (h0 : ∀ (p : Nat) (x : RIt), i2[p]? = some x → x.reason = 0 → H x.lit) : ∀ y, Has i2 y → H y := by
  have key : ∀ n : Nat, ∀ (p : Nat) (x : RIt), p < n → i2[p]? = some x → H x.lit := by
    intro n
    induction n with
    | zero => exact fun p x h => by omega
    | succ n ih =>
      intro p x hp hx
      by_cases hz : x.reason = 0
      · exact h0 p x hx hz
      · obtain ⟨c, hc, hxc, ho⟩ := hr p x hx hz
        refine hcl _ c hc x.lit hxc (fun y hy hne => ?_)
        obtain ⟨q, z, hq, hz2, e⟩ := ho y hy hne
        rw [← e]
        exact ih q z (by omega) hz2
  rintro y ⟨p, x, hp, rfl⟩
  exact key (p + 1) p x (Nat.lt_succ_self p) hp
end
end Go.Proofs.YtobcnejecogfoaaGreat
namespace Go.Proofs.YtobcnejecogfoaaGreat
open Go.RowKit Go.Sort

/-- numbers in order -/
def sortI (xs : List Int) : List Int := xs.mergeSort fun x y => decide (x ≤ y)
theorem sortI_length (xs : List Int) : (sortI xs).length = xs.length := by simp [sortI]
theorem own_sort {base : Nat} (v : Value) (xs : List Int) (w : World) (h : w.ownsRow base 3 1 v xs.length (xs.map (Value.int .i64))) (hl : xs.length < 4611686018427387904) :
    Calls Tryz.prog 119 #[v] w fun e w' => e = .returned (.tuple #[]) ∧ w'.ownsRow base 3 1 v (sortI xs).length ((sortI xs).map (Value.int .i64)) ∧ Kept (fun g => v.ownBlock = some g) w w' := by
  rcases h.2 with ⟨rfl, h0⟩ | ⟨g, cap, cur, rfl, hb, hg, h1, h2, h3, h4⟩
  · obtain rfl : xs = [] := List.eq_nil_of_length_eq_zero h0
    refine (Tryz.slices_Sort_int_none none 0 w).mono ?_
    rintro e w' ⟨rfl, rfl⟩
    have hs : sortI [] = [] := by simp [sortI]
    rw [hs]
    exact ⟨rfl, h, Kept.refl _ _⟩
  · refine (Tryz.slices_Sort_int g 0 cap xs w (st_holds hg (by simpa using h4)) (heap_lt hg) hl).mono ?_
    rintro e w' ⟨rfl, n, os, rfl⟩
    refine ⟨rfl, ?_, st_kept _⟩
    rw [sortI_length]
    refine ⟨by simp [sortI], .inr ⟨g, cap, _, rfl, hb, st_heap _ hg, h1, h2, by simp [putCells, h3], ?_⟩⟩
    have e : xs.length * 1 = (sortI xs).length := by rw [sortI_length, Nat.mul_one]
    rw [e]
    exact st_take cur (sortI xs) (by rw [sortI_length]; omega)
end Go.Proofs.YtobcnejecogfoaaGreat
namespace Go.Proofs.YtobcnejecogfoaaGreat
open Go.RowKit

theorem sortI_eq {xs ys : List Int} (hp : xs.Perm ys) (hs : ys.Pairwise (· ≤ ·)) : sortI xs = ys := by
  refine List.Perm.eq_of_pairwise (le := fun a b => a ≤ b) (fun a b _ _ h1 h2 => by omega) ?_ hs ((List.mergeSort_perm _ _).trans hp)
  have := List.pairwise_mergeSort (le := fun x y : Int => decide (x ≤ y)) (fun a b c h1 h2 => by simp at *; omega) (fun a b => by simp; omega) xs
  exact this.imp (fun h => by simpa using h)
theorem mx_ints (W : World) (xs : List Int) (t : TypeId) : IntsIn (fun g => g = W.heap.size) (W.alloc (.cells (xs.map (Value.int .i64)).toArray t)) (.slice (some ⟨W.heap.size, 0, none⟩) xs.length xs.length) xs :=
  ⟨some ⟨W.heap.size, 0, none⟩, xs.length, rfl, Nat.le_refl _, (fun h => by cases h), fun i x hi => ⟨W.heap.size, 0, rfl, by simp, rfl, by
    rw [cell_new, Nat.zero_add]
    simp [hi]⟩⟩
theorem cls_new (W : World) (us : List Value) (cs : List (List Int)) (t : TypeId) (h : ∀ (i : Nat) (xs : List Int), cs[i]? = some xs → ∃ u, us[i]? = some u ∧ IntsIn (fun g => g < W.heap.size) W u xs) : ClsAt (W.alloc (.cells us.toArray t)) (.slice (some ⟨W.heap.size, 0, none⟩) cs.length cs.length) cs := by
  refine ⟨_, cs.length, rfl, fun i xs hi => ?_⟩
  obtain ⟨u, hu, hx⟩ := h i xs hi
  have hb := mx_al W (.cells us.toArray t)
  refine ⟨W.heap.size, 0, u, rfl, by simp, ?_, (hx.below hb).mono (fun g hg => by simp; omega)⟩
  rw [cell_new, Nat.zero_add]
  simpa using hu
theorem sortI_sorted (xs : List Int) : (sortI xs).Pairwise (· ≤ ·) := by
  have := List.pairwise_mergeSort (le := fun x y : Int => decide (x ≤ y)) (fun a b c h1 h2 => by simp at *; omega) (fun a b => by simp; omega) xs
  exact this.imp (fun h => by simpa using h)
theorem sortI_mem (xs : List Int) (x : Int) : x ∈ sortI xs ↔ x ∈ xs := (List.mergeSort_perm xs _).mem_iff
end Go.Proofs.YtobcnejecogfoaaGreat
