/- Plain: decisions, and ways back. Sort at rows that are owned (some laws turned from a worked proof of the kit). Small laws of sorted numbers, fresh rows and lists of clauses. package salvorlaw13: awake. -/
import Derived.Test.YtobcnejecogfoaaGreatQ34
import Derived.Test.YtobcnejecogfoaaGreatQ08
import Derived.Test.YtobcnejecogfoaaGreatShelf
import Derived.Test.YtobcnejecogfoaaGreatQ24
import Derived.Test.YtobcnejecogfoaaGreatQ33
namespace Go.Proofs.YtobcnejecogfoaaGreat
open Go.RowKit

section
variable {cs : List (List Int)} {T : Trl} {its : List RIt} {S : Wst}
theorem Has.two (h : Sim T its) {y : Int} (hy : litB y = true) (h1 : Has its y) (h2 : Has its (-y)) : False := by
  obtain ⟨p, x, hp, e⟩ := h1
  obtain ⟨q, z, hq, e2⟩ := h2
  have := h.inj hp hq (by rw [e, e2, litV_negate])
  subst this
  rw [hp] at hq
  obtain rfl := Option.some.inj hq
  have := (litB_iff y).1 hy
  omega
/-- a watched literal that is false: the other is true -/
theorem St.other (h : St (clsC cs) T its S) (hl : S.looked = its.length) {id : Int} {k : Kn} (hk : S.kn id = some k) {a : Int} (ha : a ∈ k.by_) (hf : Has its (-a)) : Has its (k.other a) := by
  obtain ⟨p, x, hp, e⟩ := hf
  have hpl := (List.getElem?_eq_some_iff.1 hp).1
  obtain ⟨q, y, hq, h1, _⟩ := h.inv.w id k a hk ha p x (by omega) hp e
  exact ⟨q, y, hq, h1⟩
theorem lits_one {c : List Int} (hl : (eachL c).length ≤ 1) {a b : Int} (ha : a ∈ c) (hb : b ∈ c) : a = b := by
  have ha' := eachL_mem.2 ha
  have hb' := eachL_mem.2 hb
  cases he : eachL c with
  | nil => rw [he] at ha'; cases ha'
  | cons x r =>
    rw [he] at hl ha' hb'
    have hr : r = [] := List.eq_nil_of_length_eq_zero (by simpa using hl)
    subst hr
    exact (List.mem_singleton.1 ha').trans (List.mem_singleton.1 hb').symm
theorem Run.known (h : Run cs T its S) {id : Int} {c : List Int} (hc : clsC cs id = some c) : ∃ k, S.kn id = some k ∧ k.lits = eachL c := by
  have hk := h.kn id
  rw [hc] at hk
  obtain ⟨k, hk⟩ := Option.isSome_iff_exists.1 hk
  obtain ⟨d, hd, hl⟩ := h.st.inv.kn id k hk
  rw [hc] at hd
  obtain rfl := Option.some.inj hd
  exact ⟨k, hk, hl⟩
/-- a clause all but one of whose literals are false has that one -/
theorem Run.closed (h : Run cs T its S) (h6 : Six cs) {id : Int} {c : List Int} (hc : clsC cs id = some c) {a : Int} (ha : a ∈ c) (ho : ∀ y ∈ c, y ≠ a → Has its (-y)) : Has its a := by
  have hcb := (h6.fit id c hc).2.2
  obtain ⟨k, hk, hkl⟩ := h.known hc
  obtain ⟨_, hby, _, hlb⟩ := h.st.inv.bnd.kn hk
  rcases hby with h0 | ⟨p, q, hpq, hb, hp, hq⟩
  · cases hal : alwL c with
    | true =>
      obtain ⟨y, hy, hny⟩ := alwL_two hal
      by_cases e1 : y = a
      · subst e1
        have hne : -y ≠ y := fun e => by
          have := (litB_iff y).1 (hcb y hy).1
          omega
        have := ho (-y) hny hne
        rwa [Int.neg_neg] at this
      · by_cases e2 : -y = a
        · have := ho y hy e1
          rwa [e2] at this
        · have h1 := ho y hy e1
          have h2 := ho (-y) hny e2
          rw [Int.neg_neg] at h2
          exact (Has.two h.st.sim (hcb y hy).1 h2 h1).elim
    | false =>
      rcases h.st.inv.two id k c hk hc h0 with h2 | h2
      · rw [hal] at h2; cases h2
      · rw [hkl] at h2
        obtain ⟨y, hy, hh⟩ := h.one id c trivial hc hal h2
        rw [lits_one h2 ha hy]
        exact hh.has
  · rw [hkl] at hp hq
    have hp' := eachL_mem.1 hp
    have hq' := eachL_mem.1 hq
    have hpm : p ∈ k.by_ := by rw [hb]; simp
    have hqm : q ∈ k.by_ := by rw [hb]; simp
    have op : k.other p = q := by unfold Kn.other; rw [hb]; simp
    have oq : k.other q = p := by unfold Kn.other; rw [hb]; simp [hpq]
    by_cases e1 : q = a
    · have hne : p ≠ a := fun e => hpq (e.trans e1.symm)
      have := h.st.other h.lk hk hpm (ho p hp' hne)
      rwa [op, e1] at this
    · have h1 := h.st.other h.lk hk hqm (ho q hq' e1)
      rw [oq] at h1
      by_cases e2 : p = a
      · rwa [e2] at h1
      · exact (Has.two h.st.sim (hcb p hp').1 h1 (ho p hp' e2)).elim
/-- no clause is unit, or fails -/
theorem Run.done (h : Run cs T its S) (h6 : Six cs) {f : Int → Int} (hff : ∀ y, litB y = true → ((0 < ofF f y ↔ Has its y) ∧ (ofF f y < 0 ↔ Has its (-y)))) : ∀ c ∈ cs, alwL c = true ∨ (lookF f c).1 = 1 ∨ (lookF f c).1 = 4 := fun c hm => by
  obtain ⟨n, hn⟩ := List.getElem?_of_mem hm
  have hc : clsC cs ((n : Int) + 1) = some c := by
    unfold clsC
    rw [if_pos (by omega), show ((n : Int) + 1 - 1).toNat = n by omega]
    exact hn
  have hcb := (h6.fit _ c hc).2.2
  cases hal : alwL c with
  | true => exact .inl rfl
  | false =>
    right
    by_cases hex : ∃ y ∈ c, 0 < ofF f y
    · left
      rw [show lookF f c = (1, 0) from k_hold hex _ _]
    · right
      have hno : ∀ y ∈ c, ¬ 0 < ofF f y := fun y hy h => hex ⟨y, hy, h⟩
      have hnh : ∀ y ∈ c, ¬ Has its y := fun y hy hh => hno y hy ((hff y (hcb y hy).1).1.2 hh)
      obtain ⟨k, hk, hkl⟩ := h.known hc
      obtain ⟨_, hby, _, _⟩ := h.st.inv.bnd.kn hk
      rcases hby with h0 | ⟨p, q, hpq, hb, hp, hq⟩
      · rcases h.st.inv.two _ k c hk hc h0 with h2 | h2
        · rw [hal] at h2; cases h2
        · rw [hkl] at h2
          obtain ⟨y, hy, hh⟩ := h.one _ c trivial hc hal h2
          exact absurd hh.has (hnh y hy)
      · rw [hkl] at hp hq
        have hp' := eachL_mem.1 hp
        have hq' := eachL_mem.1 hq
        have hpm : p ∈ k.by_ := by rw [hb]; simp
        have hqm : q ∈ k.by_ := by rw [hb]; simp
        have op : k.other p = q := by unfold Kn.other; rw [hb]; simp
        have oq : k.other q = p := by unfold Kn.other; rw [hb]; simp [hpq]
        have zp : ofF f p = 0 := by
          have : ¬ ofF f p < 0 := fun h2 => by
            have := h.st.other h.lk hk hpm ((hff p (hcb p hp').1).2.1 h2)
            rw [op] at this
            exact hnh q hq' this
          have := hno p hp'
          omega
        have zq : ofF f q = 0 := by
          have : ¬ ofF f q < 0 := fun h2 => by
            have := h.st.other h.lk hk hqm ((hff q (hcb q hq').1).2.1 h2)
            rw [oq] at this
            exact hnh p hp' this
          have := hno q hq'
          omega
        rw [k_open hpq hp' hq' zp zq hno (fun y hy => by
          have := (litB_iff y).1 (hcb y hy).1
          omega)]
/-- a decision -/
structure DecO (cs : List (List Int)) (T : Trl) (its : List RIt) (S : Wst) (l : Int) (R : Trl × Wst × Option Int) (its' : List RIt) : Prop where
  st : St (clsC cs) R.1 its' R.2.1
  pre : its <+: its'
  now : R.1.now = T.now + 1
  kn : ∀ j, (R.2.1.kn j).isSome = (clsC cs j).isSome
  one : One (clsC cs) (fun _ => True) its'
  has : Has its' l ∨ Has its (-l)
  src : ∀ (p : Nat) (x : RIt), its'[p]? = some x → x.reason = 0 → Has its x.lit ∨ x.lit = l
  ok : R.2.2 = none → Run cs R.1 its' R.2.1
  bad : ∀ id, R.2.2 = some id → ∃ c, clsC cs id = some c ∧ ∀ y ∈ c, Has its' (-y)
theorem dec_step (h : Run cs T its S) (h6 : Six cs) {l : Int} (hl : litB l = true ∧ litV l < 7) : ∃ its', DecO cs T its S l (propW (addAll arn0 0 cs) (decT T l) S) its' := by
  have hp := h.st.push h.lk
  have key : ∃ i1, St (clsC cs) (decT T l) i1 S ∧ its <+: i1 ∧ (decT T l).now = T.now + 1 ∧ (Has i1 l ∨ Has its (-l)) ∧ ∀ x ∈ i1, x.reason = 0 → Has its x.lit ∨ x.lit = l := by
    have hold : ∀ x ∈ its, Has its x.lit := fun x hx => by
      obtain ⟨p, hp, e⟩ := List.getElem_of_mem hx
      exact ⟨p, x, by rw [List.getElem?_eq_getElem hp, e], rfl⟩
    unfold decT decA
    by_cases hz : T.push.val l = 0
    · rw [if_pos hz]
      have herr := free_err (T := T.push) h.st.vars hl.1 hl.2 hz (r := 0) ⟨by omega, by omega⟩
      refine ⟨_, hp.assign herr (fun h => absurd rfl h), ⟨_, rfl⟩, (assigned_now _ _ _).trans push_now, .inl ⟨its.length, ⟨l, 0, T.push.now⟩, by simp, rfl⟩, fun x hx _ => ?_⟩
      rcases List.mem_append.1 hx with hx | hx
      · exact .inl (hold x hx)
      · rw [List.mem_singleton.1 hx]
        exact .inr rfl
    · rw [if_neg hz]
      refine ⟨its, hp, List.prefix_refl _, push_now, ?_, fun x hx _ => .inl (hold x hx)⟩
      by_cases h1 : T.push.fal l = true
      · exact .inr ((hp.sim.fal_iff hl.1).1 h1)
      · by_cases h2 : T.push.tru l = true
        · exact .inl ((hp.sim.tru_iff hl.1).1 h2)
        · exact absurd (sim_val (Bool.not_eq_true _ ▸ h1) (Bool.not_eq_true _ ▸ h2)) hz
  obtain ⟨i1, hs1, hp1, hn1, hh1, hz1⟩ := key
  obtain ⟨its', h1, h2, h3, h4, h5⟩ := hs1.prop (A := addAll arn0 0 cs) h6.fit (h.st.find h6)
  have hpz := PZ.propGo (B := fun y => Has its y ∨ y = l) (A := addAll arn0 0 cs) ((decT T l).vars.length + 1) hs1.inv.bnd hs1.inv.link ⟨i1, hs1.sim⟩ ⟨i1, hs1.sim, hz1⟩
  have hkn : ∀ j, ((propW (addAll arn0 0 cs) (decT T l) S).2.1.kn j).isSome = (clsC cs j).isSome := fun j => (h4 j).trans (h.kn j)
  have hone := (h.one.pre hp1).pre h2
  refine ⟨its', h1, hp1.trans h2, h3.trans hn1, hkn, hone, hh1.imp_left (Has.pre h2), fun p x hx h0 => ?_, fun hr => ?_, fun id hr => ?_⟩
  · obtain ⟨i2, a1, a2⟩ := hpz
    have : its' = i2 := h1.sim.uniq a1
    subst this
    exact a2 x (List.mem_of_getElem? hx) h0
  · rcases h5 with ⟨_, h5⟩ | ⟨id, c, h5, _⟩
    · exact ⟨h1, hkn, hone, h5⟩
    · rw [hr] at h5; cases h5
  · rcases h5 with ⟨h5, _⟩ | ⟨id', c, h5, hc, hf⟩
    · rw [hr] at h5; cases h5
    · rw [hr] at h5
      obtain rfl := Option.some.inj h5
      exact ⟨c, hc, hf⟩
/-- the watch behind Back -/
def backS (T : Trl) (S : Wst) (j : Int) : Wst := ⟨S.known, S.of, min S.looked (T.backed j).order.length⟩
/-- going back -/
theorem back_step (h : St (clsC cs) T its S) (hkn : ∀ j, (S.kn j).isSome = (clsC cs j).isSome) (hone : One (clsC cs) (fun _ => True) its) {j : Int} (h0 : 0 ≤ j) (hj : j < T.now ∨ j = T.now ∧ S.looked = its.length) :
    ∃ its', Run cs (T.backed j) its' (backS T S j) ∧ (T.backed j).now = j ∧ T.backErr j = 0 ∧ its' <+: its ∧ ∀ y, Has0 its y → Has0 its' y := by
  have hn := now_eq (T := T)
  have herr : T.backErr j = 0 := by
    unfold Trl.backErr
    rw [if_neg (by omega)]
  rcases hj with hj | ⟨hj, hl⟩
  · obtain ⟨k, rfl⟩ : ∃ k : Nat, j = k := ⟨j.toNat, by omega⟩
    have hlt : k + 1 < T.starts.length := by omega
    obtain ⟨s, hs⟩ := getElem_of hlt
    have e1 : T.starts.getD (k + 1) 0 = s := by rw [List.getD_eq_getElem?_getD, hs]; rfl
    have eb : T.backed (k : Int) = T.back k s.toNat := by
      unfold Trl.backed
      rw [if_pos (by omega), Int.toNat_natCast, e1]
    unfold backS
    rw [eb]
    obtain ⟨h1, h2, h3, h4⟩ := h.back hlt hs
    refine ⟨_, ⟨h1, hkn, fun id c _ hc ha hl => ?_, h2⟩, h4, herr, List.take_prefix _ _, h3⟩
    obtain ⟨y, hy, hh⟩ := hone id c trivial hc ha hl
    exact ⟨y, hy, h3 y hh⟩
  · have eb : T.backed j = T := by
      unfold Trl.backed
      rw [if_neg (by omega)]
    have hol : T.order.length = its.length := by rw [h.sim.order, List.length_map]
    have e2 : (⟨S.known, S.of, min S.looked T.order.length⟩ : Wst) = S := by
      rw [show min S.looked T.order.length = S.looked by omega]
    unfold backS
    rw [eb, e2]
    exact ⟨its, ⟨h, hkn, hone, hl⟩, hj.symm, herr, List.prefix_refl _, fun _ h => h⟩
/-- what follows of some literals follows again -/
theorem closed_sub {C2 : Int → Option (List Int)} {i2 : List RIt} (hr : Rsn C2 i2) {H : Int → Prop} (hcl : ∀ id c, C2 id = some c → ∀ a ∈ c, (∀ y ∈ c, y ≠ a → H (-y)) → H a) (h0 : ∀ (p : Nat) (x : RIt), i2[p]? = some x → x.reason = 0 → H x.lit) : ∀ y, Has i2 y → H y := by
  have key : ∀ n : Nat, ∀ (p : Nat) (x : RIt), p < n → i2[p]? = some x → H x.lit := by
    intro n
    induction n with
    | zero => exact fun p x h => by omega
    | succ n ih =>
      intro p x hp hx
      by_cases hz : x.reason = 0
      · exact h0 p x hx hz
      · obtain ⟨c, hc, hxc, ho⟩ := hr p x hx hz
        refine hcl _ c hc x.lit hxc (fun y hy hne => ?_)
        obtain ⟨q, z, hq, hz2, e⟩ := ho y hy hne
        rw [← e]
        exact ih q z (by omega) hz2
  rintro y ⟨p, x, hp, rfl⟩
  exact key (p + 1) p x (Nat.lt_succ_self p) hp
end
end Go.Proofs.YtobcnejecogfoaaGreat
namespace Go.Proofs.YtobcnejecogfoaaGreat
open Go.RowKit Go.Sort

/-- numbers in order -/
def sortI (xs : List Int) : List Int := xs.mergeSort fun x y => decide (x ≤ y)
theorem sortI_length (xs : List Int) : (sortI xs).length = xs.length := by simp [sortI]
theorem own_sort {base : Nat} (v : Value) (xs : List Int) (w : World) (h : w.ownsRow base 3 1 v xs.length (xs.map (Value.int .i64))) (hl : xs.length < 4611686018427387904) :
    Calls Tryz.prog 119 #[v] w fun e w' => e = .returned (.tuple #[]) ∧ w'.ownsRow base 3 1 v (sortI xs).length ((sortI xs).map (Value.int .i64)) ∧ Kept (fun g => v.ownBlock = some g) w w' := by
  rcases h.2 with ⟨rfl, h0⟩ | ⟨g, cap, cur, rfl, hb, hg, h1, h2, h3, h4⟩
  · obtain rfl : xs = [] := List.eq_nil_of_length_eq_zero h0
    refine (Tryz.slices_Sort_int_none none 0 w).mono ?_
    rintro e w' ⟨rfl, rfl⟩
    have hs : sortI [] = [] := by simp [sortI]
    rw [hs]
    exact ⟨rfl, h, Kept.refl _ _⟩
  · refine (Tryz.slices_Sort_int g 0 cap xs w (st_holds hg (by simpa using h4)) (heap_lt hg) hl).mono ?_
    rintro e w' ⟨rfl, n, os, rfl⟩
    refine ⟨rfl, ?_, st_kept _⟩
    rw [sortI_length]
    refine ⟨by simp [sortI], .inr ⟨g, cap, _, rfl, hb, st_heap _ hg, h1, h2, by simp [putCells, h3], ?_⟩⟩
    have e : xs.length * 1 = (sortI xs).length := by rw [sortI_length, Nat.mul_one]
    rw [e]
    exact st_take cur (sortI xs) (by rw [sortI_length]; omega)
end Go.Proofs.YtobcnejecogfoaaGreat
namespace Go.Proofs.YtobcnejecogfoaaGreat
open Go.RowKit

theorem sortI_eq {xs ys : List Int} (hp : xs.Perm ys) (hs : ys.Pairwise (· ≤ ·)) : sortI xs = ys := by
  refine List.Perm.eq_of_pairwise (le := fun a b => a ≤ b) (fun a b _ _ h1 h2 => by omega) ?_ hs ((List.mergeSort_perm _ _).trans hp)
  have := List.pairwise_mergeSort (le := fun x y : Int => decide (x ≤ y)) (fun a b c h1 h2 => by simp at *; omega) (fun a b => by simp; omega) xs
  exact this.imp (fun h => by simpa using h)
theorem mx_ints (W : World) (xs : List Int) (t : TypeId) : IntsIn (fun g => g = W.heap.size) (W.alloc (.cells (xs.map (Value.int .i64)).toArray t)) (.slice (some ⟨W.heap.size, 0, none⟩) xs.length xs.length) xs :=
  ⟨some ⟨W.heap.size, 0, none⟩, xs.length, rfl, Nat.le_refl _, (fun h => by cases h), fun i x hi => ⟨W.heap.size, 0, rfl, by simp, rfl, by
    rw [cell_new, Nat.zero_add]
    simp [hi]⟩⟩
theorem cls_new (W : World) (us : List Value) (cs : List (List Int)) (t : TypeId) (h : ∀ (i : Nat) (xs : List Int), cs[i]? = some xs → ∃ u, us[i]? = some u ∧ IntsIn (fun g => g < W.heap.size) W u xs) : ClsAt (W.alloc (.cells us.toArray t)) (.slice (some ⟨W.heap.size, 0, none⟩) cs.length cs.length) cs := by
  refine ⟨_, cs.length, rfl, fun i xs hi => ?_⟩
  obtain ⟨u, hu, hx⟩ := h i xs hi
  have hb := mx_al W (.cells us.toArray t)
  refine ⟨W.heap.size, 0, u, rfl, by simp, ?_, (hx.below hb).mono (fun g hg => by simp; omega)⟩
  rw [cell_new, Nat.zero_add]
  simpa using hu
theorem sortI_sorted (xs : List Int) : (sortI xs).Pairwise (· ≤ ·) := by
  have := List.pairwise_mergeSort (le := fun x y : Int => decide (x ≤ y)) (fun a b c h1 h2 => by simp at *; omega) (fun a b => by simp; omega) xs
  exact this.imp (fun h => by simpa using h)
theorem sortI_mem (xs : List Int) (x : Int) : x ∈ sortI xs ↔ x ∈ xs := (List.mergeSort_perm xs _).mem_iff
end Go.Proofs.YtobcnejecogfoaaGreat
namespace Go.Proofs.YtobcnejecogfoaaGreat
open Go.RowKit

theorem info_u8 : (Tryz.prog.info? 5).map (fun i => (i.zero, i.size, i.bytes)) = some (some (.int .u8 0), 1, 1) := by kernel_rfl
theorem Lw.lt0 {w0 w : World} {lab : Nat → Nat} {b ab tb : Nat} {A : Arn} {T : Trl} {S : Wst} (h : Lw w0 w lab b ab tb A T S) {g : Nat} (hg : w.heap.size ≤ g) : lab g = 0 := Classical.byContradiction fun e => by
  have := h.sys.lt g e
  omega
/-- a fresh row -/
theorem Lw.ints {w0 w w' : World} {lab : Nat → Nat} {b ab tb : Nat} {A : Arn} {T : Trl} {S : Wst} (h : Lw w0 w lab b ab tb A T S) {e : TypeId} {v : Value} {xs : List Int} (hr : w'.ownsRow w.heap.size e 1 v xs.length (xs.map (Value.int .i64))) : IntsIn (Fr w' lab) w' v xs := own_fr h.sys.lt hr
theorem Lw.al {w0 w : World} {lab : Nat → Nat} {b ab tb : Nat} {A : Arn} {T : Trl} {S : Wst} (h : Lw w0 w lab b ab tb A T S) (o : Obj) : Lw w0 (w.alloc o) lab b ab tb A T S := h.below (mx_al _ _)
theorem Lw.dr {w0 w : World} {lab : Nat → Nat} {b ab tb : Nat} {A : Arn} {T : Trl} {S : Wst} (h : Lw w0 w lab b ab tb A T S) (n : Nat) : Lw w0 (w.drewN n) lab b ab tb A T S := h.below (mx_drewN _ _)
theorem k_in {w : World} {n : Nat} {xs : List Int} {t : TypeId} {W : World} (hs : W.heap.size = n) (hb : Below (n + 1) (W.alloc (.cells (xs.map (Value.int .i64)).toArray t)) w) : IntsIn (fun g => g < w.heap.size) w (.slice (some ⟨n, 0, none⟩) xs.length xs.length) xs := by
  subst hs
  have hb' : Below (W.alloc (.cells (xs.map (Value.int .i64)).toArray t)).heap.size (W.alloc (.cells (xs.map (Value.int .i64)).toArray t)) w := by simpa using hb
  refine ((mx_ints W xs t).below hb').mono (fun g hg => ?_)
  have := hb.size
  simp at this
  omega
set_option maxRecDepth 100000 in
theorem x13_cls (w : World) : ∃ W6, ((((w.alloc (.cells #[.int .i64 1, .int .i64 2, .int .i64 3] 39)).alloc (.cells #[.int .i64 (-1), .int .i64 4] 39)).alloc (.cells #[.int .i64 (-4), .int .i64 (-2), .int .i64 (-2)] 39)).alloc (.cells #[.int .i64 5] 39)).alloc (.cells #[.slice (some ⟨w.heap.size, 0, none⟩) 3 3, .slice (some ⟨w.heap.size + 1, 0, none⟩) 2 2, .slice (some ⟨w.heap.size + 1 + 1, 0, none⟩) 3 3, .slice (some ⟨w.heap.size + 1 + 1 + 1, 0, none⟩) 1 1] 41) = W6 ∧ Below w.heap.size w W6 ∧ ClsAt W6 (.slice (some ⟨w.heap.size + 1 + 1 + 1 + 1, 0, none⟩) 4 4) x13L := by
  refine ⟨_, rfl, (((((mx_al _ _).alloc (by simp) _).alloc (by simp; omega) _).alloc (by simp; omega) _).alloc (by simp; omega) _), ?_⟩
  have key := cls_new ((((w.alloc (.cells #[.int .i64 1, .int .i64 2, .int .i64 3] 39)).alloc (.cells #[.int .i64 (-1), .int .i64 4] 39)).alloc (.cells #[.int .i64 (-4), .int .i64 (-2), .int .i64 (-2)] 39)).alloc (.cells #[.int .i64 5] 39)) [.slice (some ⟨w.heap.size, 0, none⟩) 3 3, .slice (some ⟨w.heap.size + 1, 0, none⟩) 2 2, .slice (some ⟨w.heap.size + 1 + 1, 0, none⟩) 3 3, .slice (some ⟨w.heap.size + 1 + 1 + 1, 0, none⟩) 1 1] x13L 41 (fun i xs hi => by
    match i, hi with
    | 0, hi =>
      obtain rfl := Option.some.inj hi
      exact ⟨_, rfl, k_in (xs := [1, 2, 3]) (W := w) rfl ((((mx_al _ _).mono (by simp)).alloc (by simp) _).alloc (by simp) _)⟩
    | 1, hi =>
      obtain rfl := Option.some.inj hi
      exact ⟨_, rfl, k_in (xs := [-1, 4]) (W := (w.alloc (.cells #[.int .i64 1, .int .i64 2, .int .i64 3] 39))) (by simp) (((mx_al _ _).mono (by simp)).alloc (by simp) _)⟩
    | 2, hi =>
      obtain rfl := Option.some.inj hi
      exact ⟨_, rfl, k_in (xs := [-4, -2, -2]) (W := ((w.alloc (.cells #[.int .i64 1, .int .i64 2, .int .i64 3] 39)).alloc (.cells #[.int .i64 (-1), .int .i64 4] 39))) (by simp) ((mx_al _ _).mono (by simp))⟩
    | 3, hi =>
      obtain rfl := Option.some.inj hi
      exact ⟨_, rfl, k_in (xs := [5]) (W := (((w.alloc (.cells #[.int .i64 1, .int .i64 2, .int .i64 3] 39)).alloc (.cells #[.int .i64 (-1), .int .i64 4] 39)).alloc (.cells #[.int .i64 (-4), .int .i64 (-2), .int .i64 (-2)] 39))) (by simp) (Below.refl _ _)⟩
    | n + 4, hi => exact absurd hi (by simp [x13L]))
  simpa [x13L] using key
set_option maxRecDepth 100000 in
set_option maxHeartbeats 8000000 in
theorem awake13 (w : World) : Calls Tryz.prog 11 #[] w fun e w' => e = .returned (.bool true) ∧ Below w.heap.size w w' := by
  obtain ⟨W6, hW6, hb6, hc6⟩ := x13_cls w
  have HW6 := Lib.hid hW6
  have HB6 := Lib.hid hb6
  have HST := Lib.hid (store_any 5 _ x13L W6 (by decide) hc6 (by decide) (by decide))
  clear hW6 hb6 hc6
  go_enter Tryz.func11, Tryz.ntmps11
  go_wp2_with fail
  rw [HW6.out]
  refine HST.out.mono ?_
  rintro e w1 ⟨a, t, rfl, hp, hb1⟩
  rw [show addAll arn0 0 x13L = x13A from rfl, show trl0 5 = x13T0 from rfl] at hp
  have HNW := Lib.hid (wa_new_at (hp.below (Below.refl _ _)))
  have HB1 := Lib.hid (HB6.out.trans (hb1.mono HB6.out.size))
  have hzz := HB6.out.size
  clear hp hb1 HST HW6
  go_wp2_with fail
  refine HNW.out.mono ?_
  rintro e w2 ⟨b, lab, rfl, hs2, hge, hb2⟩
  have hl2 : Lw w w2 lab b a t x13A x13T0 x13S0 := ⟨hs2, fun g hg => Nat.le_trans hzz (hge g hg), HB1.out.trans (hb2.mono HB1.out.size)⟩
  obtain ⟨WK, hWK⟩ : ∃ x, w2.alloc (.cells #[.int .u8 1, .int .u8 1, .int .u8 1, .int .u8 2] 5) = x := ⟨_, rfl⟩
  have hlk : Lw w WK lab b a t x13A x13T0 x13S0 := by rw [← hWK]; exact hl2.al _
  have hbk : WK.heap[w2.heap.size]? = some (.cells #[.int .u8 1, .int .u8 1, .int .u8 1, .int .u8 2] 5 (0, 0)) := by rw [← hWK]; exact World.alloc_heap_new _ _
  have hlb := hl2.lt0 (Nat.le_refl _)
  have HWK := Lib.hid hWK
  have HLK := Lib.hid hlk
  have HBK := Lib.hid (And.intro hbk hlb)
  clear hs2 hge hb2 hl2 hWK hlk hbk hlb HNW HB1 HB6 hzz
  go_wp2_with fail
  rw [HWK.out]
  obtain ⟨gk, hgk⟩ : ∃ g, w2.heap.size = g := ⟨_, rfl⟩
  rw [hgk] at HBK ⊢
  clear hgk HWK
  go_loopw [47] (fun i wr => ∃ (k : Nat) (labr : Nat → Nat), k ≤ 4 ∧ i = .int .i64 k ∧ Hid (Lw w wr labr b a t x13A (x13R k).1 (x13R k).2) ∧ Hid (wr.heap[gk]? = some (.cells #[.int .u8 1, .int .u8 1, .int .u8 1, .int .u8 2] 5 (0, 0)) ∧ labr gk = 0)) (fun i _ => 4 - (intOf i).toNat)
  case atStart => exact ⟨0, lab, by omega, rfl, HLK, HBK⟩
  case round =>
    obtain ⟨k, labr, hk, rfl, HL, HG⟩ := hrel
    by_cases hlt : k < 4
    · have hcell : wr.cell? ⟨gk, k, none⟩ = some (.int .u8 (x13K k : Nat)) := by
        rw [mx_cell HG.out.1]
        match k, hlt with
        | 0, _ => rfl
        | 1, _ => rfl
        | 2, _ => rfl
        | 3, _ => rfl
        | n + 4, h => exact absurd h (by omega)
      have hgl := heap_lt HG.out.1
      have hidk : ((k : Int) + 1) = ((k + 1 : Nat) : Int) := by omega
      have hAD := lw_add HL.out ((k : Int) + 1) (wf64 (by omega) (by omega)) (fun c hc => ⟨(x13_get k hlt c hc).1, (x13_get k hlt c hc).2, by omega, by omega⟩) (x13_or k hk) (x13_sr k hk)
      rw [x13_r k hlt] at hAD
      obtain ⟨K, hK⟩ : ∃ z : Int, ((x13K k : Nat) : Int) = z := ⟨_, rfl⟩
      simp only [hK] at hAD hcell
      have hKK : (K != K) = false := by simp
      have hwk : IntKind.i64.wrap ((k : Int) + 1) = (k : Int) + 1 := IntWalk.i64_in _ (by omega)
      have HAD := Lib.hid hAD
      clear hAD hK hidk
      go_wp2_with fail
      refine HAD.out.mono ?_
      rintro e w3 ⟨rfl, lab3, hl3, hk3⟩
      have HL3 := Lib.hid hl3
      have HG3 := Lib.hid (And.intro ((hk3.kept.block gk hgl (fun e => e HG.out.2)).trans HG.out.1) ((hk3.same gk hgl).trans HG.out.2))
      clear hl3 hk3 hcell hgl HAD
      go_wp2_with fail
      go_roundw
      case rel => exact ⟨k + 1, lab3, by omega, by go_num, HL3, HG3⟩
      case measure => simp [intOf]; omega
    · obtain rfl : k = 4 := by omega
      have hl := HL.out
      rw [show (x13R 4).1 = x13T4 from rfl, show (x13R 4).2 = x13S4 from rfl] at hl
      have HBY1 := Lib.hid (wa_by b a t x13A x13T4 x13S4 1 _ wr labr hl.sys (by decide) x13_k1)
      have HL4 := Lib.hid hl
      clear hl HG HL hlt
      go_wp2_with fail
      refine HBY1.out.mono ?_
      rintro e w5 ⟨v1, rfl, hr1, hb5⟩
      rw [show ([1, 2, 3] : List Int).filter ([1, 2] : List Int).contains = [1, 2] from rfl] at hr1
      have HX1 := Lib.hid (HL4.out.ints hr1)
      have HL5 := Lib.hid (HL4.out.below hb5)
      have HBY3 := Lib.hid (wa_by b a t x13A x13T4 x13S4 3 _ w5 labr HL5.out.sys (by decide) x13_k3)
      obtain ⟨A1, c1, rfl, _⟩ := mx_slice hr1
      clear hr1 hb5 HBY1 HL4
      go_wp2_with fail
      refine HBY3.out.mono ?_
      rintro e w6 ⟨v3, rfl, hr3, hb6⟩
      rw [show ([-4, -2] : List Int).filter ([-4, -2] : List Int).contains = [-4, -2] from rfl] at hr3
      have HX3 := Lib.hid (HL5.out.ints hr3)
      have HL6 := Lib.hid (HL5.out.below hb6)
      have HX1' := Lib.hid (HX1.out.frb hb6)
      obtain ⟨A3, c3, rfl, _⟩ := mx_slice hr3
      obtain ⟨W7, hW7⟩ : ∃ x, w6.alloc (.cells #[.int .i64 1, .int .i64 2] 39) = x := ⟨_, rfl⟩
      have hb7 : Below w6.heap.size w6 W7 := by rw [← hW7]; exact mx_al _ _
      have hy7 : IntsIn (fun g => g = w6.heap.size) W7 (.slice (some ⟨w6.heap.size, 0, none⟩) 2 2) [1, 2] := by rw [← hW7]; exact mx_ints w6 [1, 2] _
      have HW7 := Lib.hid hW7
      have HEQ1 := Lib.hid (eq_l _ _ [1, 2] [1, 2] W7 (HX1'.out.frb hb7) hy7 (by decide))
      have HL7 := Lib.hid (HL6.out.below hb7)
      have HX3' := Lib.hid (HX3.out.frb hb7)
      clear hr3 hb6 HBY3 HL5 HX1 hW7 hb7 hy7 HX1' HX3 HL6
      go_wp2_with fail
      rw [HW7.out]
      refine HEQ1.out.mono ?_
      rintro e w8 ⟨rfl, n8, hw8⟩
      have hb8 : Below W7.heap.size W7 w8 := by rw [hw8]; exact mx_drewN _ _
      have HL8 := Lib.hid (HL7.out.below hb8)
      have HX8 := Lib.hid (HX3'.out.frb hb8)
      obtain ⟨W9, hW9⟩ : ∃ x, w8.alloc (.cells #[.int .i64 (-4), .int .i64 (-2)] 39) = x := ⟨_, rfl⟩
      have hb9 : Below w8.heap.size w8 W9 := by rw [← hW9]; exact mx_al _ _
      have hy9 : IntsIn (fun g => g = w8.heap.size) W9 (.slice (some ⟨w8.heap.size, 0, none⟩) 2 2) [-4, -2] := by rw [← hW9]; exact mx_ints w8 [-4, -2] _
      have HW9 := Lib.hid hW9
      have HEQ3 := Lib.hid (eq_l _ _ [-4, -2] [-4, -2] W9 (HX8.out.frb hb9) hy9 (by decide))
      have HL9 := Lib.hid (HL8.out.below hb9)
      clear hw8 hb8 hW9 hb9 hy9 HEQ1 HL7 HX3' HX8 HL8 HW7
      rw [show (([1, 2] : List Int) == [1, 2]) = true from rfl]
      go_wp2_with fail
      rw [HW9.out]
      refine HEQ3.out.mono ?_
      rintro e w10 ⟨rfl, n10, hw10⟩
      have hb10 : Below W9.heap.size W9 w10 := by rw [hw10]; exact mx_drewN _ _
      have HL10 := Lib.hid (HL9.out.below hb10)
      have HPU := Lib.hid (lw_push HL10.out x13_o4.1)
      clear hw10 hb10 HEQ3 HL9 HW9
      rw [show (([-4, -2] : List Int) == [-4, -2]) = true from rfl]
      go_wp2_with fail
      refine HPU.out.mono ?_
      rintro e w11 ⟨rfl, l11, hl11, _⟩
      have has := lw_assign hl11 (-2) 0 x13_o4.2
      rw [x13_e5, show x13T4.push.assigned (-2) 0 = x13T5 from rfl] at has
      have HAS := Lib.hid has
      clear hl11 has HPU HL10
      go_wp2_with fail
      refine HAS.out.mono ?_
      rintro e w12 ⟨rfl, l12, hl12, _⟩
      have hpr := lw_prop hl12 x13_s4.2 x13_pt5.sim x13_v5
      rw [x13_p6, show (propW x13A x13T5 x13S4).1 = x13T6 from rfl, show (propW x13A x13T5 x13S4).2.1 = x13S6 from rfl] at hpr
      have HPR := Lib.hid hpr
      clear hl12 hpr HAS
      go_wp2_with fail
      refine HPR.out.mono ?_
      rintro e w13 ⟨rfl, l13, hl13, _⟩
      have HBY := Lib.hid (wa_by b a t x13A x13T6 x13S6 1 _ w13 l13 hl13.sys (by decide) x13_k6)
      have HL13 := Lib.hid hl13
      clear hl13 HPR
      go_wp2_with fail
      refine HBY.out.mono ?_
      rintro e w14 ⟨v1, rfl, hr1, hb14⟩
      rw [show ([1, 2, 3] : List Int).filter ([1, 3] : List Int).contains = [1, 3] from rfl] at hr1
      have HX14 := Lib.hid (HL13.out.ints hr1)
      have HL14 := Lib.hid (HL13.out.below hb14)
      obtain ⟨A1', c1', rfl, _⟩ := mx_slice hr1
      obtain ⟨W15, hW15⟩ : ∃ x, w14.alloc (.cells #[.int .i64 1, .int .i64 3] 39) = x := ⟨_, rfl⟩
      have hb15 : Below w14.heap.size w14 W15 := by rw [← hW15]; exact mx_al _ _
      have hy15 : IntsIn (fun g => g = w14.heap.size) W15 (.slice (some ⟨w14.heap.size, 0, none⟩) 2 2) [1, 3] := by rw [← hW15]; exact mx_ints w14 [1, 3] _
      have HW15 := Lib.hid hW15
      have HEQ := Lib.hid (eq_l _ _ [1, 3] [1, 3] W15 (HX14.out.frb hb15) hy15 (by decide))
      have HL15 := Lib.hid (HL14.out.below hb15)
      clear hr1 hb14 HBY HL13 HX14 HL14 hW15 hb15 hy15
      go_wp2_with fail
      rw [HW15.out]
      refine HEQ.out.mono ?_
      rintro e w16 ⟨rfl, n16, hw16⟩
      have hb16 : Below W15.heap.size W15 w16 := by rw [hw16]; exact mx_drewN _ _
      have HL16 := Lib.hid (HL15.out.below hb16)
      have HPU := Lib.hid (lw_push HL16.out x13_o6.1)
      clear hw16 hb16 HEQ HL15 HW15
      rw [show (([1, 3] : List Int) == [1, 3]) = true from rfl]
      go_wp2_with fail
      refine HPU.out.mono ?_
      rintro e w17 ⟨rfl, l17, hl17, _⟩
      have has := lw_assign hl17 (-3) 0 x13_o6.2
      rw [x13_e7, show x13T6.push.assigned (-3) 0 = x13T7 from rfl] at has
      have HAS := Lib.hid has
      clear hl17 has HPU HL16
      go_wp2_with fail
      refine HAS.out.mono ?_
      rintro e w18 ⟨rfl, l18, hl18, _⟩
      have hpr := lw_prop hl18 x13_s6.2 x13_pt7.sim x13_v7
      rw [x13_p8, show (propW x13A x13T7 x13S6).1 = x13T8 from rfl, show (propW x13A x13T7 x13S6).2.1 = x13S8 from rfl] at hpr
      have HPR := Lib.hid hpr
      clear hl18 hpr HAS
      go_wp2_with fail
      refine HPR.out.mono ?_
      rintro e w19 ⟨rfl, l19, hl19, _⟩
      have hre := tr_reason t x13T8 4 w19 hl19.sys.tr
      rw [x13_w8.1, x13_w8.2.1] at hre
      have HRE := Lib.hid hre
      have HL19 := Lib.hid hl19
      clear hl19 HPR hre
      go_wp2_with fail
      refine HRE.out.mono ?_
      rintro e w20 ⟨rfl, hb20⟩
      have HL20 := Lib.hid (HL19.out.below hb20)
      have hva := tr_value t x13T8 1 w20 HL20.out.sys.tr
      rw [x13_w8.2.2] at hva
      have HVA := Lib.hid hva
      clear hb20 HRE HL19 hva
      go_wp2_with fail
      refine HVA.out.mono ?_
      rintro e w21 ⟨rfl, hb21⟩
      have HL21 := Lib.hid (HL20.out.below hb21)
      have hba := lw_back HL21.out 0 x13_pt8.sta x13_pt8.fit
      rw [x13_b9, show x13T8.backed 0 = x13T9 from rfl, show (⟨x13S8.known, x13S8.of, min x13S8.looked x13T9.order.length⟩ : Wst) = x13S9 from rfl] at hba
      have HBA := Lib.hid hba
      clear hb21 HVA HL20 hba
      go_wp2_with fail
      refine HBA.out.mono ?_
      rintro e w22 ⟨rfl, l22, hl22, _⟩
      have hlo := wa_looked b a t x13A x13T9 x13S9 w22 l22 hl22.sys
      rw [x13_l9] at hlo
      have HLO := Lib.hid hlo
      have HL22 := Lib.hid hl22
      clear hl22 hlo HBA HL21
      go_wp2_with fail
      refine HLO.out.mono ?_
      rintro e w23 ⟨rfl, rfl⟩
      have HPU := Lib.hid (lw_push HL22.out x13_o9.1)
      clear HLO HL22
      go_wp2_with fail
      refine HPU.out.mono ?_
      rintro e w24 ⟨rfl, l24, hl24, _⟩
      have has := lw_assign hl24 2 0 x13_o9.2.1
      rw [x13_e10, show x13T9.push.assigned 2 0 = x13T10 from rfl] at has
      have HAS := Lib.hid has
      clear hl24 has HPU
      go_wp2_with fail
      refine HAS.out.mono ?_
      rintro e w25 ⟨rfl, l25, hl25, _⟩
      have has := lw_assign hl25 4 0 x13_o9.2.2
      rw [x13_e11, show x13T10.assigned 4 0 = x13T11 from rfl] at has
      have HAS2 := Lib.hid has
      clear hl25 has HAS
      go_wp2_with fail
      refine HAS2.out.mono ?_
      rintro e w26 ⟨rfl, l26, hl26, _⟩
      have hpr := lw_prop hl26 x13_s9 x13_pt11.sim x13_v11
      rw [x13_p12, show (propW x13A x13T11 x13S9).1 = x13T12 from rfl, show (propW x13A x13T11 x13S9).2.1 = x13S12 from rfl] at hpr
      have HPR := Lib.hid hpr
      clear hl26 hpr HAS2
      go_wp2_with fail
      refine HPR.out.mono ?_
      rintro e w27 ⟨rfl, l27, hl27, _⟩
      have had := lw_add hl27 1 (by decide) (fun c hc => ⟨(x13_get 0 (by decide) c hc).1, (x13_get 0 (by decide) c hc).2, by decide, by decide⟩) x13_o12 x13_s12
      rw [x13_last] at had
      have HAD := Lib.hid had
      clear hl27 had HPR
      go_wp2_with fail
      refine HAD.out.mono ?_
      rintro e w28 ⟨rfl, l28, hl28, _⟩
      have HL28 := Lib.hid hl28
      clear hl28 HAD
      go_wp2_with fail
      go_ret
      exact ⟨rfl, HL28.out.hb⟩
end Go.Proofs.YtobcnejecogfoaaGreat
