/- Plain: how a trail comes about; what a clause covers (chapter 15). -/
import Derived.Test.YtiodfolcnnkdjaaGreatPd
import Derived.Test.YtiodfolcnnkdjaaGreatAo
import Derived.Test.YtiodfolcnnkdjaaGreatAp
namespace Go.Proofs.YtiodfolcnnkdjaaGreat
open Go.RowKit

variable {T : Trl} {its : List RIt}
theorem before_eq (T : Trl) (l p : Int) (c : List Int) : T.before l p c = true ↔ ∀ x ∈ c, x ≠ l → T.val x < 0 ∧ T.place (litV x : Nat) < p := by
 induction c with
 | nil => simp [Trl.before]
 | cons y c ih =>
  unfold Trl.before
  by_cases h1 : y ≠ l ∧ (0 ≤ T.val y ∨ p ≤ T.place (litV y : Nat))
  ·
   rw [if_pos h1]
   refine ⟨fun h => (by cases h), fun h => ?_⟩
   have := h y (List.mem_cons_self ..) h1.1
   omega
  ·
   rw [if_neg h1, ih]
   refine ⟨fun h x hx hn => ?_, fun h x hx => h x (List.mem_cons_of_mem _ hx)⟩
   rcases List.mem_cons.1 hx with rfl | hx
   ·
    by_cases hh : 0 ≤ T.val x ∨ p ≤ T.place (litV x : Nat)
    ·
     exact absurd ⟨hn, hh⟩ h1
    ·
     omega
   ·
    exact h x hx hn
theorem Sim.place_fal (h : Sim T its) {y : Int} (hy : rVl its y < 0) : T.place (litV y : Nat) = rP its (litV y : Nat) := by
 obtain ⟨p, x, hp, rfl, e⟩ := h.fal hy
 rw [← e, h.rp hp]
 unfold Trl.place
 rw [h.why hp]
def RTr.push (t : RTr) : RTr := ⟨t.vars, t.now + 1, t.items, t.starts ++ [(t.items.length : Int)]⟩
def RTr.assignErr (t : RTr) (l r : Int) : Int := if (litV l : Int) < 1 ∨ t.vars < litV l then 40 else if r < 0 ∨ 1073741824 < r then 2 else if rVl t.items l ≠ 0 then 41 else 0
def RTr.assigned (t : RTr) (l r : Int) : RTr := if t.assignErr l r = 0 then ⟨t.vars, t.now, t.items ++ [⟨l, r, t.now⟩], t.starts⟩ else t
def RTr.play (t : RTr) (a : ActP) : RTr := if a.push = true then t.push else t.assigned a.l a.by_
def rPlayAll : RTr → List ActP → RTr
 | t, [] => t
 | t, a :: acs => rPlayAll (t.play a) acs
structure TSim (T : Trl) (t : RTr) : Prop where
 sim : Sim T t.items
 vars : (T.vars.length : Int) = t.vars + 1
 now : T.now = t.now
theorem TSim.push {t : RTr} (h : TSim T t) : TSim T.push t.push := by
 have hn : T.push.now = T.now + 1 := by simp only [Trl.push, Trl.now, List.length_append, List.length_cons, List.length_nil]; omega
 refine ⟨{ h.sim with pos := fun x hx => ?_, now := by have := h.sim.now; omega, free := h.sim.free }, h.vars, by rw [hn, h.now]; rfl⟩
 have := h.sim.pos x hx
 omega
theorem TSim.assigned {t : RTr} (h : TSim T t) (l r : Int) : TSim (T.assigned l r) (t.assigned l r) := by
 unfold Trl.assigned RTr.assigned
 have hs := h.sim
 have herr : T.assignErr l r = 0 ↔ t.assignErr l r = 0 := by
  unfold Trl.assignErr RTr.assignErr
  have hv := h.vars
  cases ha : T.at (litV l : Nat) with
  | none =>
   unfold Trl.at at ha
   split at ha
   ·
    rw [List.getElem?_eq_none_iff] at ha
    omega
   ·
    rw [if_pos (by omega)]
    exact ⟨fun h => (by cases h), fun h => by cases h⟩
  | some s =>
   have hat := ha
   unfold Trl.at at ha
   split at ha
   ·
    rename_i hlt
    rw [if_neg (by omega)]
    simp only
    by_cases hr : r < 0 ∨ 1073741824 < r
    ·
     rw [if_pos hr, if_pos hr]
     exact ⟨fun h => (by cases h), fun h => by cases h⟩
    ·
     rw [if_neg hr, if_neg hr]
     have hval := hs.val l
     unfold Trl.val at hval
     rw [hat] at hval
     simp only at hval
     by_cases h0 : s.value = 0
     ·
      rw [h0, Int.zero_mul] at hval
      rw [if_neg (fun hh => hh h0), if_neg (fun hh => hh hval.symm)]
      exact ⟨fun _ => rfl, fun _ => rfl⟩
     ·
      have : rVl t.items l ≠ 0 := fun e => by
       rw [e] at hval
       rcases Int.mul_eq_zero.1 hval with e | e
       ·
        exact h0 e
       ·
        exact litS_ne l e
      rw [if_pos h0, if_pos this]
      exact ⟨fun h => (by cases h), fun h => by cases h⟩
   ·
    cases ha
 by_cases he : T.assignErr l r = 0
 ·
  rw [if_pos he, if_pos (herr.1 he)]
  unfold Trl.assignErr at he
  cases hat : T.at (litV l : Nat) with
  | none => rw [hat] at he; cases he
  | some s =>
   rw [hat] at he
   simp only at he
   have ha := hat
   unfold Trl.at at ha
   split at ha
   ·
    rename_i hlt
    rw [Int.toNat_natCast] at ha
    have hb : litB l = true := litB_of_litV (by omega)
    have hvl : litV l < T.vars.length := by omega
    have h0 : s.value = 0 := by
     split at he
     ·
      cases he
     ·
      split at he
      ·
       cases he
      ·
       rename_i _ h2
       omega
    have hfree : ∀ x ∈ t.items, litV x.lit ≠ litV l := fun x hx e => by
     obtain ⟨p, hp, e2⟩ := List.getElem_of_mem hx
     have hx2 := (hs.at_ p x (by rw [List.getElem?_eq_getElem hp, e2])).2
     rw [e, ha] at hx2
     have h3 := congrArg TV.value (Option.some.inj hx2)
     simp only at h3
     have := litS_ne x.lit
     omega
    have hol : T.order.length = t.items.length := by rw [hs.order, List.length_map]
    refine ⟨?_, ?_, h.now⟩
    ·
     refine { order := ?_, size := ?_, at_ := fun p x hp => ?_, free := fun v s hv hf => ?_, mono := fun p q x y hpq hp hq => ?_, pos := fun x hx => ?_, now := hs.now }
     ·
      simp only [Trl.assign, hs.order, List.map_append, List.map_cons, List.map_nil]
     ·
      simp only [Trl.assign, List.length_set]
      exact hs.size
     ·
      simp only [Trl.assign]
      rw [List.getElem?_append] at hp
      split at hp
      ·
       obtain ⟨g1, g2⟩ := hs.at_ p x hp
       refine ⟨g1, ?_⟩
       rw [List.getElem?_set_ne (fun e => hfree x (List.mem_of_getElem? hp) e.symm)]
       exact g2
      ·
       rename_i hpl
       have hp0 : p = t.items.length := by
        have := (List.getElem?_eq_some_iff.1 hp).1
        simp only [List.length_cons, List.length_nil] at this
        omega
       subst hp0
       rw [Nat.sub_self] at hp
       obtain rfl := Option.some.inj hp
       refine ⟨hb, ?_⟩
       simp only
       rw [List.getElem?_set_self hvl, hol, h.now]
     ·
      simp only [Trl.assign] at hv
      have hvne : litV l ≠ v := hf ⟨l, r, t.now⟩ (List.mem_append_right _ (List.mem_singleton.2 rfl))
      rw [List.getElem?_set_ne hvne] at hv
      exact hs.free v s hv (fun x hx => hf x (List.mem_append_left _ hx))
     ·
      have hnow := h.now
      rw [List.getElem?_append] at hp hq
      split at hq
      ·
       rw [if_pos (by omega)] at hp
       exact hs.mono p q x y hpq hp hq
      ·
       have hyl : y.level = t.now := by
        have := List.mem_of_getElem? hq
        rw [List.mem_singleton.1 this]
       split at hp
       ·
        have := (hs.pos x (List.mem_of_getElem? hp)).2
        omega
       ·
        have := List.mem_of_getElem? hp
        rw [List.mem_singleton.1 this, hyl]
        exact Int.le_refl _
     ·
      have hnow := h.now
      rcases List.mem_append.1 hx with hx | hx
      ·
       exact hs.pos x hx
      ·
       rw [List.mem_singleton.1 hx]
       have := hs.now
       have e : (T.assign l r).now = T.now := rfl
       simp only
       omega
    ·
     simp only [Trl.assign, List.length_set]
     exact h.vars
   ·
    cases ha
 ·
  rw [if_neg he, if_neg (fun e => he (herr.2 e))]
  exact h
theorem TSim.play {t : RTr} (h : TSim T t) (a : ActP) : TSim (T.play a) (t.play a) := by
 unfold Trl.play RTr.play
 split
 ·
  exact h.push
 ·
  exact h.assigned _ _
theorem TSim.playAll {t : RTr} (h : TSim T t) (acs : List ActP) : TSim (playAll T acs) (rPlayAll t acs) := by
 induction acs generalizing T t with
 | nil => exact h
 | cons a acs ih => exact ih (h.play a)
theorem tsim0 (n : Nat) (hn : n ≤ 1048576) : TSim (trl0 n) ⟨n, 0, [], [0]⟩ := by
 refine ⟨{ order := rfl, size := by simp [trl0]; omega, at_ := fun p x h => by simp at h, free := fun v s hv _ => ?_, mono := fun p q x y _ h _ => by simp at h, pos := fun x h => (by cases h), now := by simp [trl0, Trl.now] }, by simp [trl0], by simp [trl0, Trl.now]⟩
 rw [List.eq_of_mem_replicate (List.mem_of_getElem? hv)]
/-! ### chapter 15: what is covered -/
def rest15 (v : Int) (c : List Int) : List Int := c.filter fun l => decide ((litV l : Int) ≠ v)
def why15 (A : Arn) (T : Trl) (v : Int) : Option (Int × List Int) := if rightB A T v = true then (match A.get (T.reason v) with
  | some c => some (T.reason v, rest15 v c)
  | none => none) else none
def imp15 (A : Arn) (T : Trl) (c : List Int) : Nat → Int → Bool
  | 0, _ => false
  | n + 1, v => match why15 A T v with
    | none => false
    | some r => r.2.all fun l => c.contains l || imp15 A T c n (litV l)
/-- with enough fuel -/
def impl15 (A : Arn) (T : Trl) (c : List Int) (v : Int) : Bool := imp15 A T c (T.order.length + 1) v
def cov15 (A : Arn) (T : Trl) (c : List Int) (l : Int) : Bool := c.contains l || impl15 A T c (litV l)
/-- the literals of a reason are false, before it -/
theorem rightB_at (h : Sim T its) (A : Arn) {p : Nat} {x : RIt} (hp : its[p]? = some x) : rightB A T (litV x.lit : Nat) = (rightP A T x.lit).isSome := by
  have hb := (h.at_ p x hp).1
  have hv := litV_pos hb
  have hlb := (litB_iff x.lit).1 hb
  have hbb : litB ((litV x.lit : Nat) : Int) = true := (litB_iff _).2 (by omega)
  have hval := (h.val_at hp (litV x.lit : Nat) (by have := litV_pos hbb; omega))
  unfold rightB
  rw [h.val, hval.2]
  by_cases e : x.lit = (litV x.lit : Nat)
  · rw [if_pos e, if_neg (by decide), if_neg (by omega), if_neg (by decide)]
    rw [← e]
  · rw [if_neg e, if_neg (by decide), if_neg (by omega), if_pos rfl]
    have : litN ((litV x.lit : Nat) : Int) = x.lit := by
      unfold litN
      rw [if_pos hbb]
      omega
    rw [this]
theorem why15_rest (h : Sim T its) {A : Arn} {p : Nat} {x : RIt} (hp : its[p]? = some x) {r : Int × List Int} (hw : why15 A T (litV x.lit : Nat) = some r) : ∀ z ∈ r.2, rVl its z < 0 ∧ rP its (litV z) < p := by
  unfold why15 at hw
  split at hw
  · rename_i hr
    split at hw
    · rename_i c hc
      obtain rfl := Option.some.inj hw
      rw [rightB_at h A hp] at hr
      have hid : rightP A T x.lit = if (T.why (litV x.lit : Nat)).isSome = true ∧ c.contains x.lit = true ∧ T.before x.lit (T.place (litV x.lit : Nat)) c = true then some (T.reason (litV x.lit : Nat), c) else none := by
        unfold rightP
        rw [hc]
      rw [hid] at hr
      split at hr
      · rename_i hh
        have hbf := (before_eq T x.lit _ c).1 hh.2.2
        have hpl : T.place (litV x.lit : Nat) = p := by
          unfold Trl.place
          rw [h.why hp]
        intro z hz
        have hz' := List.mem_filter.1 hz
        obtain ⟨g1, g2⟩ := hbf z hz'.1 (fun e => by
          have := hz'.2
          rw [e] at this
          simp at this)
        rw [h.val z] at g1
        rw [h.place_fal g1, hpl] at g2
        exact ⟨g1, g2⟩
      · cases hr
    · cases hw
  · cases hw
/-- more fuel changes nothing -/
theorem imp15_fuel (h : Sim T its) {A : Arn} (c : List Int) (n m p : Nat) {x : RIt} (hp : its[p]? = some x) (hn : p < n) (hm : p < m) : imp15 A T c n (litV x.lit : Nat) = imp15 A T c m (litV x.lit : Nat) := by
  induction p using Nat.strongRecOn generalizing n m x with
  | ind p ih =>
    obtain ⟨n, rfl⟩ : ∃ k, n = k + 1 := ⟨n - 1, by omega⟩
    obtain ⟨m, rfl⟩ : ∃ k, m = k + 1 := ⟨m - 1, by omega⟩
    unfold imp15
    cases hw : why15 A T (litV x.lit : Nat) with
    | none => rfl
    | some r =>
      simp only
      have hr := why15_rest h hp hw
      refine Bool.eq_iff_iff.2 ?_
      rw [List.all_eq_true, List.all_eq_true]
      refine forall_congr' (fun z => forall_congr' (fun hz => ?_))
      obtain ⟨h1, h2⟩ := hr z hz
      obtain ⟨q, y, hq, rfl, e⟩ := h.fal h1
      rw [← e, h.rp hq] at h2
      have := ih q (by omega) n m hq (by omega) (by omega)
      rw [← e, this]
theorem impl15_at (h : Sim T its) {A : Arn} (c : List Int) {p : Nat} {x : RIt} (hp : its[p]? = some x) : impl15 A T c (litV x.lit : Nat) = (match why15 A T (litV x.lit : Nat) with
    | none => false
    | some r => r.2.all fun l => cov15 A T c l) := by
  have hlen : T.order.length = its.length := by rw [h.order, List.length_map]
  have hpl := (List.getElem?_eq_some_iff.1 hp).1
  have e1 : impl15 A T c (litV x.lit : Nat) = match why15 A T (litV x.lit : Nat) with
      | none => false
      | some r => r.2.all fun l => c.contains l || imp15 A T c T.order.length (litV l) := rfl
  rw [e1]
  cases hw : why15 A T (litV x.lit : Nat) with
  | none => rfl
  | some r =>
    simp only
    have hr := why15_rest h hp hw
    refine Bool.eq_iff_iff.2 ?_
    rw [List.all_eq_true, List.all_eq_true]
    refine forall_congr' (fun z => forall_congr' (fun hz => ?_))
    obtain ⟨h1, h2⟩ := hr z hz
    obtain ⟨q, y, hq, rfl, e⟩ := h.fal h1
    rw [← e, h.rp hq] at h2
    unfold cov15 impl15
    rw [← e, imp15_fuel h c T.order.length (T.order.length + 1) q hq (by omega) (by omega)]
/-- what the map of what is known holds, below a place -/
def Kn (A : Arn) (T : Trl) (its : List RIt) (c : List Int) (f : Int → Int) (p : Nat) : Prop := ∀ q x, q < p → its[q]? = some x → f (litV x.lit : Nat) = 0 ∨ f (litV x.lit : Nat) = if cov15 A T c (-x.lit) = true then 1 else 2
/-- how many are not known -/
def zer (its : List RIt) (f : Int → Int) : Nat := its.countP fun x => decide (f (litV x.lit : Nat) = 0)
theorem zer_le (its : List RIt) (f : Int → Int) : zer its f ≤ its.length := List.countP_le_length
theorem zer_put {its : List RIt} {f f' : Int → Int} {x : RIt} (hx : x ∈ its) (h0 : f (litV x.lit : Nat) = 0) (h1 : f' (litV x.lit : Nat) ≠ 0) (hsub : ∀ v, f' v = 0 → f v = 0) : zer its f' + 1 ≤ zer its f := by
  induction its with
  | nil => cases hx
  | cons y l ih =>
    unfold zer at ih ⊢
    rw [List.countP_cons, List.countP_cons]
    have hle : ∀ l' : List RIt, (l'.countP fun x => decide (f' (litV x.lit : Nat) = 0)) ≤ l'.countP fun x => decide (f (litV x.lit : Nat) = 0) := fun l' =>
      List.countP_mono_left (fun z _ hz => by simp only [decide_eq_true_eq] at hz ⊢; exact hsub _ hz)
    rcases List.mem_cons.1 hx with rfl | hx
    · have := hle l
      simp only [decide_eq_true_eq]
      rw [if_neg h1, if_pos h0]
      omega
    · have := ih hx
      simp only [decide_eq_true_eq]
      by_cases hy : f' (litV y.lit : Nat) = 0
      · rw [if_pos hy, if_pos (hsub _ hy)]
        omega
      · rw [if_neg hy]
        split <;> omega
theorem zer_mono {its : List RIt} {f f' : Int → Int} (hsub : ∀ v, f' v = 0 → f v = 0) : zer its f' ≤ zer its f :=
  List.countP_mono_left (fun z _ hz => by simp only [decide_eq_true_eq] at hz ⊢; exact hsub _ hz)
/-- shortened -/
def shor15 (A : Arn) (T : Trl) (c : List Int) : List Int → List Int → List Int
  | out, [] => out
  | out, l :: r => shor15 A T c (if out.contains l = false ∧ (c.head? = some l ∨ impl15 A T c (litV l) = false) then out ++ [l] else out) r
def short15 (A : Arn) (T : Trl) (c : List Int) : List Int := shor15 A T c [] c
/-- what is wrong with a clause that has to fail -/
def failE (T : Trl) (c : List Int) : Nat := if clauseB c = false then 20 else if c.any (fun l => decide (0 ≤ T.val l)) = true then 140 else 0
end Go.Proofs.YtiodfolcnnkdjaaGreat
