/- Plain: a trail, and a list of what was assigned. Plain: what a trail says of literals, by the list of what was assigned. -/
import Derived.Test.YtobcnejecogfoaaGreatQ05
import Derived.Test.YtobcnejecogfoaaGreatQ04
import Derived.Test.YtobcnejecogfoaaGreatQ10
namespace Go.Proofs.YtobcnejecogfoaaGreat
open Go.RowKit

/-- what was assigned -/
structure RIt where
  lit : Int
  reason : Int
  level : Int
def RIt.cells (x : RIt) : List Value := [.int .i64 x.lit, .int .i64 x.reason, .int .i64 x.level]
structure RTr where
  vars : Int
  now : Int
  items : List RIt
  starts : List Int
/-- the first place of a variable, from one on -/
def rPl : List RIt → Int → Nat → Int
  | [], _, _ => -1
  | x :: l, v, i => if 0 < v ∧ (litV x.lit : Int) = v then i else rPl l v (i + 1)
def rP (l : List RIt) (v : Int) : Int := rPl l v 0
def rVl : List RIt → Int → Int
  | [], _ => 0
  | x :: l, y => if litB y = true ∧ x.lit = y then 1 else if litB y = true ∧ x.lit = -y then -1 else rVl l y
def rL (l : List RIt) (y : Int) : Int := match l[(rP l (litV y)).toNat]? with
  | some x => x.level
  | none => 0
theorem rPl_ge (l : List RIt) (v : Int) (i : Nat) : rPl l v i = -1 ∨ (i : Int) ≤ rPl l v i ∧ rPl l v i < i + l.length := by
  induction l generalizing i with
  | nil => exact .inl rfl
  | cons x l ih =>
    unfold rPl
    split
    · right
      simp only [List.length_cons]
      omega
    · have := ih (i + 1)
      simp only [List.length_cons]
      omega
theorem rP_lt (l : List RIt) (v : Int) : rP l v = -1 ∨ 0 ≤ rP l v ∧ rP l v < l.length := by
  have := rPl_ge l v 0
  unfold rP
  omega
theorem litV_negate (l : Int) : litV (-l) = litV l := by
  have h : litB (-l) = litB l := by
    unfold litB
    exact decide_eq_decide.2 (by omega)
  unfold litV
  rw [h, Int.natAbs_neg]
structure Sim (T : Trl) (its : List RIt) : Prop where
 order : T.order = its.map RIt.lit
 size : T.vars.length ≤ 1048577
 at_ : ∀ (p : Nat) (x : RIt), its[p]? = some x → litB x.lit = true ∧ T.vars[litV x.lit]? = some ⟨x.level, x.reason, p, litS x.lit⟩
 free : ∀ (v : Nat) (s : TV), T.vars[v]? = some s → (∀ x ∈ its, litV x.lit ≠ v) → s.value = 0
 mono : ∀ (p q : Nat) (x y : RIt), p ≤ q → its[p]? = some x → its[q]? = some y → x.level ≤ y.level
 pos : ∀ x ∈ its, 0 ≤ x.level ∧ x.level ≤ T.now
 now : 0 ≤ T.now
theorem litV_pos {l : Int} (h : litB l = true) : 1 ≤ litV l ∧ (litV l : Int) = max l (-l) := by
 have := (litB_iff l).1 h
 unfold litV
 rw [if_pos h]
 omega
theorem litB_minus (l : Int) : litB (-l) = litB l := by
 simp only [litB, decide_eq_decide]
 omega
theorem litV_zero {l : Int} (h : litB l = false) : litV l = 0 := by
 unfold litV
 rw [h]
 rfl
theorem litB_of_litV {l : Int} (h : 0 < litV l) : litB l = true := by
 cases hb : litB l with
 | true => rfl
 | false => rw [litV_zero hb] at h; omega
/-- two literals of a variable -/
theorem litV_two {a b : Int} (ha : litB a = true) (h : litV a = litV b) : b = a ∨ b = -a := by
 have h1 := litV_pos ha
 have h2 := litV_pos (litB_of_litV (l := b) (by omega))
 omega
variable {T : Trl} {its : List RIt}
theorem Sim.litb (h : Sim T its) {x : RIt} (hx : x ∈ its) : litB x.lit = true := by
 obtain ⟨p, hp, e⟩ := List.getElem_of_mem hx
 exact (h.at_ p x (by rw [List.getElem?_eq_getElem hp, e])).1
theorem Sim.inj (h : Sim T its) {p q : Nat} {x y : RIt} (hp : its[p]? = some x) (hq : its[q]? = some y) (e : litV x.lit = litV y.lit) : p = q := by
 have h1 := (h.at_ p x hp).2
 have h2 := (h.at_ q y hq).2
 rw [e, h2] at h1
 have h3 := congrArg TV.place (Option.some.inj h1)
 simp only at h3
 omega
theorem Sim.atv (h : Sim T its) {p : Nat} {x : RIt} (hp : its[p]? = some x) : T.at (litV x.lit : Nat) = some ⟨x.level, x.reason, p, litS x.lit⟩ := by
 obtain ⟨h1, h2⟩ := h.at_ p x hp
 have h3 := (List.getElem?_eq_some_iff.1 h2).1
 have h4 := litV_pos h1
 unfold Trl.at
 rw [if_pos (by omega), Int.toNat_natCast]
 exact h2
theorem litS_ne (l : Int) : litS l ≠ 0 := by
 rcases litS_abs l with h | h <;> omega
theorem Sim.why (h : Sim T its) {p : Nat} {x : RIt} (hp : its[p]? = some x) : T.why (litV x.lit : Nat) = some ⟨x.level, x.reason, p, litS x.lit⟩ := by
 unfold Trl.why
 rw [h.atv hp]
 simp only
 rw [if_neg (litS_ne _)]
theorem Sim.why_none (h : Sim T its) {v : Nat} (hn : ∀ x ∈ its, litV x.lit ≠ v) : T.why (v : Int) = none := by
 unfold Trl.why Trl.at
 split
 ·
  rename_i s hs
  split at hs
  ·
   rw [Int.toNat_natCast] at hs
   rw [if_pos (h.free v s hs hn)]
  ·
   cases hs
 ·
  rfl
theorem rPl_at (l : List RIt) (v : Int) (i p : Nat) (x : RIt) (hv : 0 < v) (hp : l[p]? = some x) (hx : (litV x.lit : Int) = v) (hf : ∀ q y, q < p → l[q]? = some y → (litV y.lit : Int) ≠ v) : rPl l v i = (i + p : Nat) := by
 induction l generalizing i p with
 | nil => simp at hp
 | cons y l ih =>
  unfold rPl
  cases p with
  | zero =>
   obtain rfl : y = x := by simpa using hp
   rw [if_pos ⟨hv, hx⟩]
   rfl
  | succ p =>
   rw [if_neg (fun hh => hf 0 y (by omega) (by simp) hh.2), ih (i + 1) p (by simpa using hp) (fun q z hq hz => hf (q + 1) z (by omega) (by simpa using hz))]
   congr 1
   omega
theorem rPl_none (l : List RIt) (v : Int) (i : Nat) (hf : ∀ x ∈ l, (litV x.lit : Int) ≠ v) : rPl l v i = -1 := by
 induction l generalizing i with
 | nil => rfl
 | cons y l ih =>
  unfold rPl
  rw [if_neg (fun hh => hf y (List.mem_cons_self ..) hh.2)]
  exact ih (i + 1) (fun x hx => hf x (List.mem_cons_of_mem _ hx))
theorem Sim.rp (h : Sim T its) {p : Nat} {x : RIt} (hp : its[p]? = some x) : rP its (litV x.lit : Nat) = p := by
 have h1 := litV_pos (h.at_ p x hp).1
 have := rPl_at its (litV x.lit : Nat) 0 p x (by omega) hp rfl (fun q y hq hy e => by
  have := h.inj hy hp (by omega)
  omega)
 unfold rP
 rw [this, Nat.zero_add]
theorem rVl_at (l : List RIt) (y z : Int) (hy : litB y = true) (h1 : ∃ x ∈ l, litV x.lit = litV y) (h2 : ∀ x ∈ l, litV x.lit = litV y → x.lit = z) : rVl l y = if z = y then 1 else -1 := by
 induction l with
 | nil =>
  obtain ⟨x, hx, _⟩ := h1
  cases hx
 | cons x l ih =>
  unfold rVl
  by_cases hxy : litV x.lit = litV y
  ·
   have hz := h2 x (List.mem_cons_self ..) hxy
   rcases litV_two hy hxy.symm with e | e
   ·
    rw [if_pos ⟨hy, e⟩, if_pos (by omega)]
   ·
    have := (litB_iff y).1 hy
    rw [if_neg (fun hh => by omega), if_pos ⟨hy, e⟩, if_neg (by omega)]
  ·
   rw [if_neg (fun hh => hxy (by rw [hh.2])), if_neg (fun hh => hxy (by rw [hh.2, litV_negate]))]
   obtain ⟨w, hw, e⟩ := h1
   refine ih ?_ (fun x hx => h2 x (List.mem_cons_of_mem _ hx))
   rcases List.mem_cons.1 hw with rfl | hw
   ·
    exact absurd e hxy
   ·
    exact ⟨w, hw, e⟩
theorem rVl_none (l : List RIt) (y : Int) (h : litB y = true → ∀ x ∈ l, litV x.lit ≠ litV y) : rVl l y = 0 := by
 induction l with
 | nil => rfl
 | cons x l ih =>
  unfold rVl
  rw [if_neg (fun hh => h hh.1 x (List.mem_cons_self ..) (by rw [hh.2])), if_neg (fun hh => h hh.1 x (List.mem_cons_self ..) (by rw [hh.2, litV_negate]))]
  exact ih (fun hb x hx => h hb x (List.mem_cons_of_mem _ hx))
theorem Sim.val_at (h : Sim T its) {p : Nat} {x : RIt} (hp : its[p]? = some x) (y : Int) (hy : litV x.lit = litV y) : T.val y = rVl its y ∧ rVl its y = if x.lit = y then 1 else -1 := by
 have hb := (h.at_ p x hp).1
 have hby : litB y = true := litB_of_litV (by have := litV_pos hb; omega)
 have h1 := rVl_at its y x.lit hby ⟨x, List.mem_of_getElem? hp, hy⟩ (fun z hz e => by
  obtain ⟨q, hq, e2⟩ := List.getElem_of_mem hz
  have hq' : its[q]? = some z := by rw [List.getElem?_eq_getElem hq, e2]
  obtain rfl := h.inj hq' hp (by omega)
  rw [hp] at hq'
  rw [Option.some.inj hq'])
 refine ⟨?_, h1⟩
 rw [h1]
 unfold Trl.val
 rw [← hy, h.atv hp]
 simp only
 have hn := (litB_iff x.lit).1 hb
 rcases litV_two hb hy with e | e
 ·
  rw [e, if_pos rfl]
  unfold litS
  split <;> rfl
 ·
  rw [e, if_neg (by omega)]
  unfold litS
  split
  ·
   rw [if_neg (by omega)]; rfl
  ·
   rw [if_pos (by omega)]; rfl
theorem Sim.cases (_ : Sim T its) (y : Int) : (∃ (p : Nat) (x : RIt), its[p]? = some x ∧ litV x.lit = litV y) ∨ (∀ x ∈ its, litV x.lit ≠ litV y) := by
 by_cases hh : ∃ (p : Nat) (x : RIt), its[p]? = some x ∧ litV x.lit = litV y
 ·
  exact .inl hh
 ·
  refine .inr (fun x hx e => hh ?_)
  obtain ⟨p, hp, e2⟩ := List.getElem_of_mem hx
  exact ⟨p, x, by rw [List.getElem?_eq_getElem hp, e2], e⟩
theorem Sim.val (h : Sim T its) (y : Int) : T.val y = rVl its y := by
 rcases h.cases y with ⟨p, x, hp, e⟩ | hn
 ·
  exact (h.val_at hp y e).1
 ·
  rw [rVl_none its y (fun _ => hn)]
  unfold Trl.val Trl.at
  split
  ·
   rename_i s hs
   split at hs
   ·
    rw [Int.toNat_natCast] at hs
    rw [h.free _ s hs hn, Int.zero_mul]
   ·
    cases hs
  ·
   rfl
/-- a literal that is false: its item -/
theorem Sim.fal (h : Sim T its) {y : Int} (hy : rVl its y < 0) : ∃ (p : Nat) (x : RIt), its[p]? = some x ∧ y = -x.lit ∧ litV x.lit = litV y := by
 rcases h.cases y with ⟨p, x, hp, e⟩ | hn
 ·
  have := (h.val_at hp y e).2
  rcases litV_two (h.at_ p x hp).1 e with e2 | e2
  ·
   rw [if_pos e2.symm] at this
   omega
  ·
   exact ⟨p, x, hp, e2, e⟩
 ·
  rw [rVl_none its y (fun _ => hn)] at hy
  omega
theorem Sim.fal_of (h : Sim T its) {p : Nat} {x : RIt} (hp : its[p]? = some x) : rVl its (-x.lit) < 0 := by
 have := (h.val_at hp (-x.lit) (litV_negate _).symm).2
 have hb := (litB_iff x.lit).1 (h.at_ p x hp).1
 rw [if_neg (by omega)] at this
 omega
theorem Sim.rl (h : Sim T its) {p : Nat} {x : RIt} (hp : its[p]? = some x) {y : Int} (hy : litV x.lit = litV y) : rL its y = x.level := by
 unfold rL
 rw [← hy, h.rp hp, Int.toNat_natCast, hp]
theorem Sim.level (h : Sim T its) {p : Nat} {x : RIt} (hp : its[p]? = some x) : T.level (litV x.lit : Nat) = x.level := by
 unfold Trl.level
 rw [h.why hp]
theorem Sim.level_fal (h : Sim T its) {y : Int} (hy : rVl its y < 0) : T.level (litV y : Nat) = rL its y := by
 obtain ⟨p, x, hp, rfl, e⟩ := h.fal hy
 rw [← e, h.level hp, h.rl hp e]
theorem Sim.fal_inj (h : Sim T its) {y z : Int} (hy : rVl its y < 0) (hz : rVl its z < 0) (e : rP its (litV y : Nat) = rP its (litV z : Nat)) : y = z := by
 obtain ⟨p, x, hp, rfl, e1⟩ := h.fal hy
 obtain ⟨q, u, hq, rfl, e2⟩ := h.fal hz
 rw [← e1, ← e2, h.rp hp, h.rp hq] at e
 have : p = q := by omega
 subst this
 rw [hp] at hq
 rw [Option.some.inj hq]
theorem Sim.fal_mono (h : Sim T its) {y z : Int} (hy : rVl its y < 0) (hz : rVl its z < 0) (e : rP its (litV y : Nat) ≤ rP its (litV z : Nat)) : rL its y ≤ rL its z := by
 obtain ⟨p, x, hp, rfl, e1⟩ := h.fal hy
 obtain ⟨q, u, hq, rfl, e2⟩ := h.fal hz
 rw [← e1, ← e2, h.rp hp, h.rp hq] at e
 rw [h.rl hp e1, h.rl hq e2]
 exact h.mono p q x u (by omega) hp hq
theorem Sim.fal_pos (h : Sim T its) {y : Int} (hy : rVl its y < 0) : 0 ≤ rL its y ∧ 1 ≤ litV y ∧ 0 ≤ rP its (litV y : Nat) ∧ rP its (litV y : Nat) < its.length := by
 obtain ⟨p, x, hp, rfl, e1⟩ := h.fal hy
 rw [h.rl hp e1, ← e1, h.rp hp]
 have := litV_pos (h.at_ p x hp).1
 have := (List.getElem?_eq_some_iff.1 hp).1
 have := (h.pos x (List.mem_of_getElem? hp)).1
 omega
end Go.Proofs.YtobcnejecogfoaaGreat
namespace Go.Proofs.YtobcnejecogfoaaGreat
open Go.RowKit

variable {T : Trl} {its : List RIt}
theorem litS_not (l : Int) : litS l ≠ 0 := by
  unfold litS
  split <;> decide
theorem Sim.fal_iff (h : Sim T its) {y : Int} (hy : litB y = true) : T.fal y = true ↔ ∃ (p : Nat) (x : RIt), its[p]? = some x ∧ x.lit = -y := by
  have hn := (litB_iff y).1 hy
  unfold Trl.fal
  rw [decide_eq_true_eq, h.val]
  constructor
  · intro hf
    obtain ⟨p, x, hp, e, _⟩ := h.fal hf
    exact ⟨p, x, hp, by omega⟩
  · rintro ⟨p, x, hp, e⟩
    have := (h.val_at hp y (by rw [e, litV_negate])).2
    rw [if_neg (by omega)] at this
    omega
theorem Sim.tru_iff (h : Sim T its) {y : Int} (hy : litB y = true) : T.tru y = true ↔ ∃ (p : Nat) (x : RIt), its[p]? = some x ∧ x.lit = y := by
  have hn := (litB_iff y).1 hy
  unfold Trl.tru
  rw [decide_eq_true_eq, h.val]
  constructor
  · intro hf
    rcases h.cases y with ⟨p, x, hp, e⟩ | hno
    · have hv := (h.val_at hp y e).2
      by_cases hxy : x.lit = y
      · exact ⟨p, x, hp, hxy⟩
      · rw [if_neg hxy] at hv
        omega
    · rw [rVl_none its y (fun _ => hno)] at hf
      omega
  · rintro ⟨p, x, hp, e⟩
    have := (h.val_at hp y (by rw [e])).2
    rw [if_pos e] at this
    omega
theorem Trl.not_both {y : Int} (h1 : T.fal y = true) (h2 : T.tru y = true) : False := by
  unfold Trl.fal at h1
  unfold Trl.tru at h2
  rw [decide_eq_true_eq] at h1 h2
  omega
theorem Sim.snoc (hs : Sim T its) {l r : Int} (he : T.assignErr l r = 0) : Sim (T.assigned l r) (its ++ [⟨l, r, T.now⟩]) := by
  unfold Trl.assigned
  rw [if_pos he]
  unfold Trl.assignErr at he
  cases hat : T.at (litV l : Nat) with
  | none => rw [hat] at he; cases he
  | some s =>
    rw [hat] at he
    simp only at he
    have ha := hat
    unfold Trl.at at ha
    split at ha
    · rename_i hlt
      rw [Int.toNat_natCast] at ha
      have hb : litB l = true := litB_of_litV (by omega)
      have hvl : litV l < T.vars.length := by omega
      have h0 : s.value = 0 := by
        split at he
        · cases he
        · split at he
          · cases he
          · rename_i _ h2
            omega
      have hfree : ∀ x ∈ its, litV x.lit ≠ litV l := fun x hx e => by
        obtain ⟨p, hp, e2⟩ := List.getElem_of_mem hx
        have hx2 := (hs.at_ p x (by rw [List.getElem?_eq_getElem hp, e2])).2
        rw [e, ha] at hx2
        have h3 := congrArg TV.value (Option.some.inj hx2)
        simp only at h3
        have := litS_not x.lit
        omega
      have hol : T.order.length = its.length := by rw [hs.order, List.length_map]
      refine { order := ?_, size := ?_, at_ := fun p x hp => ?_, free := fun v s hv hf => ?_, mono := fun p q x y hpq hp hq => ?_, pos := fun x hx => ?_, now := hs.now }
      · simp only [Trl.assign, hs.order, List.map_append, List.map_cons, List.map_nil]
      · simp only [Trl.assign, List.length_set]
        exact hs.size
      · simp only [Trl.assign]
        rw [List.getElem?_append] at hp
        split at hp
        · obtain ⟨g1, g2⟩ := hs.at_ p x hp
          refine ⟨g1, ?_⟩
          rw [List.getElem?_set_ne (fun e => hfree x (List.mem_of_getElem? hp) e.symm)]
          exact g2
        · rename_i hpl
          have hp0 : p = its.length := by
            have := (List.getElem?_eq_some_iff.1 hp).1
            simp only [List.length_cons, List.length_nil] at this
            omega
          subst hp0
          rw [Nat.sub_self] at hp
          obtain rfl := Option.some.inj hp
          refine ⟨hb, ?_⟩
          simp only
          rw [List.getElem?_set_self hvl, hol]
      · simp only [Trl.assign] at hv
        have hvne : litV l ≠ v := hf ⟨l, r, T.now⟩ (List.mem_append_right _ (List.mem_singleton.2 rfl))
        rw [List.getElem?_set_ne hvne] at hv
        exact hs.free v s hv (fun x hx => hf x (List.mem_append_left _ hx))
      · rw [List.getElem?_append] at hp hq
        split at hq
        · rw [if_pos (by omega)] at hp
          exact hs.mono p q x y hpq hp hq
        · have hyl : y.level = T.now := by
            have := List.mem_of_getElem? hq
            rw [List.mem_singleton.1 this]
          split at hp
          · have := (hs.pos x (List.mem_of_getElem? hp)).2
            omega
          · have := List.mem_of_getElem? hp
            rw [List.mem_singleton.1 this, hyl]
            exact Int.le_refl _
      · rcases List.mem_append.1 hx with hx | hx
        · exact hs.pos x hx
        · rw [List.mem_singleton.1 hx]
          have := hs.now
          have e : (T.assign l r).now = T.now := rfl
          simp only
          omega
    · cases ha
theorem Sim.lev (h : Sim T its) : ∀ x ∈ its, 0 ≤ x.level ∧ x.level ≤ T.now := h.pos
theorem Sim.varlt (h : Sim T its) {p : Nat} {x : RIt} (hp : its[p]? = some x) : 1 ≤ litV x.lit ∧ litV x.lit < T.vars.length := by
  obtain ⟨h1, h2⟩ := h.at_ p x hp
  exact ⟨(litV_pos h1).1, (List.getElem?_eq_some_iff.1 h2).1⟩
theorem Sim.nodup (h : Sim T its) : (its.map fun x => litV x.lit).Nodup := by
  rw [List.Nodup, List.pairwise_iff_getElem]
  intro i j hi hj hij e
  rw [List.length_map] at hi hj
  rw [List.getElem_map, List.getElem_map] at e
  have := h.inj (List.getElem?_eq_getElem hi) (List.getElem?_eq_getElem hj) e
  omega
/-- there are fewer items than variables, with the one of no number -/
theorem Sim.len (h : Sim T its) : its.length < T.vars.length ∨ its = [] := by
  cases its with
  | nil => exact .inr rfl
  | cons x r =>
    left
    have h1 : ((x :: r).map fun x => litV x.lit).length ≤ (List.range' 1 (T.vars.length - 1)).length := by
      refine List.Nodup.length_le_of_subset h.nodup (fun v hv => ?_)
      obtain ⟨z, hz, rfl⟩ := List.mem_map.1 hv
      obtain ⟨p, hp, e2⟩ := List.getElem_of_mem hz
      have := h.varlt (p := p) (x := z) (by rw [List.getElem?_eq_getElem hp, e2])
      rw [List.mem_range'_1]
      omega
    rw [List.length_map, List.length_range'] at h1
    have := (h.varlt (p := 0) (x := x) rfl).2
    omega
theorem assign_ok {l r : Int} (hl : litB l = true) (hv : litV l < T.vars.length) (hr : 0 ≤ r ∧ r ≤ 1073741824) (h0 : T.fal l = false) (h1 : T.tru l = false) : T.assignErr l r = 0 := by
  unfold Trl.assignErr
  have hp := (litV_pos hl).1
  have hat : T.at (litV l : Nat) = some T.vars[litV l] := by
    unfold Trl.at
    rw [if_pos (by omega), Int.toNat_natCast]
    exact List.getElem?_eq_getElem hv
  rw [hat]
  simp only
  rw [if_neg (by omega), if_neg]
  intro hn
  have h2 : T.val l = T.vars[litV l].value * litS l := by
    unfold Trl.val
    rw [hat]
  have h3 : T.val l ≠ 0 := by
    rw [h2]
    intro e
    rcases Int.mul_eq_zero.1 e with e | e
    · exact hn e
    · exact litS_not l e
  unfold Trl.fal at h0
  unfold Trl.tru at h1
  rw [decide_eq_false_iff_not] at h0 h1
  omega
theorem assigned_now (T : Trl) (l r : Int) : (T.assigned l r).now = T.now := by
  unfold Trl.assigned
  split <;> rfl
theorem assigned_vars (T : Trl) (l r : Int) : (T.assigned l r).vars.length = T.vars.length := by
  unfold Trl.assigned
  split
  · simp [Trl.assign]
  · rfl
end Go.Proofs.YtobcnejecogfoaaGreat
