/- Plain: what a clause is, by the list of what was assigned; what Add tells. A range over a function that writes rows of its own between rounds, while its rounds write rows of theirs. -/
import Derived.Test.YtobcnejecogfoaaGreatQ13
import Derived.Test.YtobcnejecogfoaaGreatQ20
import Derived.Test.YtobcnejecogfoaaGreatQ21
import Derived.Test.YtobcnejecogfoaaGreatQ08
namespace Go.Proofs.YtobcnejecogfoaaGreat
open Go.RowKit

theorem litG_minus {x : Int} (hx : litB x = true) : litG (-x) = !litG x := by
  have h := (litB_iff x).1 hx
  unfold litG
  rw [litB_minus, hx, Bool.true_and, Bool.true_and]
  by_cases h1 : x < 0
  · rw [decide_eq_true h1, decide_eq_false (by omega)]
    rfl
  · rw [decide_eq_false h1, decide_eq_true (by omega)]
    rfl
theorem k_put_self (f : Int → Int) (x : Int) : ofF (putF f x) x = 1 := by
  unfold ofF putF
  rw [if_pos rfl]
  cases litG x <;> rfl
theorem k_put_neg (f : Int → Int) {x : Int} (hx : litB x = true) : ofF (putF f x) (-x) = -1 := by
  unfold ofF putF
  rw [litV_negate, if_pos rfl, litG_minus hx]
  cases litG x <;> rfl
theorem k_put_ne (f : Int → Int) {x y : Int} (h : litV y ≠ litV x) : ofF (putF f x) y = ofF f y := by
  unfold ofF putF
  simp only [if_neg (show ¬ (((litV y : Nat) : Int) = ((litV x : Nat) : Int)) by omega)]
theorem k_asg (xs : List Int) : ∀ f : Int → Int, (∀ x ∈ xs, litB x = true) → (xs.map litV).Nodup → (∀ x ∈ xs, f ((litV x : Nat) : Int) = 0) → ∃ g, asgGo f xs = some g ∧ (∀ y, (∀ x ∈ xs, litV x ≠ litV y) → ofF g y = ofF f y) ∧ ∀ x ∈ xs, ofF g x = 1 ∧ ofF g (-x) = -1 := by
  induction xs with
  | nil => exact fun f _ _ _ => ⟨f, rfl, fun _ _ => rfl, fun x hx => by cases hx⟩
  | cons x r ih =>
    intro f h1 h2 h3
    have hx := h1 x List.mem_cons_self
    have h0 : ofF f x = 0 := by
      unfold ofF
      rw [h3 x List.mem_cons_self]
      split <;> rfl
    have hstep : asgGo f (x :: r) = asgGo (putF f x) r := by
      conv => lhs; unfold asgGo
      rw [if_pos ⟨hx, by rw [h0]; exact Int.le_refl 0⟩]
    rw [List.map_cons, List.nodup_cons] at h2
    have hne : ∀ y ∈ r, litV y ≠ litV x := fun y hy e => h2.1 (e ▸ List.mem_map_of_mem hy)
    obtain ⟨g, e, g1, g2⟩ := ih (putF f x) (fun y hy => h1 y (List.mem_cons_of_mem _ hy)) h2.2 (fun y hy => by
      have := hne y hy
      unfold putF
      rw [if_neg (by omega)]
      exact h3 y (List.mem_cons_of_mem _ hy))
    refine ⟨g, hstep.trans e, fun y hy => ?_, fun z hz => ?_⟩
    · rw [g1 y (fun z hz => hy z (List.mem_cons_of_mem _ hz)), k_put_ne f (fun e => hy x List.mem_cons_self e.symm)]
    · rcases List.mem_cons.1 hz with rfl | hz
      · rw [g1 z hne, g1 (-z) (by rw [litV_negate]; exact hne), k_put_self, k_put_neg f hx]
        exact ⟨rfl, rfl⟩
      · exact g2 z hz
theorem k_inj {its : List RIt} (hn : (its.map fun x => litV x.lit).Nodup) {p q : Nat} {x y : RIt} (hp : its[p]? = some x) (hq : its[q]? = some y) (e : litV x.lit = litV y.lit) : p = q := by
  rw [List.Nodup, List.pairwise_iff_getElem] at hn
  obtain ⟨h1, h2⟩ := List.getElem?_eq_some_iff.1 hp
  obtain ⟨h3, h4⟩ := List.getElem?_eq_some_iff.1 hq
  rcases Nat.lt_trichotomy p q with h | h | h
  · refine absurd ?_ (hn p q (by simpa using h1) (by simpa using h3) h)
    rw [List.getElem_map, List.getElem_map, h2, h4, e]
  · exact h
  · refine absurd ?_ (hn q p (by simpa using h3) (by simpa using h1) h)
    rw [List.getElem_map, List.getElem_map, h2, h4, e]
/-- what was assigned says the same as the list of it -/
theorem k_its {its : List RIt} (hl : ∀ x ∈ its, litB x.lit = true) (hn : (its.map fun x => litV x.lit).Nodup) : ∃ f, asgF (its.map RIt.lit) = some f ∧ ∀ y, litB y = true → ((0 < ofF f y ↔ Has its y) ∧ (ofF f y < 0 ↔ Has its (-y))) := by
  obtain ⟨f, e, h1, h2⟩ := k_asg (its.map RIt.lit) (fun _ => 0) (fun x hx => by
    obtain ⟨z, hz, rfl⟩ := List.mem_map.1 hx
    exact hl z hz) (by rw [List.map_map]; exact hn) (fun _ _ => rfl)
  refine ⟨f, e, fun y hy => ?_⟩
  have hb := (litB_iff y).1 hy
  by_cases hex : ∃ (p : Nat) (x : RIt), its[p]? = some x ∧ litV x.lit = litV y
  · obtain ⟨p, x, hp, hv⟩ := hex
    have hx := List.mem_of_getElem? hp
    obtain ⟨a1, a2⟩ := h2 x.lit (List.mem_map_of_mem hx)
    have one : ∀ z, litV z = litV y → Has its z → x.lit = z := fun z hz ⟨q, w, hq, hw⟩ => by
      have := k_inj hn hp hq (by rw [hv, hw, hz])
      subst this
      rw [hp] at hq
      obtain rfl := Option.some.inj hq
      exact hw
    rcases litV_two (hl x hx) hv with e2 | e2
    · rw [← e2] at a1
      constructor
      · exact ⟨fun _ => ⟨p, x, hp, e2.symm⟩, fun _ => by omega⟩
      · refine ⟨fun h => by omega, fun h => ?_⟩
        have := one (-y) (litV_negate y) h
        omega
    · rw [← e2] at a2
      constructor
      · refine ⟨fun h => by omega, fun h => ?_⟩
        have := one y rfl h
        omega
      · exact ⟨fun _ => ⟨p, x, hp, by omega⟩, fun _ => by omega⟩
  · have h0 : ofF f y = 0 := by
      rw [h1 y (fun x hx => by
        obtain ⟨z, hz, rfl⟩ := List.mem_map.1 hx
        obtain ⟨p, hp, e3⟩ := List.getElem_of_mem hz
        exact fun e4 => hex ⟨p, z, by rw [List.getElem?_eq_getElem hp, e3], e4⟩)]
      unfold ofF
      split <;> rfl
    constructor
    · exact ⟨fun h => by omega, fun ⟨p, x, hp, hx⟩ => absurd ⟨p, x, hp, by rw [hx]⟩ hex⟩
    · exact ⟨fun h => by omega, fun ⟨p, x, hp, hx⟩ => absurd ⟨p, x, hp, by rw [hx, litV_negate]⟩ hex⟩
section
variable {f : Int → Int}
theorem k_hold {c : List Int} (h : ∃ y ∈ c, 0 < ofF f y) : ∀ k u, lukGo f k u c = (1, 0) := by
  induction c with
  | nil =>
    obtain ⟨y, hy, _⟩ := h
    cases hy
  | cons l r ih =>
    intro k u
    unfold lukGo
    by_cases hl : 0 < ofF f l
    · rw [if_pos hl]
    · rw [if_neg hl]
      have hr : ∃ y ∈ r, 0 < ofF f y := by
        obtain ⟨y, hy, h⟩ := h
        rcases List.mem_cons.1 hy with rfl | hy
        · exact absurd h hl
        · exact ⟨y, hy, h⟩
      split
      · exact ih hr _ _
      · split
        · exact ih hr _ _
        · exact ih hr _ _
theorem k_rest {c : List Int} {k : Nat} {u : Int} (h : ∀ y ∈ c, ofF f y < 0 ∨ y = u ∧ ¬ 0 < ofF f y) : lukGo f k u c = (k, if k = 3 then u else 0) := by
  induction c with
  | nil => rfl
  | cons l r ih =>
    have hl := h l List.mem_cons_self
    unfold lukGo
    rw [if_neg (by rcases hl with h | h <;> omega), if_pos (hl.imp_right And.left)]
    exact ih (fun y hy => h y (List.mem_cons_of_mem _ hy))
theorem k_fail {c : List Int} (h : ∀ y ∈ c, ofF f y < 0) : lookF f c = (2, 0) := k_rest (fun y hy => .inl (h y hy))
theorem k_unit {c : List Int} {a : Int} (ha : a ∈ c) (hz : ofF f a = 0) (h : ∀ y ∈ c, y ≠ a → ofF f y < 0) (hn : ∀ y ∈ c, y ≠ 0) : lookF f c = (3, a) := by
  show lukGo f 2 0 c = _
  induction c with
  | nil => cases ha
  | cons l r ih =>
    by_cases hl : l = a
    · subst hl
      unfold lukGo
      rw [if_neg (by omega), if_neg (by rintro (h2 | h2); · omega
                                        · exact hn l List.mem_cons_self h2), if_pos rfl, k_rest (fun y hy => ?_)]
      · rfl
      · by_cases e : y = l
        · exact .inr ⟨e, by rw [e]; omega⟩
        · exact .inl (h y (List.mem_cons_of_mem _ hy) e)
    · have hl2 := h l List.mem_cons_self hl
      unfold lukGo
      rw [if_neg (by omega), if_pos (.inl hl2)]
      refine ih ?_ (fun y hy => h y (List.mem_cons_of_mem _ hy)) (fun y hy => hn y (List.mem_cons_of_mem _ hy))
      rcases List.mem_cons.1 ha with e | e
      · exact absurd e.symm hl
      · exact e
theorem k_four {c : List Int} {u : Int} (hu : u ≠ 0) (h : ∀ y ∈ c, ¬ 0 < ofF f y) : lukGo f 4 u c = (4, 0) := by
  induction c with
  | nil => rfl
  | cons l r ih =>
    have hr := ih (fun y hy => h y (List.mem_cons_of_mem _ hy))
    unfold lukGo
    rw [if_neg (h l List.mem_cons_self)]
    split
    · exact hr
    · exact hr
theorem k_open3 {c : List Int} {u : Int} (hu : u ≠ 0) (h : ∀ y ∈ c, ¬ 0 < ofF f y) (hx : ∃ y ∈ c, y ≠ u ∧ ofF f y = 0) : lukGo f 3 u c = (4, 0) := by
  induction c with
  | nil =>
    obtain ⟨y, hy, _⟩ := hx
    cases hy
  | cons l r ih =>
    have hr := fun y hy => h y (List.mem_cons_of_mem _ hy)
    unfold lukGo
    rw [if_neg (h l List.mem_cons_self)]
    by_cases hl : ofF f l < 0 ∨ l = u
    · rw [if_pos hl]
      refine ih hr ?_
      obtain ⟨y, hy, h1, h2⟩ := hx
      rcases List.mem_cons.1 hy with rfl | hy
      · rcases hl with hl | hl
        · omega
        · exact absurd hl h1
      · exact ⟨y, hy, h1, h2⟩
    · rw [if_neg hl, if_neg hu]
      exact k_four hu hr
theorem k_open {c : List Int} {a b : Int} (hab : a ≠ b) (ha : a ∈ c) (hb : b ∈ c) (ha0 : ofF f a = 0) (hb0 : ofF f b = 0) (h : ∀ y ∈ c, ¬ 0 < ofF f y) (hn : ∀ y ∈ c, y ≠ 0) : lookF f c = (4, 0) := by
  show lukGo f 2 0 c = _
  induction c with
  | nil => cases ha
  | cons l r ih =>
    have hr := fun y hy => h y (List.mem_cons_of_mem _ hy)
    have hl1 := h l List.mem_cons_self
    have hl0 := hn l List.mem_cons_self
    unfold lukGo
    rw [if_neg hl1]
    by_cases hl : ofF f l < 0
    · rw [if_pos (.inl hl)]
      refine ih ?_ ?_ hr (fun y hy => hn y (List.mem_cons_of_mem _ hy))
      · rcases List.mem_cons.1 ha with e | e
        · rw [← e] at hl
          omega
        · exact e
      · rcases List.mem_cons.1 hb with e | e
        · rw [← e] at hl
          omega
        · exact e
    · rw [if_neg (by rintro (h2 | h2)
                     · exact hl h2
                     · exact hl0 h2), if_pos rfl]
      refine k_open3 hl0 hr ?_
      by_cases e : l = a
      · rcases List.mem_cons.1 hb with e2 | e2
        · exact absurd (e.symm.trans e2.symm) hab
        · exact ⟨b, e2, fun e3 => hab (e.symm.trans e3.symm), hb0⟩
      · rcases List.mem_cons.1 ha with e2 | e2
        · exact absurd e2.symm e
        · exact ⟨a, e2, fun e3 => e e3.symm, ha0⟩
end
/-- what Add tells is what the clause is -/
inductive AddK (T : Trl) (c : List Int) (f : Int → Int) : Prop
  | fails (hk : addKind T (addTwo T c) = 3) (hl : lookF f c = (2, 0)) (hall : ∀ y ∈ c, T.fal y = true)
  | unit (a : Int) (hk : addKind T (addTwo T c) = 2) (hl : lookF f c = (3, a)) (ha : a ∈ c) (hf : T.fal a = false) (ht : T.tru a = false) (hh : (addTwo T c).headD 0 = a) (ho : ∀ y ∈ c, y ≠ a → T.fal y = true)
  | holds (hk : addKind T (addTwo T c) = 1) (hl : lookF f c = (1, 0)) (ht : ∃ y ∈ c, T.tru y = true)
  | opens (hk : addKind T (addTwo T c) = 1) (hl : lookF f c = (4, 0)) (ht : ∀ y ∈ c, T.tru y = false)
theorem add_kind {T : Trl} {its : List RIt} {c : List Int} {f : Int → Int} (hs : Sim T its) (hc : ∀ y ∈ c, litB y = true) (hf : ∀ y, litB y = true → ((0 < ofF f y ↔ Has its y) ∧ (ofF f y < 0 ↔ Has its (-y)))) : AddK T c f := by
  have tr : ∀ y ∈ c, (0 < ofF f y ↔ T.tru y = true) := fun y hy => (hf y (hc y hy)).1.trans (hs.tru_iff (hc y hy)).symm
  have fa : ∀ y ∈ c, (ofF f y < 0 ↔ T.fal y = true) := fun y hy => (hf y (hc y hy)).2.trans (hs.fal_iff (hc y hy)).symm
  have fz : ∀ y ∈ c, T.fal y = false → T.tru y = false → ofF f y = 0 := fun y hy h1 h2 => by
    have a1 : ¬ 0 < ofF f y := fun h => by rw [(tr y hy).1 h] at h2; cases h2
    have a2 : ¬ ofF f y < 0 := fun h => by rw [(fa y hy).1 h] at h1; cases h1
    omega
  have nz : ∀ y ∈ c, y ≠ 0 := fun y hy => by
    have := (litB_iff y).1 (hc y hy)
    omega
  have hin : ∀ y, y ∈ (eachL c).filter (fun x => !T.fal x) ↔ y ∈ c ∧ T.fal y = false := fun y => by
    rw [List.mem_filter, eachL_mem, Bool.not_eq_true']
  have hst : ∀ y, y ∈ T.stab ((eachL c).filter T.fal) → T.fal y = true := fun y hy => (List.mem_filter.1 (stab_mem.1 hy)).2
  have htwo : addTwo T c = ((eachL c).filter (fun x => !T.fal x) ++ T.stab ((eachL c).filter T.fal)).take 2 := rfl
  have hnd : ((eachL c).filter (fun x => !T.fal x)).Nodup := (eachL_nodup c).filter _
  cases hnf : (eachL c).filter (fun x => !T.fal x) with
  | nil =>
    rw [hnf] at hin htwo
    have hall : ∀ y ∈ c, T.fal y = true := fun y hy => by
      cases h : T.fal y with
      | true => rfl
      | false => cases (hin y).2 ⟨hy, h⟩
    refine .fails ?_ (k_fail fun y hy => (fa y hy).2 (hall y hy)) hall
    rw [htwo, List.nil_append]
    cases hs2 : T.stab ((eachL c).filter T.fal) with
    | nil => rfl
    | cons s r =>
      rw [hs2] at hst
      have := hst s List.mem_cons_self
      cases r with
      | nil => show (if T.fal s = true then 3 else _) = 3; rw [if_pos this]
      | cons s2 r => show (if T.fal s = true then 3 else _) = 3; rw [if_pos this]
  | cons a r =>
    rw [hnf] at hin htwo hnd
    have ha := (hin a).1 List.mem_cons_self
    cases r with
    | nil =>
      have ho : ∀ y ∈ c, y ≠ a → T.fal y = true := fun y hy hne => by
        cases h : T.fal y with
        | true => rfl
        | false => exact absurd (List.mem_singleton.1 ((hin y).2 ⟨hy, h⟩)) hne
      have hkind : addKind T (addTwo T c) = if T.tru a = true then 1 else 2 := by
        rw [htwo]
        cases hs2 : T.stab ((eachL c).filter T.fal) with
        | nil =>
          show (if T.fal a = true then 3 else if T.tru a = true then 1 else 2) = _
          rw [ha.2]
          rfl
        | cons s r =>
          rw [hs2] at hst
          have hfs := hst s List.mem_cons_self
          show (if T.fal a = true then 3 else if T.tru a = true ∨ T.fal s = false then 1 else 2) = _
          rw [ha.2, hfs]
          simp
      have hhd : (addTwo T c).headD 0 = a := by rw [htwo]; rfl
      cases ht : T.tru a with
      | true =>
        rw [ht] at hkind
        exact .holds hkind (k_hold ⟨a, ha.1, (tr a ha.1).2 ht⟩ _ _) ⟨a, ha.1, ht⟩
      | false =>
        rw [ht] at hkind
        exact .unit a hkind (k_unit ha.1 (fz a ha.1 ha.2 ht) (fun y hy hne => (fa y hy).2 (ho y hy hne)) nz) ha.1 ha.2 ht hhd ho
    | cons b r =>
      have hb := (hin b).1 (List.mem_cons_of_mem _ List.mem_cons_self)
      have hab : a ≠ b := fun e => (List.nodup_cons.1 hnd).1 (e ▸ List.mem_cons_self)
      have hkind : addKind T (addTwo T c) = 1 := by
        rw [htwo]
        show (if T.fal a = true then 3 else if T.tru a = true ∨ T.fal b = false then 1 else 2) = _
        rw [ha.2, hb.2]
        simp
      by_cases hex : ∃ y ∈ c, T.tru y = true
      · obtain ⟨y, hy, ht⟩ := hex
        exact .holds hkind (k_hold ⟨y, hy, (tr y hy).2 ht⟩ _ _) ⟨y, hy, ht⟩
      · have hno : ∀ y ∈ c, T.tru y = false := fun y hy => by
          cases h : T.tru y with
          | true => exact absurd ⟨y, hy, h⟩ hex
          | false => rfl
        refine .opens hkind (k_open hab ha.1 hb.1 (fz a ha.1 ha.2 (hno a ha.1)) (fz b hb.1 hb.2 (hno b hb.1)) (fun y hy h => ?_) nz) hno
        have := hno y hy
        rw [(tr y hy).1 h] at this
        cases this
end Go.Proofs.YtobcnejecogfoaaGreat
namespace Go.Proofs.YtobcnejecogfoaaGreat
open Go.RowKit Go.Shelf

/-- the blocks that a round has laid, beside those of earlier rounds -/
def addB (B : Nat → Prop) (W W' : World) (g : Nat) : Prop := B g ∨ W.heap.size ≤ g ∧ g < W'.heap.size
/-- what depends on blocks before N and on those of B alone -/
def OwnB {α : Type} (N : Nat) (J : List α → (Nat → Prop) → World → Prop) : Prop :=
  ∀ pre B W W' row, J pre B W → W.grownBy W' row → (∀ r, row = some r → N ≤ r ∧ ¬ B r) → J pre B W'
/-- an iterator's contract -/
def SeqB {α : Type} (P : Program) (g : Nat) (lb : Array Value) (encs : α → Array Value) (X0 : Nat → Prop) (S Sp : List α → Prop) (w : World) : Prop :=
  ∀ (l : Nat) (J Jx : List α → (Nat → Prop) → World → Prop) (W : World), Below w.heap.size w W → OwnB W.heap.size J → OwnB W.heap.size Jx →
    (∀ pre B x W1, J pre B W1 → W.heap.size ≤ W1.heap.size → (∀ g, B g → W.heap.size ≤ g ∧ g < W1.heap.size) → YieldAt Fence.wide 7 P l (encs x) W1 fun e W' =>
      ((e = .returned (.bool true) ∧ J (pre ++ [x]) (addB B W1 W') W') ∨ (e = .returned (.bool false) ∧ Jx (pre ++ [x]) (addB B W1 W') W')) ∧ KpC (fun g => X0 g ∨ B g) W1 W') →
    J [] (fun _ => False) W →
    CallsIn Fence.wide 9 P g (#[.func (.yield l) #[] #[]] ++ lb) W fun e W' => (∃ v, e = .returned v) ∧ ((∃ xs B, S xs ∧ J xs B W') ∨ (∃ pre B, Sp pre ∧ Jx pre B W'))
/-- how a round's body may be left: on, or by an exit -/
def bPost {α : Type} (k : Nat) (X0 : Nat → Prop) (I Ix : List α → (Nat → Prop) → World → Prop) (pre : List α) (B : Nat → Prop) (x : α) (W W' : World) : Exit → Act → World → Prop
  | .normal, _, W3 => KeepsRec W' W3 ∧ KpC (fun g => X0 g ∨ B g) W' W3 ∧ I (pre ++ [x]) (addB B W W3) W3
  | .exit n, _, W3 => n = k ∧ KeepsRec W' W3 ∧ KpC (fun g => X0 g ∨ B g) W' W3 ∧ Ix (pre ++ [x]) (addB B W W3) W3
  | .ret, _, _ => False
  | .goto _, _, _ => False
  | .panic _, _, _ => False
  | .outgrown, _, _ => False
theorem OwnB.putObj {α : Type} {N : Nat} {J : List α → (Nat → Prop) → World → Prop} (h : OwnB N J) {pre : List α} {B : Nat → Prop} {W : World} {l : Nat} (o' : Obj) (hs : J pre B W) (hl : N ≤ l) (hB : ¬ B l) : J pre B (W.putObj l o') :=
  h pre B W _ (some l) hs (grownBy_putObj' W l o') (fun r e => by cases e; exact ⟨hl, hB⟩)
theorem OwnB.alloc {α : Type} {N : Nat} {J : List α → (Nat → Prop) → World → Prop} (h : OwnB N J) {pre : List α} {B : Nat → Prop} {W : World} (o : Obj) (hs : J pre B W) : J pre B (W.alloc o) :=
  h pre B W _ none hs (World.grownBy_alloc W o none) (fun r e => by cases e)
theorem addB_putObj {B : Nat → Prop} {W W3 : World} (l : Nat) (o : Obj) : addB B W (W3.putObj l o) = addB B W W3 := by
  funext g
  unfold addB
  rw [show (W3.putObj l o).heap.size = W3.heap.size by simp]
set_option maxHeartbeats 1000000 in
theorem wpIn_range_B {α : Type} {P : Program} {g : Operand} {ps : Array Tmp} {assign body : Code} {Q : Exit → Act → World → Prop} {a : Act} {w : World} {gf : Nat} {lb : Array Value}
    (hg : a.eval g = .func (.func gf) #[] lb) (eg : ∀ args w, (callFunc gf args).run P w = .ok (.enter gf args) w)
    {encs : α → Array Value} {X0 : Nat → Prop} {S Sp : List α → Prop} {w0 : World} (k : Nat) (hseq : SeqB P gf lb encs X0 S Sp w0) (hb0 : Below w0.heap.size w0 w) (hps : ∀ x, (encs x).size = ps.size)
    (I Ix : List α → (Nat → Prop) → World → Prop) (hI : OwnB w.heap.size I) (hIx : OwnB w.heap.size Ix) (h0 : I [] (fun _ => False) w)
    (Fr : α → Act)
    (hassign : ∀ (l : Nat) (x : α) (W : World) (K : Act → World → Prop), K (Fr x) W →
      assign.wpIn (Fence.wide.inRound l) 7 P (Exit.then K (fun _ _ _ => False)) { tmps := (ps.zip (encs x)).foldl (fun t (p, v) => t.setIfInBounds p v) a.tmps, defers := [] } W)
    (hbody : ∀ (l : Nat) (pre : List α) (B : Nat → Prop) (x : α) (W W' : World), I pre B W → (∀ g, B g → w.heap.size ≤ g ∧ g < W.heap.size) → w.heap.size ≤ W.heap.size → (∀ j, j < w.heap.size → W.heap[j]? = W'.heap[j]?) → (∀ j, B j → W.heap[j]? = W'.heap[j]?) → W'.heap.size = W.heap.size → I pre B W' → body.wpIn (Fence.wide.inRound l) 7 P (bPost k X0 I Ix pre B x W W') (Fr x) W')
    (hdone : ∀ (D : Nat) (xs : List α) (B : Nat → Prop) (W : World), w.heap.size ≤ D → S xs → I xs B W → W.heap[D]? = some (.deferred (some [])) → Q .normal { a with defers := { target := .collected D, args := #[] } :: a.defers } W)
    (hstop : ∀ (D : Nat) (pre : List α) (B : Nat → Prop) (W : World), w.heap.size ≤ D → Sp pre → Ix pre B W → W.heap[D]? = some (.deferred (some [])) → (Code.exit k).wpIn Fence.wide 10 P Q { a with defers := { target := .collected D, args := #[] } :: a.defers } W) :
    (Code.rangeFunc g ps assign body).wpIn Fence.wide 10 P Q a w := by
  refine wpIn_rangeFunc (fun fn hfn => ?_)
  obtain ⟨rec, hrec⟩ : ∃ rec : LoopState → Option Code → Loop, rec = fun st pe => { state := st, pending := pe, fn, tmps := a.tmps, params := ps, assign, body, defers := w.heap.size } := ⟨_, rfl⟩
  obtain ⟨W1, hW1⟩ : ∃ W1, (w.alloc (.deferred (some []))).alloc (.loop (rec .ready none)) = W1 := ⟨_, rfl⟩
  have hz1 : W1.heap.size = w.heap.size + 2 := by rw [← hW1]; simp
  have hL1 : W1.heap[w.heap.size + 1]? = some (.loop (rec .ready none)) := by
    have := World.alloc_heap_new (w.alloc (.deferred (some []))) (.loop (rec .ready none))
    rwa [hW1, World.size_alloc] at this
  have hD1 : W1.heap[w.heap.size]? = some (.deferred (some [])) := by
    rw [← hW1, Below.heap_alloc _ _ _ (by simp)]
    exact World.alloc_heap_new w _
  have hb1 : Below w.heap.size w W1 := by rw [← hW1]; exact (mx_al w _).alloc (by simp) _
  have hI1 : I [] (fun _ => False) W1 := by rw [← hW1]; exact hI.alloc _ (hI.alloc _ h0)
  have turn : ∀ (W3 : World) (r r' : Loop), W3.heap[w.heap.size + 1]? = some (.loop r) → W3.heap[w.heap.size]? = some (.deferred (some [])) → (W3.putObj (w.heap.size + 1) (.loop r')).heap[w.heap.size + 1]? = some (.loop r') ∧ (W3.putObj (w.heap.size + 1) (.loop r')).heap[w.heap.size]? = some (.deferred (some [])) := fun W3 r r' h1 h2 =>
    ⟨World.putObj_heap_same (heap_lt h1), (World.putObj_heap_other (by omega)).trans h2⟩
  have own : ∀ {I : List α → (Nat → Prop) → World → Prop}, OwnB w.heap.size I → ∀ st pe, OwnB W1.heap.size (fun pre B W => I pre B W ∧ W.heap[w.heap.size + 1]? = some (.loop (rec st pe)) ∧ W.heap[w.heap.size]? = some (.deferred (some [])) ∧ ∀ j, B j → W1.heap.size ≤ j) := fun {I} hI st pe pre B W W' row h hg hr => by
    obtain ⟨h1, h2, h3, h4⟩ := h
    refine ⟨hI pre B W W' row h1 hg (fun r e => ⟨by have := (hr r e).1; omega, (hr r e).2⟩), (hg.block _ (heap_lt h2) (fun e => ?_)).trans h2, (hg.block _ (heap_lt h3) (fun e => ?_)).trans h3, h4⟩
    · have := (hr _ e.symm).1
      omega
    · have := (hr _ e.symm).1
      omega
  refine ⟨w.heap.size + 1, [{ target := .collected w.heap.size, args := #[] }], W1, { target := .fn (.func gf) lb, args := #[.func (.yield (w.heap.size + 1)) #[] #[]] }, W1, gf, #[.func (.yield (w.heap.size + 1)) #[] #[]] ++ lb, W1, ?_, ?_, fun _ _ => trivial, ?_, fun h => (by cases h), ?_⟩
  · rw [← hW1, hrec]
    exact run_enterLoop_outer _ _ _ _ _
  · simp only [resolve, hg]
    simp [go_sem]
  · simp [invoke, go_sem, eg]
  refine (hseq (w.heap.size + 1) _ _ W1 (hb0.trans (hb1.mono hb0.size)) (own hI .ready none) (own hIx .done (some (.exit k))) ?_ ⟨hI1, hL1, hD1, fun j h => h.elim⟩).mono ?_
  · rintro pre B x W ⟨hi, hl, hd, hB⟩ hbW hBl
    have hy := run_yield (P := P) (args := encs x) hl (by rw [hrec]; exact hps x)
    rw [hrec] at hy
    refine ⟨fn, _, assign, body, hy, roundIn_of_wpIn hfn (hassign _ x W _ ?_)⟩
    refine ⟨_, run_beginRound hl (by rw [hrec]), ?_⟩
    obtain ⟨hl2, hd2⟩ := turn W _ { rec .ready none with state := .busy } hl hd
    have hnB : ¬ B (w.heap.size + 1) := fun h => by have := hB _ h; omega
    have hk2 := KpC.putObj W (w.heap.size + 1) _ (.loop { rec .ready none with state := .busy }) hl rfl rfl
    refine wpIn_mono (hbody _ pre B x W _ hi (fun j h => ⟨by have := hB j h; omega, (hBl j h).2⟩) (by omega) (fun j hj => (World.putObj_heap_other (by omega)).symm) (fun j hj => (World.putObj_heap_other (by intro e; exact hnB (by first | exact e ▸ hj | exact e.symm ▸ hj))).symm) (by simp) (hI.putObj _ hi (by omega) hnB)) ?_
    rintro e a3 W3 hq
    have hBW : ∀ (W3 : World), (W.putObj (w.heap.size + 1) (.loop { rec .ready none with state := .busy })).heap.size ≤ W3.heap.size → ¬ addB B W W3 (w.heap.size + 1) ∧ ∀ j, addB B W W3 j → W1.heap.size ≤ j := fun W3 _ => ⟨fun h => h.elim hnB (fun h => by have := heap_lt hl; omega), fun j h => h.elim (hB j) (fun h => by omega)⟩
    cases e with
    | normal =>
      obtain ⟨hk3, hkp, hi3⟩ := hq
      have hl3 := hk3 _ _ hl2 rfl rfl
      have hd3 := hk3 _ _ hd2 rfl rfl
      have he := run_endRound (P := P) none hl3
      obtain ⟨hl4, hd4⟩ := turn W3 _ (rec .ready none) hl3 hd3
      have hk4 := KpC.putObj W3 (w.heap.size + 1) _ (.loop (rec .ready none)) hl3 rfl rfl
      obtain ⟨hn3, hb3⟩ := hBW W3 hkp.size
      refine ⟨_, _, he, ?_⟩
      rw [hrec] at hl3 hl4 hd4 hk4 hk2 hkp ⊢
      refine ⟨.inl ⟨rfl, ?_, hl4, hd4, fun j h => hb3 j (by rwa [addB_putObj] at h)⟩, ((hk2.mono (fun j _ h => h.elim)).trans hkp).trans (hk4.mono (fun j _ h => h.elim))⟩
      rw [addB_putObj]
      exact hI.putObj _ hi3 (by omega) hn3
    | exit n =>
      obtain ⟨rfl, hk3, hkp, hi3⟩ := hq
      have hl3 := hk3 _ _ hl2 rfl rfl
      have hd3 := hk3 _ _ hd2 rfl rfl
      have he := run_endRound (P := P) (some (.exit n)) hl3
      obtain ⟨hl4, hd4⟩ := turn W3 _ (rec .done (some (.exit n))) hl3 hd3
      have hk4 := KpC.putObj W3 (w.heap.size + 1) _ (.loop (rec .done (some (.exit n)))) hl3 rfl rfl
      obtain ⟨hn3, hb3⟩ := hBW W3 hkp.size
      refine ⟨_, _, he, ?_⟩
      rw [hrec] at hl3 hl4 hd4 hk4 hk2 hkp ⊢
      refine ⟨.inr ⟨rfl, ?_, hl4, hd4, fun j h => hb3 j (by rwa [addB_putObj] at h)⟩, ((hk2.mono (fun j _ h => h.elim)).trans hkp).trans (hk4.mono (fun j _ h => h.elim))⟩
      rw [addB_putObj]
      exact hIx.putObj _ hi3 (by omega) hn3
    | ret => exact hq.elim
    | goto t => exact hq.elim
    | panic c => exact hq.elim
    | outgrown => exact hq.elim
  · rintro e W2 ⟨⟨v, rfl⟩, ⟨xs, B, hS, hi, hl, hd, hB⟩ | ⟨pre, B, hS, hi, hl, hd, hB⟩⟩
    · have he := run_endLoop (P := P) hl (by rw [hrec]; simp)
      obtain ⟨_, hd4⟩ := turn W2 _ { rec .ready none with state := .exhausted } hl hd
      refine ⟨none, _, ?_, hdone _ xs B _ (Nat.le_refl _) hS (hI.putObj _ hi (by omega) (fun h => by have := hB _ h; omega)) hd4⟩
      rw [hrec] at he ⊢
      exact he
    · have he := run_endLoop (P := P) hl (by rw [hrec]; simp)
      obtain ⟨_, hd4⟩ := turn W2 _ { rec .done (some (.exit k)) with state := .exhausted } hl hd
      refine ⟨some (.exit k), _, ?_, hstop _ pre B _ (Nat.le_refl _) hS (hIx.putObj _ hi (by omega) (fun h => by have := hB _ h; omega)) hd4⟩
      rw [hrec] at he ⊢
      exact he
/-- the same where a round's exit leads to what comes behind -/
theorem wpIn_range_BE {α : Type} {P : Program} {g : Operand} {ps : Array Tmp} {assign body : Code} {Q : Exit → Act → World → Prop} {a : Act} {w : World} {gf : Nat} {lb : Array Value}
    (hg : a.eval g = .func (.func gf) #[] lb) (eg : ∀ args w, (callFunc gf args).run P w = .ok (.enter gf args) w)
    {encs : α → Array Value} {X0 : Nat → Prop} {S Sp : List α → Prop} {w0 : World} (k : Nat) (hseq : SeqB P gf lb encs X0 S Sp w0) (hb0 : Below w0.heap.size w0 w) (hps : ∀ x, (encs x).size = ps.size)
    (I Ix : List α → (Nat → Prop) → World → Prop) (hI : OwnB w.heap.size I) (hIx : OwnB w.heap.size Ix) (h0 : I [] (fun _ => False) w)
    (Fr : α → Act)
    (hassign : ∀ (l : Nat) (x : α) (W : World) (K : Act → World → Prop), K (Fr x) W →
      assign.wpIn (Fence.wide.inRound l) 7 P (Exit.then K (fun _ _ _ => False)) { tmps := (ps.zip (encs x)).foldl (fun t (p, v) => t.setIfInBounds p v) a.tmps, defers := [] } W)
    (hbody : ∀ (l : Nat) (pre : List α) (B : Nat → Prop) (x : α) (W W' : World), I pre B W → (∀ g, B g → w.heap.size ≤ g ∧ g < W.heap.size) → w.heap.size ≤ W.heap.size → (∀ j, j < w.heap.size → W.heap[j]? = W'.heap[j]?) → (∀ j, B j → W.heap[j]? = W'.heap[j]?) → W'.heap.size = W.heap.size → I pre B W' → body.wpIn (Fence.wide.inRound l) 7 P (bPost k X0 I Ix pre B x W W') (Fr x) W')
    (Fin : List α → World → Prop) (hf1 : ∀ xs B W, S xs → I xs B W → Fin xs W) (hf2 : ∀ pre B W, Sp pre → Ix pre B W → Fin pre W)
    (hexit : ∀ a W, Q .normal a W → (Code.exit k).wpIn Fence.wide 10 P Q a W)
    (hend : ∀ (D : Nat) (xs : List α) (W : World), w.heap.size ≤ D → Fin xs W → W.heap[D]? = some (.deferred (some [])) → Q .normal { a with defers := { target := .collected D, args := #[] } :: a.defers } W) :
    (Code.rangeFunc g ps assign body).wpIn Fence.wide 10 P Q a w :=
  wpIn_range_B hg eg k hseq hb0 hps I Ix hI hIx h0 Fr hassign hbody (fun D xs B W h1 h2 h3 h4 => hend D xs W h1 (hf1 xs B W h2 h3) h4) (fun D pre B W h1 h2 h3 h4 => hexit _ _ (hend D pre W h1 (hf2 pre B W h2 h3) h4))
end Go.Proofs.YtobcnejecogfoaaGreat
