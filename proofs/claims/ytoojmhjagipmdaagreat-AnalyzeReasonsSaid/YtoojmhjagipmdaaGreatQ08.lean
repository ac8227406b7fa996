/- The watch, plainly: what is propagated level by level. Rising rows of integers: a number's place, put in, taken out. -/
import Derived.Test.YtoojmhjagipmdaaGreatQ07
import Derived.Test.YtoojmhjagipmdaaGreatQ06
import Derived.Test.YtoojmhjagipmdaaGreatShelf
import Derived.Test.YtoojmhjagipmdaaGreatQ05
import Derived.Shelf.SlSortFuncK.RowK2
import Derived.Deep.Upon
namespace Go.Proofs.YtoojmhjagipmdaaGreat
open Go.RowKit

variable {T : Trl} {its : List RIt}
theorem eachGo_mem {x : Int} (c : List Int) (o : List Int) : x ∈ eachGo o c ↔ x ∈ o ∨ x ∈ c := by
  induction c generalizing o with
  | nil => simp [eachGo]
  | cons l r ih =>
    unfold eachGo
    rw [ih, List.mem_cons]
    split
    · rename_i h
      have hm : l ∈ o := by simpa using h
      constructor
      · rintro (h | h)
        · exact .inl h
        · exact .inr (.inr h)
      · rintro (h | rfl | h)
        · exact .inl h
        · exact .inl hm
        · exact .inr h
    · rw [List.mem_append, List.mem_singleton, or_assoc]
theorem eachL_mem {x : Int} {c : List Int} : x ∈ eachL c ↔ x ∈ c := by
  unfold eachL
  rw [eachGo_mem]
  simp
theorem eachGo_nodup (c : List Int) {o : List Int} (h : o.Nodup) : (eachGo o c).Nodup := by
  induction c generalizing o with
  | nil => exact h
  | cons l r ih =>
    unfold eachGo
    apply ih
    split
    · exact h
    · rename_i hc
      have hm : l ∉ o := by simpa using hc
      rw [List.nodup_append]
      refine ⟨h, by simp, fun a ha b hb => ?_⟩
      rw [List.mem_singleton] at hb
      subst hb
      rintro rfl
      exact hm ha
theorem eachL_nodup (c : List Int) : (eachL c).Nodup := eachGo_nodup c List.nodup_nil
theorem eachGo_len (c : List Int) (o : List Int) : (eachGo o c).length ≤ o.length + c.length := by
  induction c generalizing o with
  | nil => simp [eachGo]
  | cons l r ih =>
    unfold eachGo
    have := ih (if o.contains l = true then o else o ++ [l])
    have h2 : (if o.contains l = true then o else o ++ [l]).length ≤ o.length + 1 := by
      split
      · omega
      · simp
    simp only [List.length_cons]
    omega
theorem eachL_len (c : List Int) : (eachL c).length ≤ c.length := by
  have := eachGo_len c []
  unfold eachL
  simpa using this
/-- an item says that y is true -/
def Has (its : List RIt) (y : Int) : Prop := ∃ (p : Nat) (x : RIt), its[p]? = some x ∧ x.lit = y
/-- y came before a place -/
def HasAt (its : List RIt) (n : Nat) (y : Int) : Prop := ∃ (p : Nat) (x : RIt), p < n ∧ its[p]? = some x ∧ x.lit = y
theorem HasAt.mono {its its' : List RIt} (hp : its <+: its') {n n' : Nat} (hn : n ≤ n') {y : Int} (h : HasAt its n y) : HasAt its' n' y := by
  obtain ⟨p, x, h1, h2, h3⟩ := h
  obtain ⟨t, rfl⟩ := hp
  exact ⟨p, x, by omega, by rw [List.getElem?_append_left (List.getElem?_eq_some_iff.1 h2).1]; exact h2, h3⟩
theorem HasAt.has {its : List RIt} {n : Nat} {y : Int} (h : HasAt its n y) : Has its y := by
  obtain ⟨p, x, _, h2, h3⟩ := h
  exact ⟨p, x, h2, h3⟩
theorem Has.at {its : List RIt} {y : Int} (h : Has its y) : HasAt its its.length y := by
  obtain ⟨p, x, h2, h3⟩ := h
  exact ⟨p, x, (List.getElem?_eq_some_iff.1 h2).1, h2, h3⟩
theorem pre_get {its its' : List RIt} (hp : its <+: its') {p : Nat} {x : RIt} (h : its[p]? = some x) : its'[p]? = some x := by
  obtain ⟨t, rfl⟩ := hp
  rw [List.getElem?_append_left (List.getElem?_eq_some_iff.1 h).1]
  exact h
/-- each reason is one -/
def Rsn (C : Int → Option (List Int)) (its : List RIt) : Prop :=
  ∀ (p : Nat) (x : RIt), its[p]? = some x → x.reason ≠ 0 → ∃ c, C x.reason = some c ∧ x.lit ∈ c ∧ ∀ y ∈ c, y ≠ x.lit → HasAt its p (-y)
theorem Rsn.snoc {C : Int → Option (List Int)} {its : List RIt} (h : Rsn C its) {x : RIt} (hx : x.reason ≠ 0 → ∃ c, C x.reason = some c ∧ x.lit ∈ c ∧ ∀ y ∈ c, y ≠ x.lit → Has its (-y)) : Rsn C (its ++ [x]) := by
  intro p z hz hr
  have hpre : its <+: its ++ [x] := ⟨[x], rfl⟩
  rcases Nat.lt_or_ge p its.length with hp | hp
  · rw [List.getElem?_append_left hp] at hz
    obtain ⟨c, h1, h2, h3⟩ := h p z hz hr
    exact ⟨c, h1, h2, fun y hy hne => (h3 y hy hne).mono hpre (Nat.le_refl _)⟩
  · have h1 := (List.getElem?_eq_some_iff.1 hz).1
    rw [List.length_append, List.length_singleton] at h1
    obtain rfl : p = its.length := by omega
    rw [List.getElem?_append_right (Nat.le_refl _), Nat.sub_self] at hz
    obtain rfl : x = z := by simpa using hz
    obtain ⟨c, h1, h2, h3⟩ := hx hr
    exact ⟨c, h1, h2, fun y hy hne => (h3 y hy hne).at.mono hpre (Nat.le_refl _)⟩
theorem Rsn.take {C : Int → Option (List Int)} {its : List RIt} (h : Rsn C its) (n : Nat) : Rsn C (its.take n) := by
  intro p x hx hr
  have hp := (List.getElem?_eq_some_iff.1 hx).1
  rw [List.length_take] at hp
  rw [List.getElem?_take, if_pos (by omega)] at hx
  obtain ⟨c, h1, h2, h3⟩ := h p x hx hr
  refine ⟨c, h1, h2, fun y hy hne => ?_⟩
  obtain ⟨q, z, hq, hz, hl⟩ := h3 y hy hne
  exact ⟨q, z, hq, by rw [List.getElem?_take, if_pos (by omega)]; exact hz, hl⟩
/-- what a watch keeps that is propagated level by level: clauses C, what was assigned, the level that is now -/
structure HInv (C : Int → Option (List Int)) (its : List RIt) (now : Int) (S : Wst) : Prop where
  bnd : S.Bnd
  link : S.Link
  kn : ∀ id k, S.kn id = some k → ∃ c, C id = some c ∧ k.lits = eachL c
  two : ∀ id k c, S.kn id = some k → C id = some c → k.by_ = [] → alwL c = true ∨ k.lits.length ≤ 1
  alw : ∀ id k c, S.kn id = some k → C id = some c → alwL c = true → k.by_ = []
  w : ∀ id k a, S.kn id = some k → a ∈ k.by_ → ∀ (p : Nat) (x : RIt), p < S.looked → its[p]? = some x → x.lit = -a → ∃ (q : Nat) (y : RIt), its[q]? = some y ∧ y.lit = k.other a ∧ y.level ≤ x.level
  cur : ∀ (p : Nat) (x : RIt), S.looked ≤ p → its[p]? = some x → x.level = now
  len : S.looked ≤ its.length
  rs : Rsn C its
/-- a state in the midst of looking at a place: some IDs are done -/
structure HMid (C : Int → Option (List Int)) (its : List RIt) (now : Int) (S : Wst) (l : Int) (todo : List Int) : Prop where
  inv : HInv C its now S
  at_ : ∃ x, its[S.looked]? = some x ∧ x.lit = -l
  sub : ∀ id ∈ todo, id ∈ S.row l
  nd : todo.Nodup
  done : ∀ id k, S.kn id = some k → l ∈ k.by_ → id ∉ todo → Has its (k.other l)
theorem HInv.fit {C : Int → Option (List Int)} {now : Int} {S : Wst} (h : HInv C its now S) {id : Int} {k : Kn} (hk : S.kn id = some k) : ∀ y ∈ k.lits, litB y = true := (h.bnd.kn hk).2.2.2
theorem Kn.two_of {k : Kn} (h : k.by_ = [] ∨ ∃ a b, a ≠ b ∧ k.by_ = [a, b] ∧ a ∈ k.lits ∧ b ∈ k.lits) {l : Int} (hl : l ∈ k.by_) : ∃ a b, a ≠ b ∧ k.by_ = [a, b] ∧ a ∈ k.lits ∧ b ∈ k.lits := by
  rcases h with h | h
  · rw [h] at hl
    cases hl
  · exact h
theorem Kn.by_lits {k : Kn} (h : k.by_ = [] ∨ ∃ a b, a ≠ b ∧ k.by_ = [a, b] ∧ a ∈ k.lits ∧ b ∈ k.lits) {l : Int} (hl : l ∈ k.by_) : l ∈ k.lits := by
  obtain ⟨a, b, _, h2, ha, hb⟩ := Kn.two_of h hl
  rw [h2] at hl
  rcases List.mem_cons.1 hl with rfl | hl
  · exact ha
  · rw [List.mem_singleton.1 hl]
    exact hb
theorem looked_drop (S : Wst) (l id : Int) : (S.drop l id).looked = S.looked := by
  unfold Wst.drop
  split <;> rfl
theorem looked_move (S : Wst) (id l x : Int) (k : Kn) : (S.move id l x k).looked = S.looked := looked_drop S l id
/-- how one clause is looked at -/
inductive LookOut (A : Arn) (C : Int → Option (List Int)) (T : Trl) (its : List RIt) (S : Wst) (l id : Int) (todo : List Int) : Prop
  | goes (its' : List RIt) (T' : Trl) (S' : Wst) (he : lookOne A T S l id = (T', S', false)) (hs : Sim T' its') (hp : its <+: its') (hm : HMid C its' T.now S' l todo) (hn : T'.now = T.now) (hv : T'.vars.length = T.vars.length) (hl : S'.looked = S.looked)
  | fails (he : lookOne A T S l id = (T, S, true)) (hf : ∃ c, C id = some c ∧ ∀ y ∈ c, Has its (-y))
theorem look_one {A : Arn} {C : Int → Option (List Int)} {S : Wst} {l id : Int} {todo : List Int} (hs : Sim T its) (h : HMid C its T.now S l (id :: todo)) (hA : ∀ id k, S.kn id = some k → (A.find id).isSome = true) (hV : ∀ id c, C id = some c → ∀ y ∈ c, litV y < T.vars.length) :
    LookOut A C T its S l id todo := by
  have hm := h.sub id List.mem_cons_self
  obtain ⟨k, hk, hl⟩ := (h.inv.link l id).1 hm
  have hkb := h.inv.bnd.kn hk
  obtain ⟨c, hc, hkc⟩ := h.inv.kn id k hk
  obtain ⟨a, b, hab, hab2, _, _⟩ := Kn.two_of hkb.2.1 hl
  obtain ⟨o1, o2, o3⟩ := Kn.other_mem hab hab2 hl
  have hol := Kn.by_lits hkb.2.1 o1
  have hll := Kn.by_lits hkb.2.1 hl
  have hob := hkb.2.2.2 _ hol
  have hlb := hkb.2.2.2 _ hll
  obtain ⟨x0, hx0, hx0l⟩ := h.at_
  have hnd := List.nodup_cons.1 h.nd
  have e0 : lookOne A T S l id = if T.tru (k.other l) = true then (T, S, false) else match k.next T l with
      | some x => (T, S.move id l x k, false)
      | none => if T.fal (k.other l) = true then (T, S, true) else (T.assigned (k.other l) id, S, false) := by
    unfold lookOne
    rw [if_neg (by rw [hA id k hk]; decide), hk]
    rfl
  have rest : ∀ j ∈ todo, j ∈ S.row l := fun j hj => h.sub j (List.mem_cons_of_mem _ hj)
  by_cases ht : T.tru (k.other l) = true
  · rw [if_pos ht] at e0
    refine .goes its T S e0 hs (List.prefix_refl _) ⟨h.inv, h.at_, rest, hnd.2, fun j k' hk' hl' hj => ?_⟩ rfl rfl rfl
    by_cases hji : j = id
    · subst hji
      rw [hk] at hk'
      obtain rfl := Option.some.inj hk'
      exact (hs.tru_iff hob).1 ht
    · exact h.done j k' hk' hl' (by simp [hji, hj])
  · rw [if_neg ht] at e0
    cases hnx : k.next T l with
    | some x =>
      rw [hnx] at e0
      have h1 := List.mem_of_find?_eq_some hnx
      have h2 := List.find?_some hnx
      rw [Bool.and_eq_true, decide_eq_true_eq] at h2
      obtain ⟨⟨hxl, hxo⟩, hxf⟩ := h2
      have hxf' : T.fal x = false := by simpa using hxf
      obtain ⟨m1, m2, m3, m4, m5, m6⟩ := move_ok h.inv.bnd h.inv.link hk hl h1 hxl hxo
      have hmv := Kn.move_mem (l := l) x hab2
      have hxb := hkb.2.2.2 x h1
      have knM : ∀ j k', (S.move id l x k).kn j = some k' → (j = id ∧ k' = k.move l x) ∨ (j ≠ id ∧ S.kn j = some k') := fun j k' hk' => by
        rw [m6] at hk'
        split at hk'
        · rename_i e
          exact .inl ⟨e, (Option.some.inj hk').symm⟩
        · rename_i e
          exact .inr ⟨e, hk'⟩
      have hbm : (k.move l x).by_ ≠ [] := fun e => by
        have := (hmv x).2 (.inl rfl)
        rw [e] at this
        cases this
      refine .goes its T _ e0 hs (List.prefix_refl _) ⟨⟨m4, m5, fun j k' hk' => ?_, fun j k' c' hk' hc' hb' => ?_, fun j k' c' hk' hc' ha' => ?_, fun j k' a' hk' ha' p z hp hz hzl => ?_, fun p z hp hz => h.inv.cur p z (by rwa [looked_move] at hp) hz, by rw [looked_move]; exact h.inv.len, h.inv.rs⟩, by rw [looked_move]; exact h.at_, fun j hj => ?_, hnd.2, fun j k' hk' hl' hj => ?_⟩ rfl rfl (looked_move _ _ _ _ _)
      · rcases knM j k' hk' with ⟨rfl, rfl⟩ | ⟨_, hk''⟩
        · exact ⟨c, hc, hkc⟩
        · exact h.inv.kn j k' hk''
      · rcases knM j k' hk' with ⟨rfl, rfl⟩ | ⟨_, hk''⟩
        · exact absurd hb' hbm
        · exact h.inv.two j k' c' hk'' hc' hb'
      · rcases knM j k' hk' with ⟨rfl, rfl⟩ | ⟨_, hk''⟩
        · have := h.inv.alw j k c' hk hc' ha'
          rw [this] at hl
          cases hl
        · exact h.inv.alw j k' c' hk'' hc' ha'
      · rcases knM j k' hk' with ⟨rfl, rfl⟩ | ⟨_, hk''⟩
        · rcases (hmv a').1 ha' with rfl | rfl
          · -- x is not false
            exact absurd ((hs.fal_iff hxb).2 ⟨p, z, hz, hzl⟩) (by rw [hxf']; decide)
          · -- the other one is not false before: l would be true
            have hp' : p < S.looked := by rwa [looked_move] at hp
            obtain ⟨q, y, hq, hyl, _⟩ := h.inv.w j k (k.other l) hk o1 p z hp' hz hzl
            have hoo : k.other (k.other l) = l := by
              obtain ⟨_, h5, h6⟩ := Kn.other_mem hab hab2 o1
              rcases (h6 l).1 hl with e | e
              · exact absurd e (Ne.symm o2)
              · exact e.symm
            rw [hoo] at hyl
            -- l is false and true
            have hf := (hs.fal_iff hlb).2 ⟨_, x0, hx0, hx0l⟩
            have htt := (hs.tru_iff hlb).2 ⟨q, y, hq, hyl⟩
            unfold Trl.fal at hf
            unfold Trl.tru at htt
            rw [decide_eq_true_eq] at hf htt
            omega
        · exact h.inv.w j k' a' hk'' ha' p z (by rwa [looked_move] at hp) hz hzl
      · have hne : j ≠ id := fun e => hnd.1 (e ▸ hj)
        rw [m5 l j, m6, if_neg hne]
        exact (h.inv.link l j).1 (rest j hj)
      · rcases knM j k' hk' with ⟨rfl, rfl⟩ | ⟨hne, hk''⟩
        · rcases (hmv l).1 hl' with e | e
          · exact absurd e.symm hxl
          · exact absurd e.symm o2
        · exact h.done j k' hk'' hl' (by simp [hne, hj])
    | none =>
      rw [hnx] at e0
      simp only [] at e0
      have hall : ∀ y ∈ k.lits, y ≠ k.other l → Has its (-y) := fun y hy hne => by
        by_cases hyl : y = l
        · rw [hyl]
          exact ⟨_, x0, hx0, hx0l⟩
        · have := List.find?_eq_none.1 hnx y hy
          simp only [ne_eq, Bool.and_eq_true, decide_eq_true_eq, Bool.not_eq_true', not_and, Bool.not_eq_false] at this
          exact (hs.fal_iff (hkb.2.2.2 y hy)).1 (this ⟨hyl, hne⟩)
      by_cases hf : T.fal (k.other l) = true
      · rw [if_pos hf] at e0
        refine .fails e0 ⟨c, hc, fun y hy => ?_⟩
        have hyk : y ∈ k.lits := by rw [hkc, eachL_mem]; exact hy
        by_cases hyo : y = k.other l
        · rw [hyo]
          exact (hs.fal_iff hob).1 hf
        · exact hall y hyk hyo
      · rw [if_neg hf] at e0
        have hoc : k.other l ∈ c := by rw [← eachL_mem, ← hkc]; exact hol
        have hae := assign_ok (T := T) hob (hV id c hc _ hoc) (r := id) (by omega) (by simpa using hf) (by simpa using ht)
        have hs' := hs.snoc hae
        have hpre : its <+: its ++ [(⟨k.other l, id, T.now⟩ : RIt)] := ⟨_, rfl⟩
        refine .goes _ _ S e0 hs' hpre ⟨⟨h.inv.bnd, h.inv.link, h.inv.kn, h.inv.two, h.inv.alw, fun j k' a' hk' ha' p z hp hz hzl => ?_, fun p z hp hz => ?_, ?_, ?_⟩, ⟨x0, pre_get hpre hx0, hx0l⟩, rest, hnd.2, fun j k' hk' hl' hj => ?_⟩ (assigned_now _ _ _) (assigned_vars _ _ _) rfl
        · have hpl : p < its.length := Nat.lt_of_lt_of_le hp h.inv.len
          rw [List.getElem?_append_left hpl] at hz
          obtain ⟨q, y, hq, h3⟩ := h.inv.w j k' a' hk' ha' p z hp hz hzl
          exact ⟨q, y, pre_get hpre hq, h3⟩
        · rcases Nat.lt_or_ge p its.length with hpl | hpl
          · rw [List.getElem?_append_left hpl] at hz
            exact h.inv.cur p z hp hz
          · have h1 := (List.getElem?_eq_some_iff.1 hz).1
            rw [List.length_append, List.length_singleton] at h1
            obtain rfl : p = its.length := by omega
            rw [List.getElem?_append_right (Nat.le_refl _), Nat.sub_self] at hz
            obtain rfl : _ = z := by simpa using hz
            rfl
        · have := h.inv.len
          simp
          omega
        · refine h.inv.rs.snoc (fun _ => ⟨c, hc, hoc, fun y hy hne => ?_⟩)
          exact hall y (by rw [hkc, eachL_mem]; exact hy) hne
        · by_cases hji : j = id
          · subst hji
            rw [hk] at hk'
            obtain rfl := Option.some.inj hk'
            exact ⟨its.length, ⟨k.other l, j, T.now⟩, by rw [List.getElem?_append_right (Nat.le_refl _), Nat.sub_self]; rfl, rfl⟩
          · obtain ⟨p, z, hz, hzl⟩ := h.done j k' hk' hl' (by simp [hji, hj])
            exact ⟨p, z, pre_get hpre hz, hzl⟩
theorem lookGo_cons (A : Arn) (T : Trl) (S : Wst) (l id : Int) (r : List Int) : lookGo A T S l (id :: r) = if (lookOne A T S l id).2.2 = true then ((lookOne A T S l id).1, (lookOne A T S l id).2.1, some id) else lookGo A (lookOne A T S l id).1 (lookOne A T S l id).2.1 l r := rfl
/-- how a place is looked at -/
inductive PlaceOut (A : Arn) (C : Int → Option (List Int)) (T : Trl) (its : List RIt) (S : Wst) (l : Int) (ids : List Int) : Prop
  | goes (its' : List RIt) (T' : Trl) (S' : Wst) (he : lookGo A T S l ids = (T', S', none)) (hs : Sim T' its') (hp : its <+: its') (hm : HMid C its' T.now S' l []) (hn : T'.now = T.now) (hv : T'.vars.length = T.vars.length) (hl : S'.looked = S.looked)
  | fails (its' : List RIt) (T' : Trl) (S' : Wst) (id : Int) (he : lookGo A T S l ids = (T', S', some id)) (hs : Sim T' its') (hp : its <+: its') (hm : HInv C its' T.now S') (hn : T'.now = T.now) (hv : T'.vars.length = T.vars.length) (hl : S'.looked = S.looked) (hf : ∃ c, C id = some c ∧ ∀ y ∈ c, Has its' (-y))
theorem known_move {S : Wst} {id l x : Int} {k : Kn} (h : S.Bnd) (hL : S.Link) (hk : S.kn id = some k) (hl : l ∈ k.by_) (hx : x ∈ k.lits) (hxl : x ≠ l) (hxo : x ≠ k.other l) (j : Int) : ((S.move id l x k).kn j).isSome = (S.kn j).isSome := by
  rw [(move_ok h hL hk hl hx hxl hxo).2.2.2.2.2]
  split
  · rename_i e
    rw [e, hk]
    rfl
  · rfl
theorem lookOne_known (A : Arn) (T : Trl) {S : Wst} (h : S.Bnd) (hL : S.Link) {l id : Int} (hm : id ∈ S.row l) (hA : (A.find id).isSome = true) (j : Int) : ((lookOne A T S l id).2.1.kn j).isSome = (S.kn j).isSome := by
  obtain ⟨k, hk, hl⟩ := (hL l id).1 hm
  unfold lookOne
  rw [if_neg (by rw [hA]; decide), hk]
  simp only []
  split
  · rfl
  · split
    · rename_i x hx
      have h1 := List.mem_of_find?_eq_some hx
      have h2 := List.find?_some hx
      rw [Bool.and_eq_true, decide_eq_true_eq] at h2
      exact known_move h hL hk hl h1 h2.1.1 h2.1.2 j
    · split <;> rfl
theorem look_place {A : Arn} {C : Int → Option (List Int)} (hV0 : Nat) (hV : ∀ id c, C id = some c → ∀ y ∈ c, litV y < hV0) {l : Int} (ids : List Int) : ∀ {T : Trl} {its : List RIt} {S : Wst}, T.vars.length = hV0 → Sim T its → HMid C its T.now S l ids → (∀ id k, S.kn id = some k → (A.find id).isSome = true) →
    PlaceOut A C T its S l ids := by
  induction ids with
  | nil => exact fun {T its S} _ hs h _ => .goes its T S rfl hs (List.prefix_refl _) h rfl rfl rfl
  | cons id r ih =>
    intro T its S hV1 hs h hA
    have hm := h.sub id List.mem_cons_self
    have hkn := lookOne_known A T h.inv.bnd h.inv.link hm (by
      obtain ⟨k, hk, _⟩ := (h.inv.link l id).1 hm
      exact hA id k hk)
    rcases look_one hs h hA (by rw [hV1]; exact hV) with ⟨its', T', S', he, hs', hp, hm', hn, hv, hl⟩ | ⟨he, hf⟩
    · have e1 : lookGo A T S l (id :: r) = lookGo A T' S' l r := by
        rw [lookGo_cons, he]
        exact if_neg (show ¬ false = true by decide)
      rw [he] at hkn
      have hA' : ∀ id k, S'.kn id = some k → (A.find id).isSome = true := fun j k' hk' => by
        have h2 := hkn j
        rw [show (T', S', false).2.1.kn j = some k' from hk'] at h2
        obtain ⟨k2, hk2⟩ := Option.isSome_iff_exists.1 (h2.symm.trans rfl)
        exact hA j k2 hk2
      rw [← hn] at hm'
      rcases ih (hv.trans hV1) hs' hm' hA' with ⟨its2, T2, S2, he2, hs2, hp2, hm2, hn2, hv2, hl2⟩ | ⟨its2, T2, S2, id2, he2, hs2, hp2, hm2, hn2, hv2, hl2, hf2⟩
      · exact .goes its2 T2 S2 (e1.trans he2) hs2 (hp.trans hp2) (hn ▸ hm2) (hn2.trans hn) (hv2.trans hv) (hl2.trans hl)
      · exact .fails its2 T2 S2 id2 (e1.trans he2) hs2 (hp.trans hp2) (hn ▸ hm2) (hn2.trans hn) (hv2.trans hv) (hl2.trans hl) hf2
    · refine .fails its T S id ?_ hs (List.prefix_refl _) h.inv rfl rfl rfl hf
      rw [lookGo_cons, he]
      exact if_pos rfl
/-- a place that was looked at -/
theorem HMid.step {C : Int → Option (List Int)} {its : List RIt} {now : Int} {S : Wst} {l : Int} (h : HMid C its now S l []) (hlev : ∀ x ∈ its, x.level ≤ now) : HInv C its now S.step := by
  obtain ⟨x0, hx0, hx0l⟩ := h.at_
  refine ⟨⟨h.inv.bnd.kr, h.inv.bnd.kb, h.inv.bnd.kl, h.inv.bnd.orr, h.inv.bnd.ob⟩, h.inv.link, h.inv.kn, h.inv.two, h.inv.alw, fun id k a hk ha p x hp hx hxl => ?_, fun p x hp hx => h.inv.cur p x (Nat.le_of_succ_le hp) hx, (List.getElem?_eq_some_iff.1 hx0).1, h.inv.rs⟩
  have hp' : p < S.looked + 1 := hp
  rcases Nat.lt_or_ge p S.looked with hlt | hge
  · exact h.inv.w id k a hk ha p x hlt hx hxl
  · obtain rfl : p = S.looked := by omega
    rw [hx0] at hx
    obtain rfl := Option.some.inj hx
    have hal : a = l := by omega
    rw [hal] at ha ⊢
    obtain ⟨q, y, hq, hyl⟩ := h.done id k hk ha (by simp)
    refine ⟨q, y, hq, hyl, ?_⟩
    rw [h.inv.cur _ _ (Nat.le_refl _) hx0]
    exact hlev y (List.mem_of_getElem? hq)
inductive PropOut (A : Arn) (C : Int → Option (List Int)) (T : Trl) (its : List RIt) (S : Wst) (n : Nat) : Prop
  | goes (its' : List RIt) (T' : Trl) (S' : Wst) (he : propGo A n T S = (T', S', none)) (hs : Sim T' its') (hp : its <+: its') (hm : HInv C its' T.now S') (hn : T'.now = T.now) (hv : T'.vars.length = T.vars.length) (hl : S'.looked = its'.length)
  | fails (its' : List RIt) (T' : Trl) (S' : Wst) (id : Int) (he : propGo A n T S = (T', S', some id)) (hs : Sim T' its') (hp : its <+: its') (hm : HInv C its' T.now S') (hn : T'.now = T.now) (hv : T'.vars.length = T.vars.length) (hf : ∃ c, C id = some c ∧ ∀ y ∈ c, Has its' (-y))
theorem lookGo_known (A : Arn) {l : Int} (ids : List Int) : ∀ {T : Trl} {S : Wst}, S.Bnd → S.Link → (∀ id ∈ ids, id ∈ S.row l) → ids.Nodup → (∀ id k, S.kn id = some k → (A.find id).isSome = true) → ∀ j, ((lookGo A T S l ids).2.1.kn j).isSome = (S.kn j).isSome := by
  induction ids with
  | nil => exact fun _ _ _ _ _ j => rfl
  | cons id r ih =>
    intro T S hb hL hsub hnd hA j
    have hm := hsub id List.mem_cons_self
    have hok := lookOne_ok A T hb hL hm
    have hkn := lookOne_known A T hb hL hm (by
      obtain ⟨k, hk, _⟩ := (hL l id).1 hm
      exact hA id k hk)
    unfold lookGo
    split
    · exact hkn j
    · have hn2 := List.nodup_cons.1 hnd
      rw [ih hok.1 hok.2 (fun i hi => lookOne_row A T hb hL hm (hsub i (List.mem_cons_of_mem _ hi)) (fun e => hn2.1 (e ▸ hi))) hn2.2 (fun i k hk => ?_)]
      · exact hkn j
      · have h2 := hkn i
        rw [hk] at h2
        obtain ⟨k2, hk2⟩ := Option.isSome_iff_exists.1 (h2.symm.trans rfl)
        exact hA i k2 hk2
theorem up_nodup {r : List Int} (h : r.Pairwise (· < ·)) : r.Nodup := h.imp (fun h e => by omega)
theorem prop_go {A : Arn} {C : Int → Option (List Int)} (hV0 : Nat) (hV : ∀ id c, C id = some c → ∀ y ∈ c, litV y < hV0) (n : Nat) : ∀ {T : Trl} {its : List RIt} {S : Wst}, T.vars.length = hV0 → Sim T its → HInv C its T.now S → (∀ id k, S.kn id = some k → (A.find id).isSome = true) → hV0 < n + S.looked + 1 →
    PropOut A C T its S n := by
  induction n with
  | zero =>
    intro T its S hV1 hs h _ hn
    refine .goes its T S rfl hs (List.prefix_refl _) h rfl rfl ?_
    have h1 := h.len
    rcases hs.len with h2 | h2
    · omega
    · rw [h2] at h1 ⊢
      simp at h1 ⊢
      exact h1
  | succ n ih =>
    intro T its S hV1 hs h hA hn
    cases hy : T.order[S.looked]? with
    | none =>
      have e : propGo A (n + 1) T S = (T, S, none) := by
        unfold propGo
        rw [hy]
      refine .goes its T S e hs (List.prefix_refl _) h rfl rfl ?_
      rw [hs.order, List.getElem?_map, Option.map_eq_none_iff, List.getElem?_eq_none_iff] at hy
      have := h.len
      omega
    | some y =>
      have hy2 := hy
      rw [hs.order, List.getElem?_map] at hy
      cases hx : its[S.looked]? with
      | none => rw [hx] at hy; cases hy
      | some x =>
        rw [hx] at hy
        obtain rfl : x.lit = y := by simpa using hy
        have hxb := hs.litb (List.mem_of_getElem? hx)
        have hln : litN x.lit = -x.lit := by unfold litN; rw [if_pos hxb]
        have hrow := h.bnd.row (litN x.lit)
        have hmid : HMid C its T.now S (litN x.lit) (S.row (litN x.lit)) := ⟨h, ⟨x, hx, by rw [hln]; omega⟩, fun id hid => hid, up_nodup hrow.1, fun id k hk hl hid => absurd ((h.link _ _).2 ⟨k, hk, hl⟩) hid⟩
        have hkn := lookGo_known A (T := T) (S.row (litN x.lit)) h.bnd h.link (fun id hid => hid) (up_nodup hrow.1) hA
        rcases look_place (A := A) hV0 hV _ hV1 hs hmid hA with ⟨its', T', S', he, hs', hp, hm', hn', hv, hl⟩ | ⟨its', T', S', id, he, hs', hp, hm', hn', hv, hl, hf⟩
        · have e1 : propGo A (n + 1) T S = propGo A n T' S'.step := by
            conv => lhs; unfold propGo
            rw [hy2]
            simp only []
            rw [he]
          have hst := hm'.step (fun z hz => by rw [← hn']; exact (hs'.lev z hz).2)
          rw [← hn'] at hst
          rw [he] at hkn
          have hA' : ∀ id k, S'.step.kn id = some k → (A.find id).isSome = true := fun j k' hk' => by
            have h2 := hkn j
            rw [show (T', S', (none : Option Int)).2.1.kn j = some k' from hk'] at h2
            obtain ⟨k2, hk2⟩ := Option.isSome_iff_exists.1 (h2.symm.trans rfl)
            exact hA j k2 hk2
          have hlk : S'.step.looked = S.looked + 1 := by rw [← hl]; rfl
          rcases ih (hv.trans hV1) hs' hst hA' (by rw [hlk]; omega) with ⟨its2, T2, S2, he2, hs2, hp2, hm2, hn2, hv2, hl2⟩ | ⟨its2, T2, S2, id2, he2, hs2, hp2, hm2, hn2, hv2, hf2⟩
          · exact .goes its2 T2 S2 (e1.trans he2) hs2 (hp.trans hp2) (hn' ▸ hm2) (hn2.trans hn') (hv2.trans hv) hl2
          · exact .fails its2 T2 S2 id2 (e1.trans he2) hs2 (hp.trans hp2) (hn' ▸ hm2) (hn2.trans hn') (hv2.trans hv) hf2
        · refine .fails its' T' S' id ?_ hs' hp hm' hn' hv hf
          unfold propGo
          rw [hy2]
          simp only []
          rw [he]
end Go.Proofs.YtoojmhjagipmdaaGreat
namespace Go.Proofs.YtoojmhjagipmdaaGreat
open Go.RowKit Go.Lib Go.Shelf Go.Sort

theorem own_of_cells {w : World} {base g n cap : Nat} {e : TypeId} {cur : Array Value} {xs : List Value} (hg : w.heap[g]? = some (.cells cur e (0, 0))) (hb : base ≤ g) (hn : n ≤ cap) (hc : cap ≤ maxLen) (hs : cur.size = cap) (hl : xs.length = n)
    (hx : ∀ j x, xs[j]? = some x → w.cell? ⟨g, j, none⟩ = some x) : w.ownsRow base e 1 (.slice (some ⟨g, 0, none⟩) n cap) n xs := by
  refine ⟨by omega, .inr ⟨g, cap, cur, rfl, hb, hg, hn, hc, by omega, ?_⟩⟩
  rw [Nat.mul_one]
  apply List.ext_getElem?
  intro j
  rw [List.getElem?_take]
  by_cases hj : j < n
  · rw [if_pos hj]
    have hjx : xs[j]? = some xs[j] := List.getElem?_eq_getElem (by omega)
    have := hx j _ hjx
    rw [mx_cell hg] at this
    rw [hjx, Array.getElem?_toList]
    exact this
  · rw [if_neg hj, List.getElem?_eq_none (by omega)]
theorem block_setCells {g : Nat} {e : TypeId} {fz : Nat × Nat} (vs : List Value) : ∀ (o : Nat) (w : World) (cur : Array Value), w.heap[g]? = some (.cells cur e fz) → ∃ cur', (w.setCells g o vs).heap[g]? = some (.cells cur' e fz) ∧ cur'.size = cur.size := by
  induction vs with
  | nil => exact fun o w cur h => ⟨cur, h, rfl⟩
  | cons v r ih =>
    intro o w cur h
    obtain ⟨c', h1, h2⟩ := ih (o + 1) (w.setCell ⟨g, o, none⟩ v) _ (mx_set h v)
    exact ⟨c', h1, by rw [h2]; simp⟩
theorem kept_setCells (w : World) (g o : Nat) (vs : List Value) : Kept (fun k => k = g) w (w.setCells g o vs) := by
  induction vs generalizing o w with
  | nil => exact Kept.refl _ _
  | cons v r ih => exact (Kept.setCell (Kept.refl (fun k => k = g) w) _ _ rfl).trans (ih _ _) (fun _ _ h => h)
theorem ints_one (r : List Int) : ∀ v ∈ r.map (Value.int .i64), v.oneCell' = true := fun v hv => by
  obtain ⟨x, _, rfl⟩ := List.mem_map.1 hv
  rfl
/-- where a number belongs in a rising row -/
theorem row_search {base : Nat} (v : Value) (r : List Int) (x : Int) (w : World) (h : w.ownsRow base 3 1 v r.length (r.map (Value.int .i64))) (hr : r.Pairwise (· < ·)) (hl : r.length ≤ 1073741824) :
    Calls Tryz.prog 148 #[v, .int .i64 x] w fun e w' => e = .returned (.tuple #[.int .i64 (r.countP (· < x) : Nat), .bool (r.contains x)]) ∧ ∃ q, w' = w.drewN q := by
  rcases h.2 with ⟨rfl, h0⟩ | ⟨g, cap, cur, rfl, hb, hg, h1, h2, h3, h4⟩
  · obtain rfl : r = [] := List.eq_nil_of_length_eq_zero h0
    refine (Tryz.slices_BinarySearch_int_empty none 0 x w).mono ?_
    rintro e w' ⟨rfl, rfl⟩
    exact ⟨rfl, 0, rfl⟩
  · refine (Tryz.slices_BinarySearch_int g 0 r.length cap r x w (Nat.le_refl _) (by omega) (fun j hj => ?_) ?_).mono ?_
    · rw [Nat.zero_add]
      refine mx_at h ?_
      rw [List.getElem?_map, List.getElem?_eq_getElem hj]
      simp [List.getD_eq_getElem?_getD, List.getElem?_eq_getElem hj]
    · rw [List.take_length]
      exact hr.imp (fun h => Int.le_of_lt h)
    · rintro e w' ⟨rfl, hq⟩
      rw [List.take_length]
      exact ⟨rfl, hq⟩
theorem row_delete {base : Nat} (v : Value) (r : List Int) (i : Nat) (w : World) (h : w.ownsRow base 3 1 v r.length (r.map (Value.int .i64))) (hi : i < r.length) :
    Calls Tryz.prog 176 #[v, .int .i64 (i : Nat), .int .i64 ((i : Int) + 1)] w fun e w' => ∃ v', e = .returned v' ∧ w'.ownsRow base 3 1 v' (r.length - 1) ((r.eraseIdx i).map (Value.int .i64)) ∧ Kept (fun g => v.ownBlock = some g) w w' ∧ v'.ownBlock = v.ownBlock := by
  rcases h.2 with ⟨rfl, h0⟩ | ⟨g, cap, cur, rfl, hb, hg, h1, h2, h3, h4⟩
  · omega
  · have hle : (r.eraseIdx i).length = r.length - 1 := by rw [List.length_eraseIdx, if_pos hi]
    have H := Tryz.slices_Delete_int g 0 cap i (i + 1) r w (st_holds hg (by simpa using h4)) h1 h2 (by omega) (by omega)
    rw [show ((i + 1 : Nat) : Int) = (i : Int) + 1 from by omega] at H
    refine H.mono ?_
    rintro e w' ⟨rfl, q, rfl⟩
    have e1 : i + 1 - i = 1 := by omega
    rw [e1, ← List.eraseIdx_eq_take_drop_succ]
    refine ⟨_, rfl, ?_, st_kept1 _, rfl⟩
    refine ⟨by simp [hle], .inr ⟨g, cap, _, rfl, hb, st_heap1 _ hg, by omega, h2, by simp [putCells, h3], ?_⟩⟩
    have ht := st_take cur (r.eraseIdx i ++ [0]) (by rw [List.length_append, hle, List.length_singleton]; omega)
    have e2 : (r.length - 1) * 1 = (r.eraseIdx i).length := by rw [hle, Nat.mul_one]
    rw [e2]
    have e3 := congrArg (List.take (r.eraseIdx i).length) ht
    rw [List.take_take, Nat.min_eq_left (by simp)] at e3
    rw [show List.replicate 1 (0 : Int) = [0] from rfl, e3, List.map_append, List.take_append_of_le_length (by simp), List.take_of_length_le (by simp)]
theorem insI_get {r : List Int} {x : Int} {i : Nat} (hi : r.countP (· < x) = i) (hil : i ≤ r.length) (j : Nat) : (insI r x)[j]? = if j < i then r[j]? else if j = i then some x else r[j - 1]? := by
  unfold insI
  rw [hi]
  have hl : (r.take i).length = i := by rw [List.length_take]; omega
  by_cases h1 : j < i
  · rw [if_pos h1, List.getElem?_append_left (by omega), List.getElem?_take, if_pos h1]
  · rw [if_neg h1, List.getElem?_append_right (by omega), hl]
    by_cases h2 : j = i
    · rw [if_pos h2, h2, Nat.sub_self]
      rfl
    · rw [if_neg h2]
      obtain ⟨k, hk⟩ : ∃ k, j - i = k + 1 := ⟨j - i - 1, by omega⟩
      rw [hk, List.getElem?_cons_succ, List.getElem?_drop]
      congr 1
      omega
/-- rows in which a number was put in, by what their cells hold -/
theorem own_insI {w : World} {base g n cap i : Nat} {cur : Array Value} {r : List Int} {x : Int} (hg : w.heap[g]? = some (.cells cur 3 (0, 0))) (hb : base ≤ g) (hn : r.length + 1 ≤ cap) (hc : cap ≤ maxLen) (hs : cur.size = cap) (hrn : r.length = n) (hi : r.countP (· < x) = i) (hil : i ≤ n)
    (h1 : ∀ j y, j < i → r[j]? = some y → w.cell? ⟨g, j, none⟩ = some (.int .i64 y)) (h2 : w.cell? ⟨g, i, none⟩ = some (.int .i64 x)) (h3 : ∀ j y, i ≤ j → r[j]? = some y → w.cell? ⟨g, j + 1, none⟩ = some (.int .i64 y)) :
    w.ownsRow base 3 1 (.slice (some ⟨g, 0, none⟩) (n + 1) cap) (n + 1) ((insI r x).map (Value.int .i64)) := by
  refine own_of_cells hg hb (by omega) hc hs (by rw [List.length_map, insI_length]; omega) (fun j u hu => ?_)
  rw [List.getElem?_map, Option.map_eq_some_iff] at hu
  obtain ⟨y, hy, rfl⟩ := hu
  rw [insI_get hi (by omega)] at hy
  split at hy
  · rename_i hj
    exact h1 j y hj hy
  · split at hy
    · rename_i hj
      rw [hj, h2, Option.some.inj hy]
    · rename_i hj hj2
      have := h3 (j - 1) y (by omega) hy
      rwa [show j - 1 + 1 = j by omega] at this
theorem zero_size (k : Nat) : (Builtin.zeroCells (Value.int .i64 0).cells k).size = k := by
  show (Builtin.zeroCells #[Value.int .i64 0] k).size = k
  simp [Builtin.zeroCells]
theorem row_insert {base vb : Nat} (v : Value) (r : List Int) (x : Int) (w : World) (h : w.ownsRow base 3 1 v r.length (r.map (Value.int .i64))) (hbase : base ≤ w.heap.size) (hvb : w.heap[vb]? = some (.cells #[.int .i64 x] 3 (0, 0))) (hne : v.ownBlock ≠ some vb) (hl : r.length ≤ 1073741824) :
    Calls Tryz.prog 149 #[v, .int .i64 (r.countP (· < x) : Nat), .slice (some ⟨vb, 0, none⟩) 1 1] w fun e w' => ∃ v', e = .returned v' ∧ w'.ownsRow base 3 1 v' (r.length + 1) ((insI r x).map (Value.int .i64)) ∧ Kept (fun g => v.ownBlock = some g) w w' ∧ (v'.ownBlock = v.ownBlock ∨ v'.ownBlock = some w.heap.size) := by
  have hvs : ∀ (W : World), Below w.heap.size w W → ∀ j u, [Value.int .i64 x][j]? = some u → W.cell? ⟨vb, 0 + j, none⟩ = some u := fun W hW j u hu => by
    match j, hu with
    | 0, hu =>
      rw [(hW.cell (p := ⟨vb, 0 + 0, none⟩) (heap_lt hvb)), mx_cell hvb]
      exact hu
  have hvs0 := hvs w (Below.refl _ _)
  have h1v : ∀ u ∈ [Value.int .i64 x], u.oneCell' = true := fun u hu => by rw [List.mem_singleton.1 hu]; rfl
  obtain ⟨i, hi⟩ : ∃ i, r.countP (· < x) = i := ⟨_, rfl⟩
  have hil : i ≤ r.length := by rw [← hi]; exact countP_le_len r x
  obtain ⟨n, hn⟩ : ∃ n, r.length = n := ⟨_, rfl⟩
  have hget : ∀ j y, r[j]? = some y → (r.map (Value.int .i64))[j]? = some (Value.int .i64 y) := fun j y hj => by rw [List.getElem?_map, hj]; rfl
  have hml : (r.map (Value.int .i64)).length = n := by rw [List.length_map, hn]
  rw [hi]
  rw [hn] at h hl hil ⊢
  -- a new block, all of its cells written
  have fresh : ∀ (W : World) (cur : Array Value) (c : Nat), W.heap[w.heap.size]? = some (.cells cur 3 (0, 0)) → cur.size = c → n + 1 ≤ c → c ≤ maxLen → (∀ j y, j < i → r[j]? = some y → W.cell? ⟨w.heap.size, j, none⟩ = some (.int .i64 y)) → W.cell? ⟨w.heap.size, i, none⟩ = some (.int .i64 x) → (∀ j y, i ≤ j → r[j]? = some y → W.cell? ⟨w.heap.size, j + 1, none⟩ = some (.int .i64 y)) →
      W.ownsRow base 3 1 (.slice (some ⟨w.heap.size, 0, none⟩) (n + 1) c) (n + 1) ((insI r x).map (Value.int .i64)) := fun W cur c hW hs hc hm h1 h2 h3 =>
    own_insI hW hbase (by omega) hm hs hn hi hil h1 h2 h3
  rcases h.2 with ⟨rfl, h0⟩ | ⟨g, cap, cur, rfl, hb, hg, h1, h2, h3, h4⟩
  · obtain rfl : r = [] := List.eq_nil_of_length_eq_zero (by omega)
    obtain rfl : n = 0 := by rw [← hn]; rfl
    obtain rfl : i = 0 := by omega
    have H := Tryz.slices_Insert_int_end_grow none 0 0 vb 0 1 1 [] [.int .i64 x] w (by omega) (by omega) (by omega) (by decide) rfl rfl (fun _ => rfl) (fun a ha => by cases ha) hvs0 h1v
    refine H.mono ?_
    rintro e w' ⟨rfl, rfl⟩
    have hge := grownCap_ge w 1 0 3
    have hmx := grownCap_le_maxLen w 1 0 3 (by unfold maxLen; omega)
    refine ⟨_, rfl, ?_, (Kept.drew (Kept.refl _ w) 1).alloc _, .inr rfl⟩
    refine fresh _ _ _ (World.alloc_heap_new w.drew _) ?_ hge hmx (fun j y hj => by omega) ?_ (fun j y _ hj => by simp at hj)
    · rw [Array.size_append, zero_size]
      simp
      omega
    · rw [show w.heap.size = w.drew.heap.size from rfl, cell_new, Array.getElem?_append_left (by simp)]
      rfl
  · have hcell : ∀ (W : World), Below w.heap.size w W → ∀ j y, r[j]? = some y → W.cell? ⟨g, j, none⟩ = some (.int .i64 y) := fun W hW j y hj => (hW.cell (p := ⟨g, j, none⟩) (heap_lt hg)).trans (mx_at h (hget j y hj))
    have hcs : ∀ j u, (r.map (Value.int .i64))[j]? = some u → w.cell? ⟨g, 0 + j, none⟩ = some u := fun j u hu => by rw [Nat.zero_add]; exact mx_at h hu
    have hsp : ∀ j, j < cap → (w.cell? ⟨g, j, none⟩).isSome = true := fun j hj => by
      rw [mx_cell hg, Array.getElem?_eq_getElem (by omega)]
      rfl
    have hfz : ∀ j, w.frozen? ⟨g, j, none⟩ = false := fun j => by simp [World.frozen?, hg]
    have hgv : vb ≠ g := fun e => hne (by rw [e]; rfl)
    by_cases hin : i < n
    · by_cases hroom : n + 1 ≤ cap
      · have H := Tryz.slices_Insert_int_shift g 0 n cap i vb 0 1 1 (r.map (Value.int .i64)) [.int .i64 x] w hin (by omega) hroom (by unfold maxLen at h2; omega) hgv hml rfl hcs (fun j hj => by rw [Nat.zero_add]; exact hsp j (by omega)) (fun j _ => by rw [Nat.zero_add]; exact hfz j) hvs0 (ints_one r) h1v 3 3 1 cap (by simp [World.shape?, hvb]) (by simp [World.shape?, hg]; omega) (by omega) (by simp [World.frozen?, hvb]) (by simp [World.frozen?, hvb])
        refine H.mono ?_
        rintro e w' ⟨rfl, rfl⟩
        obtain ⟨c1, hc1, hs1⟩ := block_setCells ((r.map (Value.int .i64)).drop i) (0 + (i + 1)) w.drew cur hg
        obtain ⟨c2, hc2, hs2⟩ := block_setCells [Value.int .i64 x] (0 + i) _ c1 hc1
        have hdl : ((r.map (Value.int .i64)).drop i).length = n - i := by rw [List.length_drop, hml]
        have q1 : ∀ j, j < ((r.map (Value.int .i64)).drop i).length → (w.drew.cell? ⟨g, 0 + (i + 1) + j, none⟩).isSome = true := fun j hj => hsp _ (by omega)
        refine ⟨_, rfl, ?_, ((((Kept.drew (Kept.refl _ w) 1).trans (kept_setCells _ _ _ _) (fun _ _ h => h)).trans (kept_setCells _ _ _ _) (fun _ _ h => h)).mono (fun k _ h => by rw [h]; rfl)), .inl rfl⟩
        refine own_insI hc2 hb (by omega) h2 (by omega) hn hi hil (fun j y hj hy => ?_) ?_ (fun j y hj hy => ?_)
        · rw [World.cell?_setCells_out _ _ _ _ _ (fun _ _ => .inl (by show j < 0 + i; omega)), World.cell?_setCells_out _ _ _ _ _ (fun _ _ => .inl (by show j < 0 + (i + 1); omega))]
          exact hcell w.drew (mx_drew w) j y hy
        · have := World.cell?_setCells_in g [Value.int .i64 x] (0 + i) (w.drew.setCells g (0 + (i + 1)) ((r.map (Value.int .i64)).drop i)) (fun j hj => by
            have : j = 0 := by simpa using hj
            subst this
            rw [World.cell?_setCells_out _ _ _ _ _ (fun _ _ => .inl (by show 0 + i + 0 < 0 + (i + 1); omega))]
            exact hsp _ (by omega)) 0 (by simp)
          rw [show 0 + i + 0 = i by omega] at this
          exact this
        · have hjn := (List.getElem?_eq_some_iff.1 hy).1
          have := World.cell?_setCells_in g ((r.map (Value.int .i64)).drop i) (0 + (i + 1)) w.drew q1 (j - i) (by omega)
          rw [World.cell?_setCells_out _ _ _ _ _ (fun _ _ => .inr (by show 0 + i + 1 ≤ j + 1; omega)), show j + 1 = 0 + (i + 1) + (j - i) by omega, this]
          have hm := hget j y hy
          rw [← List.getElem?_eq_getElem, List.getElem?_drop, show i + (j - i) = j by omega, hm]
      · have H := Tryz.slices_Insert_int_grow g 0 n cap i vb 0 1 1 (r.map (Value.int .i64)) [.int .i64 x] w hin (by omega) h1 (by omega) (by omega) hml rfl hcs hvs0 (ints_one r) h1v
        refine H.mono ?_
        rintro e w' ⟨rfl, rfl⟩
        have hge := grownCap_ge w (n + 1) cap 3
        have hmx := grownCap_le_maxLen w (n + 1) cap 3 (by unfold maxLen; omega)
        obtain ⟨G, hG⟩ : ∃ G, grownCap w (n + 1) cap 3 = G := ⟨_, rfl⟩
        rw [hG] at hge hmx ⊢
        obtain ⟨C, hC⟩ : ∃ C, ((r.map (Value.int .i64)).take i).toArray ++ Builtin.zeroCells (Value.int .i64 0).cells (n + 1 - i) ++ Builtin.zeroCells (Value.int .i64 0).cells (G - (n + 1)) = C := ⟨_, rfl⟩
        have hCs : C.size = G := by
          rw [← hC, Array.size_append, Array.size_append, zero_size, zero_size]
          simp
          omega
        have hCx : ∀ j y, j < i → r[j]? = some y → C[j]? = some (Value.int .i64 y) := fun j y hj hy => by
          have hjn := (List.getElem?_eq_some_iff.1 hy).1
          rw [← hC, Array.append_assoc, Array.getElem?_append_left (by simp; omega)]
          rw [List.getElem?_toArray, List.getElem?_take, if_pos hj]
          exact hget j y hy
        rw [hC]
        obtain ⟨W0, hW0⟩ : ∃ W, w.alloc (.cells C 3) = W := ⟨_, rfl⟩
        have hb0 : Below w.heap.size w W0 := by rw [← hW0]; exact mx_al _ _
        have hg0 : W0.heap[w.heap.size]? = some (.cells C 3 (0, 0)) := by rw [← hW0]; exact World.alloc_heap_new _ _
        rw [hW0]
        obtain ⟨c1, hc1, hs1⟩ := block_setCells [Value.int .i64 x] i W0.drew C hg0
        obtain ⟨c2, hc2, hs2⟩ := block_setCells ((r.map (Value.int .i64)).drop i) (i + 1) _ c1 (show (W0.drew.setCells w.heap.size i [.int .i64 x]).drew.heap[w.heap.size]? = _ from hc1)
        have hdl : ((r.map (Value.int .i64)).drop i).length = n - i := by rw [List.length_drop, hml]
        have hs0 : ∀ j, j < G → (W0.drew.cell? ⟨w.heap.size, j, none⟩).isSome = true := fun j hj => by
          rw [show W0.drew.cell? ⟨w.heap.size, j, none⟩ = C[j]? from mx_cell (w := W0.drew) hg0, Array.getElem?_eq_getElem (by omega)]
          rfl
        have hs1' : ∀ j, j < G → ((W0.drew.setCells w.heap.size i [.int .i64 x]).drew.cell? ⟨w.heap.size, j, none⟩).isSome = true := fun j hj => World.isSome_setCells w.heap.size [Value.int .i64 x] i W0.drew ⟨w.heap.size, j, none⟩ (hs0 j hj)
        have hkb : Below w.heap.size w ((W0.drew.setCells w.heap.size i [.int .i64 x]).drew.setCells w.heap.size (i + 1) ((r.map (Value.int .i64)).drop i)) :=
          ((hb0.drew.trans ((kept_setCells _ _ _ _).below (fun k e => by omega) (by show w.heap.size ≤ W0.heap.size; exact hb0.size))).drew).trans ((kept_setCells _ _ _ _).below (fun k e => by omega) (by show w.heap.size ≤ (W0.drew.setCells w.heap.size i [.int .i64 x]).heap.size; have := (kept_setCells W0.drew w.heap.size i [.int .i64 x]).size; have h0 : w.heap.size ≤ W0.drew.heap.size := hb0.size; omega))
        refine ⟨_, rfl, ?_, Kept.of_below hkb, .inr rfl⟩
        refine fresh _ c2 G hc2 (by omega) hge hmx (fun j y hj hy => ?_) ?_ (fun j y hj hy => ?_)
        · rw [World.cell?_setCells_out _ _ _ _ _ (fun _ _ => .inl (by show j < i + 1; omega))]
          show (W0.drew.setCells w.heap.size i [.int .i64 x]).cell? _ = _
          rw [World.cell?_setCells_out _ _ _ _ _ (fun _ _ => .inl (by show j < i; omega)), show W0.drew.cell? ⟨w.heap.size, j, none⟩ = C[j]? from mx_cell (w := W0.drew) hg0]
          exact hCx j y hj hy
        · rw [World.cell?_setCells_out _ _ _ _ _ (fun _ _ => .inl (by show i < i + 1; omega))]
          have := World.cell?_setCells_in w.heap.size [Value.int .i64 x] i W0.drew (fun j hj => hs0 _ (by simp at hj; omega)) 0 (by simp)
          exact this
        · have hjn := (List.getElem?_eq_some_iff.1 hy).1
          have := World.cell?_setCells_in w.heap.size ((r.map (Value.int .i64)).drop i) (i + 1) (W0.drew.setCells w.heap.size i [.int .i64 x]).drew (fun j hj => hs1' _ (by omega)) (j - i) (by omega)
          rw [show j + 1 = i + 1 + (j - i) by omega, this]
          have hm := hget j y hy
          rw [← List.getElem?_eq_getElem, List.getElem?_drop, show i + (j - i) = j by omega, hm]
    · obtain rfl : i = n := by omega
      by_cases hroom : i + 1 ≤ cap
      · have H := Tryz.slices_Insert_int_end_room g 0 i cap vb 0 1 1 [.int .i64 x] w (by omega) hroom (by unfold maxLen at h2; omega) rfl (fun j hj => hsp _ (by omega)) (fun j _ => hfz _) hvs0 h1v
        refine H.mono ?_
        rintro e w' ⟨rfl, rfl⟩
        obtain ⟨c2, hc2, hs2⟩ := block_setCells [Value.int .i64 x] (0 + i) _ cur hg
        refine ⟨_, rfl, ?_, (kept_setCells _ _ _ _).mono (fun k _ h => by rw [h]; rfl), .inl rfl⟩
        refine own_insI hc2 hb (by omega) h2 (by omega) hn hi hil (fun j y hj hy => ?_) ?_ (fun j y hj hy => ?_)
        · rw [World.cell?_setCells_out _ _ _ _ _ (fun _ _ => .inl (by show j < 0 + i; omega))]
          exact hcell w (Below.refl _ _) j y hy
        · have := World.cell?_setCells_in g [Value.int .i64 x] (0 + i) w (fun j hj => hsp _ (by simp at hj; omega)) 0 (by simp)
          rw [show 0 + i + 0 = i by omega] at this
          exact this
        · have hjn := (List.getElem?_eq_some_iff.1 hy).1
          omega
      · have H := Tryz.slices_Insert_int_end_grow (some ⟨g, 0, none⟩) i cap vb 0 1 1 (r.map (Value.int .i64)) [.int .i64 x] w (by omega) h1 (by omega) (by omega) hml rfl (fun h => by cases h) (fun a ha j u hu => by
          obtain rfl := Option.some.inj ha
          rw [addr_add2]
          exact hcs j u hu) hvs0 h1v
        refine H.mono ?_
        rintro e w' ⟨rfl, rfl⟩
        have hge := grownCap_ge w (i + 1) cap 3
        have hmx := grownCap_le_maxLen w (i + 1) cap 3 (by unfold maxLen; omega)
        refine ⟨_, rfl, ?_, (Kept.drew (Kept.refl _ w) 1).alloc _, .inr rfl⟩
        refine fresh _ _ _ (World.alloc_heap_new w.drew _) ?_ hge hmx (fun j y hj hy => ?_) ?_ (fun j y hj hy => ?_)
        · rw [Array.size_append, zero_size]
          simp
          omega
        · have hjn := (List.getElem?_eq_some_iff.1 hy).1
          rw [show w.heap.size = w.drew.heap.size from rfl, cell_new, Array.getElem?_append_left (by simp; omega), List.getElem?_toArray, List.getElem?_append_left (by simp; omega)]
          exact hget j y hy
        · rw [show w.heap.size = w.drew.heap.size from rfl, cell_new, Array.getElem?_append_left (by simp; omega), List.getElem?_toArray, List.getElem?_append_right (by omega), hml, Nat.sub_self]
          rfl
        · have hjn := (List.getElem?_eq_some_iff.1 hy).1
          omega
end Go.Proofs.YtoojmhjagipmdaaGreat
