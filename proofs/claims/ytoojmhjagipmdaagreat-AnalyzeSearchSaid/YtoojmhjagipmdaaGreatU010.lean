/- The watch, plainly: what is propagated level by level. The watch: Remove, once, Back, New; arena.Has. -/
import Derived.Test.YtoojmhjagipmdaaGreatU006
import Derived.Test.YtoojmhjagipmdaaGreatU008
import Derived.Test.YtoojmhjagipmdaaGreatU009
import Derived.Deep.DeepMust
namespace Go.Proofs.YtoojmhjagipmdaaGreat
open Go.RowKit

variable {T : Trl} {its : List RIt}
theorem eachGo_mem {x : Int} (c : List Int) (o : List Int) : x ∈ eachGo o c ↔ x ∈ o ∨ x ∈ c := by
  induction c generalizing o with
  | nil => simp [eachGo]
  | cons l r ih =>
    unfold eachGo
    rw [ih, List.mem_cons]
    split
    · rename_i h
      have hm : l ∈ o := by simpa using h
      constructor
      · rintro (h | h)
        · exact .inl h
        · exact .inr (.inr h)
      · rintro (h | rfl | h)
        · exact .inl h
        · exact .inl hm
        · exact .inr h
    · rw [List.mem_append, List.mem_singleton, or_assoc]
theorem eachL_mem {x : Int} {c : List Int} : x ∈ eachL c ↔ x ∈ c := by
  unfold eachL
  rw [eachGo_mem]
  simp
theorem eachGo_nodup (c : List Int) {o : List Int} (h : o.Nodup) : (eachGo o c).Nodup := by
  induction c generalizing o with
  | nil => exact h
  | cons l r ih =>
    unfold eachGo
    apply ih
    split
    · exact h
    · rename_i hc
      have hm : l ∉ o := by simpa using hc
      rw [List.nodup_append]
      refine ⟨h, by simp, fun a ha b hb => ?_⟩
      rw [List.mem_singleton] at hb
      subst hb
      rintro rfl
      exact hm ha
theorem eachL_nodup (c : List Int) : (eachL c).Nodup := eachGo_nodup c List.nodup_nil
theorem eachGo_len (c : List Int) (o : List Int) : (eachGo o c).length ≤ o.length + c.length := by
  induction c generalizing o with
  | nil => simp [eachGo]
  | cons l r ih =>
    unfold eachGo
    have := ih (if o.contains l = true then o else o ++ [l])
    have h2 : (if o.contains l = true then o else o ++ [l]).length ≤ o.length + 1 := by
      split
      · omega
      · simp
    simp only [List.length_cons]
    omega
theorem eachL_len (c : List Int) : (eachL c).length ≤ c.length := by
  have := eachGo_len c []
  unfold eachL
  simpa using this
/-- an item says that y is true -/
def Has (its : List RIt) (y : Int) : Prop := ∃ (p : Nat) (x : RIt), its[p]? = some x ∧ x.lit = y
/-- y came before a place -/
def HasAt (its : List RIt) (n : Nat) (y : Int) : Prop := ∃ (p : Nat) (x : RIt), p < n ∧ its[p]? = some x ∧ x.lit = y
theorem HasAt.mono {its its' : List RIt} (hp : its <+: its') {n n' : Nat} (hn : n ≤ n') {y : Int} (h : HasAt its n y) : HasAt its' n' y := by
  obtain ⟨p, x, h1, h2, h3⟩ := h
  obtain ⟨t, rfl⟩ := hp
  exact ⟨p, x, by omega, by rw [List.getElem?_append_left (List.getElem?_eq_some_iff.1 h2).1]; exact h2, h3⟩
theorem HasAt.has {its : List RIt} {n : Nat} {y : Int} (h : HasAt its n y) : Has its y := by
  obtain ⟨p, x, _, h2, h3⟩ := h
  exact ⟨p, x, h2, h3⟩
theorem Has.at {its : List RIt} {y : Int} (h : Has its y) : HasAt its its.length y := by
  obtain ⟨p, x, h2, h3⟩ := h
  exact ⟨p, x, (List.getElem?_eq_some_iff.1 h2).1, h2, h3⟩
theorem pre_get {its its' : List RIt} (hp : its <+: its') {p : Nat} {x : RIt} (h : its[p]? = some x) : its'[p]? = some x := by
  obtain ⟨t, rfl⟩ := hp
  rw [List.getElem?_append_left (List.getElem?_eq_some_iff.1 h).1]
  exact h
/-- each reason is one -/
def Rsn (C : Int → Option (List Int)) (its : List RIt) : Prop :=
  ∀ (p : Nat) (x : RIt), its[p]? = some x → x.reason ≠ 0 → ∃ c, C x.reason = some c ∧ x.lit ∈ c ∧ ∀ y ∈ c, y ≠ x.lit → HasAt its p (-y)
theorem Rsn.snoc {C : Int → Option (List Int)} {its : List RIt} (h : Rsn C its) {x : RIt} (hx : x.reason ≠ 0 → ∃ c, C x.reason = some c ∧ x.lit ∈ c ∧ ∀ y ∈ c, y ≠ x.lit → Has its (-y)) : Rsn C (its ++ [x]) := by
  intro p z hz hr
  have hpre : its <+: its ++ [x] := ⟨[x], rfl⟩
  rcases Nat.lt_or_ge p its.length with hp | hp
  · rw [List.getElem?_append_left hp] at hz
    obtain ⟨c, h1, h2, h3⟩ := h p z hz hr
    exact ⟨c, h1, h2, fun y hy hne => (h3 y hy hne).mono hpre (Nat.le_refl _)⟩
  · have h1 := (List.getElem?_eq_some_iff.1 hz).1
    rw [List.length_append, List.length_singleton] at h1
    obtain rfl : p = its.length := by omega
    rw [List.getElem?_append_right (Nat.le_refl _), Nat.sub_self] at hz
    obtain rfl : x = z := by simpa using hz
    obtain ⟨c, h1, h2, h3⟩ := hx hr
    exact ⟨c, h1, h2, fun y hy hne => (h3 y hy hne).at.mono hpre (Nat.le_refl _)⟩
theorem Rsn.take {C : Int → Option (List Int)} {its : List RIt} (h : Rsn C its) (n : Nat) : Rsn C (its.take n) := by
  intro p x hx hr
  have hp := (List.getElem?_eq_some_iff.1 hx).1
  rw [List.length_take] at hp
  rw [List.getElem?_take, if_pos (by omega)] at hx
  obtain ⟨c, h1, h2, h3⟩ := h p x hx hr
  refine ⟨c, h1, h2, fun y hy hne => ?_⟩
  obtain ⟨q, z, hq, hz, hl⟩ := h3 y hy hne
  exact ⟨q, z, hq, by rw [List.getElem?_take, if_pos (by omega)]; exact hz, hl⟩
/-- what a watch keeps that is propagated level by level: clauses C, what was assigned, the level that is now -/
structure HInv (C : Int → Option (List Int)) (its : List RIt) (now : Int) (S : Wst) : Prop where
  bnd : S.Bnd
  link : S.Link
  kn : ∀ id k, S.kn id = some k → ∃ c, C id = some c ∧ k.lits = eachL c
  two : ∀ id k c, S.kn id = some k → C id = some c → k.by_ = [] → alwL c = true ∨ k.lits.length ≤ 1
  alw : ∀ id k c, S.kn id = some k → C id = some c → alwL c = true → k.by_ = []
  w : ∀ id k a, S.kn id = some k → a ∈ k.by_ → ∀ (p : Nat) (x : RIt), p < S.looked → its[p]? = some x → x.lit = -a → ∃ (q : Nat) (y : RIt), its[q]? = some y ∧ y.lit = k.other a ∧ y.level ≤ x.level
  cur : ∀ (p : Nat) (x : RIt), S.looked ≤ p → its[p]? = some x → x.level = now
  len : S.looked ≤ its.length
  rs : Rsn C its
/-- a state in the midst of looking at a place: some IDs are done -/
structure HMid (C : Int → Option (List Int)) (its : List RIt) (now : Int) (S : Wst) (l : Int) (todo : List Int) : Prop where
  inv : HInv C its now S
  at_ : ∃ x, its[S.looked]? = some x ∧ x.lit = -l
  sub : ∀ id ∈ todo, id ∈ S.row l
  nd : todo.Nodup
  done : ∀ id k, S.kn id = some k → l ∈ k.by_ → id ∉ todo → Has its (k.other l)
theorem HInv.fit {C : Int → Option (List Int)} {now : Int} {S : Wst} (h : HInv C its now S) {id : Int} {k : Kn} (hk : S.kn id = some k) : ∀ y ∈ k.lits, litB y = true := (h.bnd.kn hk).2.2.2
theorem Kn.two_of {k : Kn} (h : k.by_ = [] ∨ ∃ a b, a ≠ b ∧ k.by_ = [a, b] ∧ a ∈ k.lits ∧ b ∈ k.lits) {l : Int} (hl : l ∈ k.by_) : ∃ a b, a ≠ b ∧ k.by_ = [a, b] ∧ a ∈ k.lits ∧ b ∈ k.lits := by
  rcases h with h | h
  · rw [h] at hl
    cases hl
  · exact h
theorem Kn.by_lits {k : Kn} (h : k.by_ = [] ∨ ∃ a b, a ≠ b ∧ k.by_ = [a, b] ∧ a ∈ k.lits ∧ b ∈ k.lits) {l : Int} (hl : l ∈ k.by_) : l ∈ k.lits := by
  obtain ⟨a, b, _, h2, ha, hb⟩ := Kn.two_of h hl
  rw [h2] at hl
  rcases List.mem_cons.1 hl with rfl | hl
  · exact ha
  · rw [List.mem_singleton.1 hl]
    exact hb
theorem looked_drop (S : Wst) (l id : Int) : (S.drop l id).looked = S.looked := by
  unfold Wst.drop
  split <;> rfl
theorem looked_move (S : Wst) (id l x : Int) (k : Kn) : (S.move id l x k).looked = S.looked := looked_drop S l id
/-- how one clause is looked at -/
inductive LookOut (A : Arn) (C : Int → Option (List Int)) (T : Trl) (its : List RIt) (S : Wst) (l id : Int) (todo : List Int) : Prop
  | goes (its' : List RIt) (T' : Trl) (S' : Wst) (he : lookOne A T S l id = (T', S', false)) (hs : Sim T' its') (hp : its <+: its') (hm : HMid C its' T.now S' l todo) (hn : T'.now = T.now) (hv : T'.vars.length = T.vars.length) (hl : S'.looked = S.looked)
  | fails (he : lookOne A T S l id = (T, S, true)) (hf : ∃ c, C id = some c ∧ ∀ y ∈ c, Has its (-y))
theorem look_one {A : Arn} {C : Int → Option (List Int)} {S : Wst} {l id : Int} {todo : List Int} (hs : Sim T its) (h : HMid C its T.now S l (id :: todo)) (hA : ∀ id k, S.kn id = some k → (A.find id).isSome = true) (hV : ∀ id c, C id = some c → ∀ y ∈ c, litV y < T.vars.length) :
    LookOut A C T its S l id todo := by
  have hm := h.sub id List.mem_cons_self
  obtain ⟨k, hk, hl⟩ := (h.inv.link l id).1 hm
  have hkb := h.inv.bnd.kn hk
  obtain ⟨c, hc, hkc⟩ := h.inv.kn id k hk
  obtain ⟨a, b, hab, hab2, _, _⟩ := Kn.two_of hkb.2.1 hl
  obtain ⟨o1, o2, o3⟩ := Kn.other_mem hab hab2 hl
  have hol := Kn.by_lits hkb.2.1 o1
  have hll := Kn.by_lits hkb.2.1 hl
  have hob := hkb.2.2.2 _ hol
  have hlb := hkb.2.2.2 _ hll
  obtain ⟨x0, hx0, hx0l⟩ := h.at_
  have hnd := List.nodup_cons.1 h.nd
  have e0 : lookOne A T S l id = if T.tru (k.other l) = true then (T, S, false) else match k.next T l with
      | some x => (T, S.move id l x k, false)
      | none => if T.fal (k.other l) = true then (T, S, true) else (T.assigned (k.other l) id, S, false) := by
    unfold lookOne
    rw [if_neg (by rw [hA id k hk]; decide), hk]
    rfl
  have rest : ∀ j ∈ todo, j ∈ S.row l := fun j hj => h.sub j (List.mem_cons_of_mem _ hj)
  by_cases ht : T.tru (k.other l) = true
  · rw [if_pos ht] at e0
    refine .goes its T S e0 hs (List.prefix_refl _) ⟨h.inv, h.at_, rest, hnd.2, fun j k' hk' hl' hj => ?_⟩ rfl rfl rfl
    by_cases hji : j = id
    · subst hji
      rw [hk] at hk'
      obtain rfl := Option.some.inj hk'
      exact (hs.tru_iff hob).1 ht
    · exact h.done j k' hk' hl' (by simp [hji, hj])
  · rw [if_neg ht] at e0
    cases hnx : k.next T l with
    | some x =>
      rw [hnx] at e0
      have h1 := List.mem_of_find?_eq_some hnx
      have h2 := List.find?_some hnx
      rw [Bool.and_eq_true, decide_eq_true_eq] at h2
      obtain ⟨⟨hxl, hxo⟩, hxf⟩ := h2
      have hxf' : T.fal x = false := by simpa using hxf
      obtain ⟨m1, m2, m3, m4, m5, m6⟩ := move_ok h.inv.bnd h.inv.link hk hl h1 hxl hxo
      have hmv := Kn.move_mem (l := l) x hab2
      have hxb := hkb.2.2.2 x h1
      have knM : ∀ j k', (S.move id l x k).kn j = some k' → (j = id ∧ k' = k.move l x) ∨ (j ≠ id ∧ S.kn j = some k') := fun j k' hk' => by
        rw [m6] at hk'
        split at hk'
        · rename_i e
          exact .inl ⟨e, (Option.some.inj hk').symm⟩
        · rename_i e
          exact .inr ⟨e, hk'⟩
      have hbm : (k.move l x).by_ ≠ [] := fun e => by
        have := (hmv x).2 (.inl rfl)
        rw [e] at this
        cases this
      refine .goes its T _ e0 hs (List.prefix_refl _) ⟨⟨m4, m5, fun j k' hk' => ?_, fun j k' c' hk' hc' hb' => ?_, fun j k' c' hk' hc' ha' => ?_, fun j k' a' hk' ha' p z hp hz hzl => ?_, fun p z hp hz => h.inv.cur p z (by rwa [looked_move] at hp) hz, by rw [looked_move]; exact h.inv.len, h.inv.rs⟩, by rw [looked_move]; exact h.at_, fun j hj => ?_, hnd.2, fun j k' hk' hl' hj => ?_⟩ rfl rfl (looked_move _ _ _ _ _)
      · rcases knM j k' hk' with ⟨rfl, rfl⟩ | ⟨_, hk''⟩
        · exact ⟨c, hc, hkc⟩
        · exact h.inv.kn j k' hk''
      · rcases knM j k' hk' with ⟨rfl, rfl⟩ | ⟨_, hk''⟩
        · exact absurd hb' hbm
        · exact h.inv.two j k' c' hk'' hc' hb'
      · rcases knM j k' hk' with ⟨rfl, rfl⟩ | ⟨_, hk''⟩
        · have := h.inv.alw j k c' hk hc' ha'
          rw [this] at hl
          cases hl
        · exact h.inv.alw j k' c' hk'' hc' ha'
      · rcases knM j k' hk' with ⟨rfl, rfl⟩ | ⟨_, hk''⟩
        · rcases (hmv a').1 ha' with rfl | rfl
          · -- x is not false
            exact absurd ((hs.fal_iff hxb).2 ⟨p, z, hz, hzl⟩) (by rw [hxf']; decide)
          · -- the other one is not false before: l would be true
            have hp' : p < S.looked := by rwa [looked_move] at hp
            obtain ⟨q, y, hq, hyl, _⟩ := h.inv.w j k (k.other l) hk o1 p z hp' hz hzl
            have hoo : k.other (k.other l) = l := by
              obtain ⟨_, h5, h6⟩ := Kn.other_mem hab hab2 o1
              rcases (h6 l).1 hl with e | e
              · exact absurd e (Ne.symm o2)
              · exact e.symm
            rw [hoo] at hyl
            -- l is false and true
            have hf := (hs.fal_iff hlb).2 ⟨_, x0, hx0, hx0l⟩
            have htt := (hs.tru_iff hlb).2 ⟨q, y, hq, hyl⟩
            unfold Trl.fal at hf
            unfold Trl.tru at htt
            rw [decide_eq_true_eq] at hf htt
            omega
        · exact h.inv.w j k' a' hk'' ha' p z (by rwa [looked_move] at hp) hz hzl
      · have hne : j ≠ id := fun e => hnd.1 (e ▸ hj)
        rw [m5 l j, m6, if_neg hne]
        exact (h.inv.link l j).1 (rest j hj)
      · rcases knM j k' hk' with ⟨rfl, rfl⟩ | ⟨hne, hk''⟩
        · rcases (hmv l).1 hl' with e | e
          · exact absurd e.symm hxl
          · exact absurd e.symm o2
        · exact h.done j k' hk'' hl' (by simp [hne, hj])
    | none =>
      rw [hnx] at e0
      simp only [] at e0
      have hall : ∀ y ∈ k.lits, y ≠ k.other l → Has its (-y) := fun y hy hne => by
        by_cases hyl : y = l
        · rw [hyl]
          exact ⟨_, x0, hx0, hx0l⟩
        · have := List.find?_eq_none.1 hnx y hy
          simp only [ne_eq, Bool.and_eq_true, decide_eq_true_eq, Bool.not_eq_true', not_and, Bool.not_eq_false] at this
          exact (hs.fal_iff (hkb.2.2.2 y hy)).1 (this ⟨hyl, hne⟩)
      by_cases hf : T.fal (k.other l) = true
      · rw [if_pos hf] at e0
        refine .fails e0 ⟨c, hc, fun y hy => ?_⟩
        have hyk : y ∈ k.lits := by rw [hkc, eachL_mem]; exact hy
        by_cases hyo : y = k.other l
        · rw [hyo]
          exact (hs.fal_iff hob).1 hf
        · exact hall y hyk hyo
      · rw [if_neg hf] at e0
        have hoc : k.other l ∈ c := by rw [← eachL_mem, ← hkc]; exact hol
        have hae := assign_ok (T := T) hob (hV id c hc _ hoc) (r := id) (by omega) (by simpa using hf) (by simpa using ht)
        have hs' := hs.snoc hae
        have hpre : its <+: its ++ [(⟨k.other l, id, T.now⟩ : RIt)] := ⟨_, rfl⟩
        refine .goes _ _ S e0 hs' hpre ⟨⟨h.inv.bnd, h.inv.link, h.inv.kn, h.inv.two, h.inv.alw, fun j k' a' hk' ha' p z hp hz hzl => ?_, fun p z hp hz => ?_, ?_, ?_⟩, ⟨x0, pre_get hpre hx0, hx0l⟩, rest, hnd.2, fun j k' hk' hl' hj => ?_⟩ (assigned_now _ _ _) (assigned_vars _ _ _) rfl
        · have hpl : p < its.length := Nat.lt_of_lt_of_le hp h.inv.len
          rw [List.getElem?_append_left hpl] at hz
          obtain ⟨q, y, hq, h3⟩ := h.inv.w j k' a' hk' ha' p z hp hz hzl
          exact ⟨q, y, pre_get hpre hq, h3⟩
        · rcases Nat.lt_or_ge p its.length with hpl | hpl
          · rw [List.getElem?_append_left hpl] at hz
            exact h.inv.cur p z hp hz
          · have h1 := (List.getElem?_eq_some_iff.1 hz).1
            rw [List.length_append, List.length_singleton] at h1
            obtain rfl : p = its.length := by omega
            rw [List.getElem?_append_right (Nat.le_refl _), Nat.sub_self] at hz
            obtain rfl : _ = z := by simpa using hz
            rfl
        · have := h.inv.len
          simp
          omega
        · refine h.inv.rs.snoc (fun _ => ⟨c, hc, hoc, fun y hy hne => ?_⟩)
          exact hall y (by rw [hkc, eachL_mem]; exact hy) hne
        · by_cases hji : j = id
          · subst hji
            rw [hk] at hk'
            obtain rfl := Option.some.inj hk'
            exact ⟨its.length, ⟨k.other l, j, T.now⟩, by rw [List.getElem?_append_right (Nat.le_refl _), Nat.sub_self]; rfl, rfl⟩
          · obtain ⟨p, z, hz, hzl⟩ := h.done j k' hk' hl' (by simp [hji, hj])
            exact ⟨p, z, pre_get hpre hz, hzl⟩
theorem lookGo_cons (A : Arn) (T : Trl) (S : Wst) (l id : Int) (r : List Int) : lookGo A T S l (id :: r) = if (lookOne A T S l id).2.2 = true then ((lookOne A T S l id).1, (lookOne A T S l id).2.1, some id) else lookGo A (lookOne A T S l id).1 (lookOne A T S l id).2.1 l r := rfl
/-- how a place is looked at -/
inductive PlaceOut (A : Arn) (C : Int → Option (List Int)) (T : Trl) (its : List RIt) (S : Wst) (l : Int) (ids : List Int) : Prop
  | goes (its' : List RIt) (T' : Trl) (S' : Wst) (he : lookGo A T S l ids = (T', S', none)) (hs : Sim T' its') (hp : its <+: its') (hm : HMid C its' T.now S' l []) (hn : T'.now = T.now) (hv : T'.vars.length = T.vars.length) (hl : S'.looked = S.looked)
  | fails (its' : List RIt) (T' : Trl) (S' : Wst) (id : Int) (he : lookGo A T S l ids = (T', S', some id)) (hs : Sim T' its') (hp : its <+: its') (hm : HInv C its' T.now S') (hn : T'.now = T.now) (hv : T'.vars.length = T.vars.length) (hl : S'.looked = S.looked) (hf : ∃ c, C id = some c ∧ ∀ y ∈ c, Has its' (-y))
theorem known_move {S : Wst} {id l x : Int} {k : Kn} (h : S.Bnd) (hL : S.Link) (hk : S.kn id = some k) (hl : l ∈ k.by_) (hx : x ∈ k.lits) (hxl : x ≠ l) (hxo : x ≠ k.other l) (j : Int) : ((S.move id l x k).kn j).isSome = (S.kn j).isSome := by
  rw [(move_ok h hL hk hl hx hxl hxo).2.2.2.2.2]
  split
  · rename_i e
    rw [e, hk]
    rfl
  · rfl
theorem lookOne_known (A : Arn) (T : Trl) {S : Wst} (h : S.Bnd) (hL : S.Link) {l id : Int} (hm : id ∈ S.row l) (hA : (A.find id).isSome = true) (j : Int) : ((lookOne A T S l id).2.1.kn j).isSome = (S.kn j).isSome := by
  obtain ⟨k, hk, hl⟩ := (hL l id).1 hm
  unfold lookOne
  rw [if_neg (by rw [hA]; decide), hk]
  simp only []
  split
  · rfl
  · split
    · rename_i x hx
      have h1 := List.mem_of_find?_eq_some hx
      have h2 := List.find?_some hx
      rw [Bool.and_eq_true, decide_eq_true_eq] at h2
      exact known_move h hL hk hl h1 h2.1.1 h2.1.2 j
    · split <;> rfl
theorem look_place {A : Arn} {C : Int → Option (List Int)} (hV0 : Nat) (hV : ∀ id c, C id = some c → ∀ y ∈ c, litV y < hV0) {l : Int} (ids : List Int) : ∀ {T : Trl} {its : List RIt} {S : Wst}, T.vars.length = hV0 → Sim T its → HMid C its T.now S l ids → (∀ id k, S.kn id = some k → (A.find id).isSome = true) →
    PlaceOut A C T its S l ids := by
  induction ids with
  | nil => exact fun {T its S} _ hs h _ => .goes its T S rfl hs (List.prefix_refl _) h rfl rfl rfl
  | cons id r ih =>
    intro T its S hV1 hs h hA
    have hm := h.sub id List.mem_cons_self
    have hkn := lookOne_known A T h.inv.bnd h.inv.link hm (by
      obtain ⟨k, hk, _⟩ := (h.inv.link l id).1 hm
      exact hA id k hk)
    rcases look_one hs h hA (by rw [hV1]; exact hV) with ⟨its', T', S', he, hs', hp, hm', hn, hv, hl⟩ | ⟨he, hf⟩
    · have e1 : lookGo A T S l (id :: r) = lookGo A T' S' l r := by
        rw [lookGo_cons, he]
        exact if_neg (show ¬ false = true by decide)
      rw [he] at hkn
      have hA' : ∀ id k, S'.kn id = some k → (A.find id).isSome = true := fun j k' hk' => by
        have h2 := hkn j
        rw [show (T', S', false).2.1.kn j = some k' from hk'] at h2
        obtain ⟨k2, hk2⟩ := Option.isSome_iff_exists.1 (h2.symm.trans rfl)
        exact hA j k2 hk2
      rw [← hn] at hm'
      rcases ih (hv.trans hV1) hs' hm' hA' with ⟨its2, T2, S2, he2, hs2, hp2, hm2, hn2, hv2, hl2⟩ | ⟨its2, T2, S2, id2, he2, hs2, hp2, hm2, hn2, hv2, hl2, hf2⟩
      · exact .goes its2 T2 S2 (e1.trans he2) hs2 (hp.trans hp2) (hn ▸ hm2) (hn2.trans hn) (hv2.trans hv) (hl2.trans hl)
      · exact .fails its2 T2 S2 id2 (e1.trans he2) hs2 (hp.trans hp2) (hn ▸ hm2) (hn2.trans hn) (hv2.trans hv) (hl2.trans hl) hf2
    · refine .fails its T S id ?_ hs (List.prefix_refl _) h.inv rfl rfl rfl hf
      rw [lookGo_cons, he]
      exact if_pos rfl
/-- a place that was looked at -/
theorem HMid.step {C : Int → Option (List Int)} {its : List RIt} {now : Int} {S : Wst} {l : Int} (h : HMid C its now S l []) (hlev : ∀ x ∈ its, x.level ≤ now) : HInv C its now S.step := by
  obtain ⟨x0, hx0, hx0l⟩ := h.at_
  refine ⟨⟨h.inv.bnd.kr, h.inv.bnd.kb, h.inv.bnd.kl, h.inv.bnd.orr, h.inv.bnd.ob⟩, h.inv.link, h.inv.kn, h.inv.two, h.inv.alw, fun id k a hk ha p x hp hx hxl => ?_, fun p x hp hx => h.inv.cur p x (Nat.le_of_succ_le hp) hx, (List.getElem?_eq_some_iff.1 hx0).1, h.inv.rs⟩
  have hp' : p < S.looked + 1 := hp
  rcases Nat.lt_or_ge p S.looked with hlt | hge
  · exact h.inv.w id k a hk ha p x hlt hx hxl
  · obtain rfl : p = S.looked := by omega
    rw [hx0] at hx
    obtain rfl := Option.some.inj hx
    have hal : a = l := by omega
    rw [hal] at ha ⊢
    obtain ⟨q, y, hq, hyl⟩ := h.done id k hk ha (by simp)
    refine ⟨q, y, hq, hyl, ?_⟩
    rw [h.inv.cur _ _ (Nat.le_refl _) hx0]
    exact hlev y (List.mem_of_getElem? hq)
inductive PropOut (A : Arn) (C : Int → Option (List Int)) (T : Trl) (its : List RIt) (S : Wst) (n : Nat) : Prop
  | goes (its' : List RIt) (T' : Trl) (S' : Wst) (he : propGo A n T S = (T', S', none)) (hs : Sim T' its') (hp : its <+: its') (hm : HInv C its' T.now S') (hn : T'.now = T.now) (hv : T'.vars.length = T.vars.length) (hl : S'.looked = its'.length)
  | fails (its' : List RIt) (T' : Trl) (S' : Wst) (id : Int) (he : propGo A n T S = (T', S', some id)) (hs : Sim T' its') (hp : its <+: its') (hm : HInv C its' T.now S') (hn : T'.now = T.now) (hv : T'.vars.length = T.vars.length) (hf : ∃ c, C id = some c ∧ ∀ y ∈ c, Has its' (-y))
theorem lookGo_known (A : Arn) {l : Int} (ids : List Int) : ∀ {T : Trl} {S : Wst}, S.Bnd → S.Link → (∀ id ∈ ids, id ∈ S.row l) → ids.Nodup → (∀ id k, S.kn id = some k → (A.find id).isSome = true) → ∀ j, ((lookGo A T S l ids).2.1.kn j).isSome = (S.kn j).isSome := by
  induction ids with
  | nil => exact fun _ _ _ _ _ j => rfl
  | cons id r ih =>
    intro T S hb hL hsub hnd hA j
    have hm := hsub id List.mem_cons_self
    have hok := lookOne_ok A T hb hL hm
    have hkn := lookOne_known A T hb hL hm (by
      obtain ⟨k, hk, _⟩ := (hL l id).1 hm
      exact hA id k hk)
    unfold lookGo
    split
    · exact hkn j
    · have hn2 := List.nodup_cons.1 hnd
      rw [ih hok.1 hok.2 (fun i hi => lookOne_row A T hb hL hm (hsub i (List.mem_cons_of_mem _ hi)) (fun e => hn2.1 (e ▸ hi))) hn2.2 (fun i k hk => ?_)]
      · exact hkn j
      · have h2 := hkn i
        rw [hk] at h2
        obtain ⟨k2, hk2⟩ := Option.isSome_iff_exists.1 (h2.symm.trans rfl)
        exact hA i k2 hk2
theorem up_nodup {r : List Int} (h : r.Pairwise (· < ·)) : r.Nodup := h.imp (fun h e => by omega)
theorem prop_go {A : Arn} {C : Int → Option (List Int)} (hV0 : Nat) (hV : ∀ id c, C id = some c → ∀ y ∈ c, litV y < hV0) (n : Nat) : ∀ {T : Trl} {its : List RIt} {S : Wst}, T.vars.length = hV0 → Sim T its → HInv C its T.now S → (∀ id k, S.kn id = some k → (A.find id).isSome = true) → hV0 < n + S.looked + 1 →
    PropOut A C T its S n := by
  induction n with
  | zero =>
    intro T its S hV1 hs h _ hn
    refine .goes its T S rfl hs (List.prefix_refl _) h rfl rfl ?_
    have h1 := h.len
    rcases hs.len with h2 | h2
    · omega
    · rw [h2] at h1 ⊢
      simp at h1 ⊢
      exact h1
  | succ n ih =>
    intro T its S hV1 hs h hA hn
    cases hy : T.order[S.looked]? with
    | none =>
      have e : propGo A (n + 1) T S = (T, S, none) := by
        unfold propGo
        rw [hy]
      refine .goes its T S e hs (List.prefix_refl _) h rfl rfl ?_
      rw [hs.order, List.getElem?_map, Option.map_eq_none_iff, List.getElem?_eq_none_iff] at hy
      have := h.len
      omega
    | some y =>
      have hy2 := hy
      rw [hs.order, List.getElem?_map] at hy
      cases hx : its[S.looked]? with
      | none => rw [hx] at hy; cases hy
      | some x =>
        rw [hx] at hy
        obtain rfl : x.lit = y := by simpa using hy
        have hxb := hs.litb (List.mem_of_getElem? hx)
        have hln : litN x.lit = -x.lit := by unfold litN; rw [if_pos hxb]
        have hrow := h.bnd.row (litN x.lit)
        have hmid : HMid C its T.now S (litN x.lit) (S.row (litN x.lit)) := ⟨h, ⟨x, hx, by rw [hln]; omega⟩, fun id hid => hid, up_nodup hrow.1, fun id k hk hl hid => absurd ((h.link _ _).2 ⟨k, hk, hl⟩) hid⟩
        have hkn := lookGo_known A (T := T) (S.row (litN x.lit)) h.bnd h.link (fun id hid => hid) (up_nodup hrow.1) hA
        rcases look_place (A := A) hV0 hV _ hV1 hs hmid hA with ⟨its', T', S', he, hs', hp, hm', hn', hv, hl⟩ | ⟨its', T', S', id, he, hs', hp, hm', hn', hv, hl, hf⟩
        · have e1 : propGo A (n + 1) T S = propGo A n T' S'.step := by
            conv => lhs; unfold propGo
            rw [hy2]
            simp only []
            rw [he]
          have hst := hm'.step (fun z hz => by rw [← hn']; exact (hs'.lev z hz).2)
          rw [← hn'] at hst
          rw [he] at hkn
          have hA' : ∀ id k, S'.step.kn id = some k → (A.find id).isSome = true := fun j k' hk' => by
            have h2 := hkn j
            rw [show (T', S', (none : Option Int)).2.1.kn j = some k' from hk'] at h2
            obtain ⟨k2, hk2⟩ := Option.isSome_iff_exists.1 (h2.symm.trans rfl)
            exact hA j k2 hk2
          have hlk : S'.step.looked = S.looked + 1 := by rw [← hl]; rfl
          rcases ih (hv.trans hV1) hs' hst hA' (by rw [hlk]; omega) with ⟨its2, T2, S2, he2, hs2, hp2, hm2, hn2, hv2, hl2⟩ | ⟨its2, T2, S2, id2, he2, hs2, hp2, hm2, hn2, hv2, hf2⟩
          · exact .goes its2 T2 S2 (e1.trans he2) hs2 (hp.trans hp2) (hn' ▸ hm2) (hn2.trans hn') (hv2.trans hv) hl2
          · exact .fails its2 T2 S2 id2 (e1.trans he2) hs2 (hp.trans hp2) (hn' ▸ hm2) (hn2.trans hn') (hv2.trans hv) hf2
        · refine .fails its' T' S' id ?_ hs' hp hm' hn' hv hf
          unfold propGo
          rw [hy2]
          simp only []
          rw [he]
end Go.Proofs.YtoojmhjagipmdaaGreat
namespace Go.Proofs.YtoojmhjagipmdaaGreat
open Go.RowKit Go.Maps Go.Shelf

theorem own_get {w : World} {base : Nat} {e : TypeId} {v : Value} {xs : List Int} {j : Nat} {x : Int} (h : w.ownsRow base e 1 v xs.length (xs.map (Value.int .i64))) (hj : xs[j]? = some x) : ∃ g c, v = .slice (some ⟨g, 0, none⟩) xs.length c ∧ g < w.heap.size ∧ w.cell? ⟨g, j, none⟩ = some (.int .i64 x) := by
  have hl := (List.getElem?_eq_some_iff.1 hj).1
  obtain ⟨g, c, cs, hv, _, _, hg, _⟩ := mx_some h (by omega)
  subst hv
  exact ⟨g, c, rfl, hg, mx_at h (by rw [List.getElem?_map, hj]; rfl)⟩
theorem WaMem.widen {O O' : Nat → Prop} {w : World} {b ab tb kb ob : Nat} {S : Wst} {K : List (Int × KnM)} {F : List (Int × OfM)} {tg : Nat → Option WTag} (h : WaMem O w b ab tb S kb ob K F tg) (hO : ∀ g, O g → O' g) (hl : ∀ g, O' g → g < w.heap.size) : WaMem O' w b ab tb S kb ob K F tg :=
  { h with own := hl, inb := hO _ h.inb, ink := hO _ h.ink, ino := hO _ h.ino, intg := fun g t ht => hO g (h.intg g t ht) }
theorem dropAll_snoc (id l : Int) (ls : List Int) : ∀ S : Wst, S.dropAll id (ls ++ [l]) = (S.dropAll id ls).drop l id := by
  induction ls with
  | nil => exact fun S => rfl
  | cons y r ih => exact fun S => ih (S.drop y id)
theorem wpList_delK {w : World} {b : Nat} {m : List (Int × Value)} {ops : Array Oper} {rest : List Oper} {o : Oper} {a : Act} {Q : Exit → Act → World → Prop} (h : MapK w b m)
    (hg : o.guard = none) (mm x : Operand) (hop : o.op = Op.call { callee := Callee.builtin Builtin.delete, args := #[mm, x], argTypes := #[154, 3] }) (hm : a.eval mm = .map (some b)) (i : Int) (hx : a.eval x = .int .i64 i) (hi : (Lit.int .i64 i).wf = true)
    (hK : ∀ w', MapK w' b (delA m i) → w.grownBy w' (some b) → wpList Tryz.prog ops Q rest (a.put o.dst (.tuple #[])) w') : wpList Tryz.prog ops Q (o :: rest) a w :=
  wpList_delS h int_law Tryz.underlying3 Tryz.underlying154 hg mm x hop hm i hx hi hK
set_option maxRecDepth 100000 in
set_option maxHeartbeats 4000000 in
theorem wa_remove_some (b ab tb : Nat) (A : Arn) (T : Trl) (S : Wst) (id : Int) (w : World) (lab : Nat → Nat) (h : SysAt w lab b ab tb A T S) (hwf : (Lit.int .i64 id).wf = true) {k : Kn} (hk : S.kn id = some k) :
    Calls Tryz.prog 135 #[.pointer (some ⟨b, 0, none⟩), .int .i64 id] w fun e w' => e = .returned (.int .i64 0) ∧ SysNext w w' lab b ab tb A T (S.remove id) := by
  have H := Lib.hid h
  obtain ⟨hb, kb, ob, K, F, tg, hm⟩ := h.wa
  have c2 : w.cell? ⟨b, 2, none⟩ = some (.map (some kb)) := mx_cell (j := 2) hm.block
  have hlk := hm.lookK hwf
  obtain ⟨x, hx, rfl, hkx, hkv⟩ := hm.knAt hk
  rw [hkv] at hlk
  have d0 : w.cell? ⟨x.g, 0, none⟩ = some x.bv := mx_cell (j := 0) hkx.block
  obtain ⟨Ab, cb, hbv, _⟩ := mx_slice hkx.by_
  have HBV := Lib.hid hbv
  rw [hbv] at d0
  have HX := Lib.hid hx
  have HM0 := Lib.hid (WaMNext.refl hm (Below.refl _ w))
  have HB := Lib.hid hb
  have HRM := Lib.hid (show S.remove id = (S.dropAll id x.k.by_).del id from by unfold Wst.remove; rw [hk])
  obtain ⟨n, hn⟩ : ∃ n, x.k.by_.length = n := ⟨_, rfl⟩
  have hn2 : n ≤ 2 := by
    rcases (hb.kn hk).2.1 with e | ⟨a, c, _, e, _⟩
    · rw [← hn, e]; simp
    · rw [← hn, e]; simp
  have HLI := Lib.hid (fun y (hy : y ∈ x.k.by_) => wf_lit ((hb.kn hk).2.2.2 y (Kn.by_lits (hb.kn hk).2.1 hy)))
  rw [hn] at d0 hbv
  have HN := Lib.hid hn
  clear h hb hm hk hx hkx hkv hbv hn
  go_enter Tryz.func135, Tryz.ntmps135
  go_wp2_with fail
  go_loopw [24] (fun iv wq => ∃ j : Nat, j ≤ n ∧ iv = .int .i64 j ∧ Hid (WaMNext (fun g => lab g = 3) w wq b ab tb (S.dropAll id (x.k.by_.take j)) kb ob K)) (fun iv _ => n - (intOf iv).toNat)
  case atStart => exact ⟨0, Nat.zero_le _, rfl, HM0⟩
  case round =>
    obtain ⟨j, hj, rfl, HMQ⟩ := hrel
    clear d0 c2 hlk
    by_cases hlt : j < n
    · obtain ⟨y, hy⟩ := getElem_of (l := x.k.by_) (i := j) (by rw [HN.out]; exact hlt)
      obtain ⟨⟨F1, tg1, hm1⟩, hk1⟩ := HMQ.out
      have hkx := hm1.kn _ (getA_some HX.out)
      obtain ⟨g, c, hv, hg, e0⟩ := own_get hkx.by_ hy
      have hv' := HBV.out.symm.trans hv
      simp only [Value.slice.injEq] at hv'
      obtain ⟨rfl, _, rfl⟩ := hv'
      have HD := Lib.hid (wa_drop_m b ab tb _ kb ob K F1 tg1 y id wr (dropAll_bnd id _ HB.out).1 hm1 (HLI.out y (List.mem_of_getElem? hy)))
      have HK1 := Lib.hid hk1
      have HTK := Lib.hid (show S.dropAll id (x.k.by_.take (j + 1)) = (S.dropAll id (x.k.by_.take j)).drop y id from by rw [List.take_add_one, hy]; exact dropAll_snoc _ _ _ _)
      clear hy hm1 hk1 hkx hv
      go_wp2_with fail
      refine HD.out.mono ?_
      rintro e w1 ⟨rfl, hn1⟩
      have HN1 := Lib.hid (WaMNext.trans HK1.out hn1)
      clear hn1 e0
      go_wp2_with fail
      go_roundw
      case rel => exact ⟨j + 1, by omega, by go_num, by rw [HTK.out]; exact HN1⟩
      case measure => simp [intOf]; omega
    · obtain rfl : j = n := by omega
      have hmq := HMQ.out
      rw [List.take_of_length_le (by rw [HN.out]; exact Nat.le_refl _)] at hmq
      obtain ⟨⟨F1, tg1, hm1⟩, hk1⟩ := hmq
      have c2 : wr.cell? ⟨b, 2, none⟩ = some (.map (some kb)) := mx_cell (j := 2) hm1.block
      have HM1 := Lib.hid hm1
      have HK1 := Lib.hid hk1
      clear hm1 hk1
      go_wp2_with (at_delete; go_must (refine wpList_delK HM1.out.kmap rfl _ _ rfl rfl id rfl hwf ?_); intro w2 hm2 hg2)
      have hd := HM1.out.delKn (id := id) ((Kept.grown hg2).mono (fun g _ e => Option.some.inj e)) hm2
      have HW := Lib.hid (show WaNext (fun g => lab g = 3) w w2 b ab tb (S.remove id) from by
        rw [HRM.out]
        refine ⟨⟨(dropAll_bnd id _ HB.out).1.del id, kb, ob, _, _, _, hd.widen (fun g h => h.imp_right (fun h => ⟨h.1, Nat.lt_of_lt_of_le h.2 hg2.size⟩)) (fun g h => h.elim (fun h => hd.own g (.inl h)) (fun h => ?_))⟩, (HK1.out.mono (fun _ _ h => h.1)).trans (Kept.grown hg2) (fun g hg e => ?_)⟩
        · exact h.2
        · obtain rfl := Option.some.inj e
          exact HM1.out.ink.elim (fun h => h) (fun h => by omega))
      clear hm2 hg2 hd c2
      go_wp2_with fail
      go_ret
      exact ⟨rfl, H.out.wa_next HW.out⟩
theorem eachGo_snoc (x : Int) (c : List Int) : ∀ o : List Int, eachGo o (c ++ [x]) = if (eachGo o c).contains x = true then eachGo o c else eachGo o c ++ [x] := by
  induction c with
  | nil => exact fun o => rfl
  | cons y r ih => exact fun o => ih _
theorem eachL_snoc (x : Int) (c : List Int) : eachL (c ++ [x]) = if (eachL c).contains x = true then eachL c else eachL c ++ [x] := eachGo_snoc x c []
set_option maxRecDepth 100000 in
set_option maxHeartbeats 4000000 in
theorem wa_once {O : Nat → Prop} (u : Value) (c : List Int) (w : World) (h : IntsIn O w u c) (hl : c.length ≤ 1000000) :
    Calls Tryz.prog 106 #[u] w fun e w' => ∃ v, e = .returned v ∧ w'.ownsRow w.heap.size 32 1 v (eachL c).length ((eachL c).map (Value.int .i64)) ∧ Below w.heap.size w w' := by
  obtain ⟨i0, hi, hz0, hz1, hz2⟩ := info_parts cinfo_lit
  have HU := Lib.hid h
  obtain ⟨A, k, rfl, _⟩ := h
  obtain ⟨n, hn⟩ : ∃ n, c.length = n := ⟨_, rfl⟩
  rw [hn] at HU hl ⊢
  have HN := Lib.hid hn
  clear hn
  go_enter Tryz.func106, Tryz.ntmps106
  go_wp2_with fail
  go_loopw [3, 8] (fun ov iv wq => ∃ j : Nat, j ≤ n ∧ iv = .int .i64 j ∧ Hid (wq.ownsRow w.heap.size 32 1 ov (eachL (c.take j)).length ((eachL (c.take j)).map (Value.int .i64))) ∧ Hid (Below w.heap.size w wq)) (fun _ iv _ => n - (intOf iv).toNat)
  case atStart => exact ⟨0, Nat.zero_le _, rfl, Lib.hid (World.ownsRow_nil _ _ _ _), Lib.hid (Below.refl _ _)⟩
  case round =>
    obtain ⟨j, hj, rfl, HO, HBQ⟩ := hrel
    by_cases hlt : j < n
    · obtain ⟨y, hy⟩ := getElem_of (l := c) (i := j) (by rw [HN.out]; exact hlt)
      obtain ⟨g, o, rfl, hg, _, e0⟩ : ∃ g o, A = some ⟨g, o, none⟩ ∧ g < w.heap.size ∧ O g ∧ w.cell? ⟨g, o + j, none⟩ = some (.int .i64 y) := by
        obtain ⟨A', c', hv, _, _, hx⟩ := HU.out
        simp only [Value.slice.injEq] at hv
        obtain ⟨rfl, _, rfl⟩ := hv
        exact hx j y hy
      have e1 := (HBQ.out.cell (p := ⟨g, o + j, none⟩) hg).trans e0
      have HTK := Lib.hid (show c.take (j + 1) = c.take j ++ [y] from by rw [List.take_add_one, hy]; rfl)
      have hel := eachL_len (c.take j)
      rw [List.length_take] at hel
      obtain ⟨xs, hxs⟩ : ∃ z, eachL (c.take j) = z := ⟨_, rfl⟩
      rw [hxs] at HO hel
      have hsn : eachL (c.take (j + 1)) = if xs.contains y = true then xs else xs ++ [y] := by rw [HTK.out, eachL_snoc, hxs]
      obtain ⟨Ao, co, rfl, _⟩ := mx_slice HO.out
      have HCT := Lib.hid (contains_l _ xs y wr (IntsIn.of_own HO.out) (by omega))
      have hz := HBQ.out.size
      obtain ⟨q, hq⟩ : ∃ q, xs.contains y = q := ⟨_, rfl⟩
      rw [hq] at hsn HCT
      clear hy e0 hxs hq
      cases q with
      | true =>
        have HSN := Lib.hid (show eachL (c.take (j + 1)) = xs from hsn)
        clear hsn
        go_wp2_with fail
        refine HCT.out.mono ?_
        rintro e w1 ⟨rfl, rfl⟩
        go_wp2_with fail
        go_roundw
        case rel =>
          refine ⟨j + 1, by omega, by go_num, ?_, HBQ⟩
          rw [HSN.out]
          exact HO
        case measure => simp [intOf]; omega
      | false =>
        have HSN := Lib.hid (show eachL (c.take (j + 1)) = xs ++ [y] from hsn)
        clear hsn
        go_wp2_with fail
        refine HCT.out.mono ?_
        rintro e w1 ⟨rfl, rfl⟩
        go_wp2_with (at_builtin; refine wpList_append_own_at _ rfl _ _ 33 rfl w.heap.size 32 i0 (.int .i64 0) 1 8 Tryz.underlying33 hi hz0 hz1 hz2 rfl (by decide) _ xs.length _ rfl (own_below HO.out (mx_al wr _)) ⟨wr.heap.size, 0, none⟩ 1 1 [.int .i64 y] rfl rfl (cell_one_new' _ _ _) (by simp [Value.oneCell']) (by unfold maxLen; omega) (by omega) (by simp; omega) ?_; intro v' w2' hown hgrow hnl2 hat)
        have HO2' := Lib.hid hown
        have HB2' := Lib.hid (HBQ.out.trans (((mx_al wr (.cells #[.int .i64 y] 32)).mono hz).grown hgrow (by simp; omega) (fun g hg => (own_lt HO.out g hg).1)))
        clear hown hgrow hnl2 hat
        go_wp2
        go_roundw
        case rel =>
          refine ⟨j + 1, by omega, by go_num, ?_, HB2'⟩
          rw [HSN.out, List.length_append, List.map_append]
          exact HO2'
        case measure => simp [intOf]; omega
    · obtain rfl : j = n := by omega
      have ho := HO.out
      rw [List.take_of_length_le (by rw [HN.out]; exact Nat.le_refl _)] at ho
      obtain ⟨Ao, co, rfl, _⟩ := mx_slice ho
      have HO2 := Lib.hid ho
      clear ho
      go_wp2_with fail
      go_ret
      exact ⟨_, rfl, HO2.out, HBQ.out⟩
theorem ar_has {O : Nat → Prop} (b : Nat) (A : Arn) (id : Int) (w : World) (h : ArAt O w b A) :
    Calls Tryz.prog 134 #[.pointer (some ⟨b, 0, none⟩), .int .i64 id] w fun e w' => e = .returned (.bool (A.find id).isSome) ∧ Below w.heap.size w w' := by
  have HIS := Lib.hid (ar_is b A w h)
  have hf := ar_find b A id w h
  cases hp : A.find id with
  | none =>
    rw [hp] at hf
    have HF := Lib.hid hf
    clear hf hp h
    go_enter Tryz.func134, Tryz.ntmps134
    go_wp2_with fail
    refine HIS.out.mono ?_
    rintro e w1 ⟨rfl, rfl⟩
    go_wp2_with fail
    refine HF.out.mono ?_
    rintro e w2 ⟨rfl, hb⟩
    have HB := Lib.hid hb
    clear hb
    go_wp2_with fail
    go_ret
    exact ⟨rfl, HB.out⟩
  | some p =>
    rw [hp] at hf
    have HF := Lib.hid hf
    clear hf hp h
    go_enter Tryz.func134, Tryz.ntmps134
    go_wp2_with fail
    refine HIS.out.mono ?_
    rintro e w1 ⟨rfl, rfl⟩
    go_wp2_with fail
    refine HF.out.mono ?_
    rintro e w2 ⟨rfl, hb⟩
    have HB := Lib.hid hb
    have hq : decide ((0 : Int) ≤ (p : Int)) = true := by simp
    clear hb
    simp only [findInt]
    go_wp2_with fail
    go_ret
    exact ⟨rfl, HB.out⟩
end Go.Proofs.YtoojmhjagipmdaaGreat
