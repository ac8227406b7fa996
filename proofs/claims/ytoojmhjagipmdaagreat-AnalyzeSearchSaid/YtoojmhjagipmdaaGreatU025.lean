/- package salvorlaw13: reasons, complete, decide. Plain: a clause that holds always has a literal and its negation. Plain: the example of chapter 13. Plain: a watch that begins with clauses. package salvorlaw13: complete, failing, decide. Plain: decisions, and ways back. Plain: what a search keeps: decisions come first of their levels; a clause that is learned is added where all of its literals but one are false. -/
import Derived.Test.YtoojmhjagipmdaaGreatU024
import Derived.Test.YtoojmhjagipmdaaGreatU007
import Derived.Test.YtoojmhjagipmdaaGreatU017
import Derived.Test.YtoojmhjagipmdaaGreatU022
import Derived.Test.YtoojmhjagipmdaaGreatU011
import Derived.Test.YtoojmhjagipmdaaGreatU016
namespace Go.Proofs.YtoojmhjagipmdaaGreat
open Go.RowKit

/-- the clauses by their numbers -/
def clsC (cs : List (List Int)) (id : Int) : Option (List Int) := if 1 ≤ id then cs[(id - 1).toNat]? else none
theorem clsC_some {cs : List (List Int)} {id : Int} {c : List Int} (h : clsC cs id = some c) : ∃ n : Nat, id = n + 1 ∧ cs[n]? = some c ∧ n < cs.length := by
  unfold clsC at h
  split at h
  · exact ⟨(id - 1).toNat, by omega, h, (List.getElem?_eq_some_iff.1 h).1⟩
  · cases h
end Go.Proofs.YtoojmhjagipmdaaGreat
namespace Go.Proofs.YtoojmhjagipmdaaGreat
open Go.RowKit

theorem alwGo_two {c : List Int} (hc : ∀ y ∈ c, litB y = true) : ∀ {r : List Int} {l : Int}, (l = 0 ∨ l ∈ c) → (∀ x ∈ r, x ∈ c) → alwGo l r = true → ∃ y ∈ c, -y ∈ c := by
  intro r
  induction r with
  | nil => intro l _ _ h; cases h
  | cons x r ih =>
    intro l hl hr h
    unfold alwGo at h
    have hx := hr x List.mem_cons_self
    rw [Bool.or_eq_true] at h
    rcases h with h | h
    · rw [Bool.and_eq_true] at h
      obtain ⟨h1, h2⟩ := h
      rcases hl with rfl | hl
      · cases h1
      · have e : x = litN l := by simpa using h2
        unfold litN at e
        rw [if_pos (hc l hl)] at e
        exact ⟨l, hl, e ▸ hx⟩
    · exact ih (.inr hx) (fun y hy => hr y (List.mem_cons_of_mem _ hy)) h
/-- a clause that holds always has a literal and its negation -/
theorem alwL_two {c : List Int} (h : alwL c = true) : ∃ y ∈ c, -y ∈ c := by
  unfold alwL at h
  rw [Bool.and_eq_true] at h
  obtain ⟨h1, h2⟩ := h
  unfold clauseB at h1
  rw [Bool.and_eq_true, List.all_eq_true] at h1
  exact alwGo_two h1.2 (.inl rfl) (fun x hx => normL_mem hx) h2
theorem alwL_no {c : List Int} (h : ∀ y ∈ c, -y ∉ c) : alwL c = false := by
  cases ha : alwL c with
  | false => rfl
  | true =>
    obtain ⟨y, hy, hn⟩ := alwL_two ha
    exact absurd hn (h y hy)
end Go.Proofs.YtoojmhjagipmdaaGreat
namespace Go.Proofs.YtoojmhjagipmdaaGreat
open Go.RowKit

def x13L : List (List Int) := [[1, 2, 3], [-1, 4], [-4, -2, -2], [5]]
def x13A : Arn := addAll arn0 0 x13L
def x13S0 : Wst := ⟨[], [], 0⟩
def x13S1 : Wst := x13S0.addBy 1 [1, 2, 3] [1, 2]
def x13S2 : Wst := x13S1.addBy 2 [-1, 4] [-1, 4]
def x13S3 : Wst := x13S2.addBy 3 [-4, -2] [-4, -2]
def x13S4 : Wst := x13S3.addBy 4 [5] [5]
def x13T0 : Trl := trl0 5
def x13T4 : Trl := x13T0.assigned 5 4
def x13T5 : Trl := x13T4.push.assigned (-2) 0
def x13T6 : Trl := (propW x13A x13T5 x13S4).1
def x13S6 : Wst := (propW x13A x13T5 x13S4).2.1
def x13T7 : Trl := x13T6.push.assigned (-3) 0
def x13T8 : Trl := (propW x13A x13T7 x13S6).1
def x13S8 : Wst := (propW x13A x13T7 x13S6).2.1
def x13T9 : Trl := x13T8.backed 0
def x13S9 : Wst := ⟨x13S8.known, x13S8.of, min x13S8.looked x13T9.order.length⟩
def x13T10 : Trl := x13T9.push.assigned 2 0
def x13T11 : Trl := x13T10.assigned 4 0
def x13T12 : Trl := (propW x13A x13T11 x13S9).1
def x13S12 : Wst := (propW x13A x13T11 x13S9).2.1
/-- the clauses that are known, one after the other -/
def x13R : Nat → Trl × Wst
  | 0 => (x13T0, x13S0)
  | 1 => (x13T0, x13S1)
  | 2 => (x13T0, x13S2)
  | 3 => (x13T0, x13S3)
  | _ => (x13T4, x13S4)
def x13K (k : Nat) : Nat := if k = 3 then 2 else 1
theorem PT.sim {T : Trl} (h : PT T) : ∃ its, Sim T its := by
  obtain ⟨its, h1, _⟩ := h
  exact ⟨its, h1⟩
theorem PT.sta {T : Trl} (h : PT T) : ∀ s ∈ T.starts, 0 ≤ s ∧ s ≤ (T.order.length : Int) := fun s hs => by
  obtain ⟨its, h1, h2⟩ := h
  obtain ⟨k, hk, e⟩ := List.getElem_of_mem hs
  have := (h2 k s (by rw [List.getElem?_eq_getElem hk, e])).1
  rw [h1.order, List.length_map]
  exact this
theorem PT.fit {T : Trl} (h : PT T) : ∀ l ∈ T.order, litV l < T.vars.length := by
  obtain ⟨its, h1, _⟩ := h
  exact h1.fit
end Go.Proofs.YtoojmhjagipmdaaGreat
namespace Go.Proofs.YtoojmhjagipmdaaGreat
open Go.RowKit

/-- clauses of at most six literals of the variables 1 to 6 -/
def Six (cs : List (List Int)) : Prop := cs.length ≤ 900 ∧ ∀ c ∈ cs, c.length ≤ 6 ∧ ∀ y ∈ c, litB y = true ∧ litV y < 7
theorem Six.right {cs : List (List Int)} (h : Six cs) {c : List Int} (hc : c ∈ cs) : clauseB c = true ∧ c.length ≤ 6 := by
  obtain ⟨h2, h3⟩ := h.2 c hc
  refine ⟨?_, h2⟩
  unfold clauseB
  rw [Bool.and_eq_true, decide_eq_true_eq, List.all_eq_true]
  exact ⟨by omega, fun y hy => (h3 y hy).1⟩
theorem Six.fit {cs : List (List Int)} (h : Six cs) : Fit6 (clsC cs) := fun id c hc => by
  obtain ⟨n, rfl, hn, hl⟩ := clsC_some hc
  obtain ⟨h2, h3⟩ := h.2 c (List.mem_of_getElem? hn)
  have := h.1
  exact ⟨by omega, h2, h3⟩
theorem get_cls {cs : List (List Int)} (h : Six cs) (j : Int) : (addAll arn0 0 cs).get j = clsC cs j := by
  have hl := h.1
  rw [(addAll_get cs arn0 0 inv0 (by decide) (by omega) j).1]
  unfold clsC
  by_cases hj : 1 ≤ j
  · rw [if_pos (by omega), if_pos hj, show (j - ((0 : Nat) : Int) - 1).toNat = (j - 1).toNat by omega]
    cases hc : cs[(j - 1).toNat]? with
    | none => rfl
    | some c =>
      show (if clauseB c = true then some c else none) = some c
      rw [if_pos (h.right (List.mem_of_getElem? hc)).1]
  · rw [if_neg (by omega), if_neg hj]
    exact Arn.get_low _ (by omega)
theorem get_find {A : Arn} {id : Int} {c : List Int} (h : A.get id = some c) : (A.find id).isSome = true := by
  cases hf : A.find id with
  | some p => rfl
  | none =>
    unfold Arn.get Arn.ent at h
    rw [hf] at h
    cases h
section
variable {C : Int → Option (List Int)} {T : Trl} {its : List RIt} {S : Wst}
theorem St.find {cs : List (List Int)} (h6 : Six cs) (h : St (clsC cs) T its S) : ∀ id k, S.kn id = some k → ((addAll arn0 0 cs).find id).isSome = true := fun id k hk => by
  obtain ⟨c, hc, _⟩ := h.inv.kn id k hk
  exact get_find ((get_cls h6 id).trans hc)
theorem addTwo_one {c : List Int} (hl : (eachL c).length ≤ 1) (T : Trl) : addTwo T c = eachL c := by
  rcases addTwo_cases T c with ⟨a, b, e, hab, ha, hb⟩ | ⟨_, e⟩
  · have ha' := eachL_mem.2 ha
    have hb' := eachL_mem.2 hb
    cases he : eachL c with
    | nil => rw [he] at ha'; cases ha'
    | cons x r =>
      rw [he] at hl ha' hb'
      have hr : r = [] := List.eq_nil_of_length_eq_zero (by simpa using hl)
      subst hr
      exact absurd ((List.mem_singleton.1 ha').trans (List.mem_singleton.1 hb').symm) hab
  · exact e
/-- what a clause is that is added, and what is told -/
inductive StartO (c : List Int) (K I : Nat) (U : Int) (T' : Trl) (its' : List RIt) : Prop
  | alw (ha : alwL c = true) (hk : K = 4)
  | fails (ha : alwL c = false) (hk : K = 3) (hi : I = 2) (hf : ∀ y ∈ c, Has its' (-y))
  | unit (ha : alwL c = false) (hk : K = 2) (hi : I = 3) (hv : T'.val U = 1) (ho : ∃ y ∈ c, Has its' y)
  | rests (ha : alwL c = false) (hk : K = 1) (hi : I ≠ 2 ∧ I ≠ 3) (ho : (eachL c).length ≤ 1 → ∃ y ∈ c, Has its' y)
theorem start_step (h : St C T its S) (hF : Fit6 C) (hlk : S.looked = 0) {id : Int} {c : List Int} (hc : C id = some c) (hk : S.kn id = none) {f : Int → Int} (hff : ∀ y, litB y = true → ((0 < ofF f y ↔ Has its y) ∧ (ofF f y < 0 ↔ Has its (-y)))) :
    ∃ its', St C (addOk T S id c).T its' (addOk T S id c).S ∧ its <+: its' ∧ (addOk T S id c).T.now = T.now ∧ (addOk T S id c).S.looked = 0 ∧ (∀ j, ((addOk T S id c).S.kn j).isSome = (decide (j = id) || (S.kn j).isSome)) ∧
      StartO c (addOk T S id c).res (lookF f c).1 (lookF f c).2 (addOk T S id c).T its' := by
  obtain ⟨its', h1, h2, h3, h4, h5, h6⟩ := h.add hF hlk hc hk
  refine ⟨its', h1, h2, h3, h4, h5, ?_⟩
  have hcb := (hF id c hc).2.2
  rcases h6 with ⟨ha, hr, _, _⟩ | ⟨ha, hr, h6⟩
  · exact .alw ha hr
  · rcases add_kind h.sim (fun y hy => (hcb y hy).1) hff with ⟨a6, a7, a8⟩ | ⟨a, a6, a7, ha1, ha2, ha3, ha4, ha5⟩ | ⟨a6, a7, y, hy, ht⟩ | ⟨a6, a7, a8⟩
    · rw [a7]
      exact .fails ha (hr.trans a6) rfl (fun y hy => ((h.sim.fal_iff (hcb y hy).1).1 (a8 y hy)).imp fun p ⟨x, hx, e⟩ => ⟨x, pre_get h2 hx, e⟩)
    · rw [a7]
      rcases h6 with ⟨_, hT, hi⟩ | ⟨hne, _⟩
      · have hh : Has its' a := by
          rw [hi, ha4]
          exact ⟨its.length, ⟨a, id, T.now⟩, by simp, rfl⟩
        exact .unit ha (hr.trans a6) rfl (sim_tru h1.sim hh) ⟨a, ha1, hh⟩
      · exact absurd a6 hne
    · rw [a7]
      refine .rests ha (hr.trans a6) (by simp) (fun _ => ⟨y, hy, ?_⟩)
      exact Has.pre h2 ((h.sim.tru_iff (hcb y hy).1).1 ht)
    · rw [a7]
      refine .rests ha (hr.trans a6) (by simp) (fun hl => ?_)
      rw [addTwo_one hl T] at a6
      cases he : eachL c with
      | nil => rw [he] at a6; cases a6
      | cons x r =>
        rw [he] at hl a6
        have hr2 : r = [] := List.eq_nil_of_length_eq_zero (by simpa using hl)
        subst hr2
        have hx : x ∈ c := eachL_mem.1 (by rw [he]; exact List.mem_cons_self)
        have e : addKind T [x] = if T.fal x = true then 3 else if T.tru x = true then 1 else 2 := rfl
        rw [e, a8 x hx] at a6
        split at a6
        · cases a6
        · cases a6
/-- where the level is 0, all is at the level 0 -/
theorem has0_now (h : Sim T its) (h0 : T.now = 0) {y : Int} (hy : Has its y) : Has0 its y := by
  obtain ⟨p, x, hp, e⟩ := hy
  have := h.pos x (List.mem_of_getElem? hp)
  exact ⟨p, x, hp, e, by omega⟩
/-- what has no reason -/
def PZ (B : Int → Prop) (T : Trl) : Prop := ∃ its, Sim T its ∧ ∀ x ∈ its, x.reason = 0 → B x.lit
theorem PZ.assigned {B : Int → Prop} (h : PZ B T) (l r : Int) (hr : r = 0 → B l) : PZ B (T.assigned l r) := by
  obtain ⟨its, h1, h2⟩ := h
  by_cases he : T.assignErr l r = 0
  · refine ⟨_, h1.snoc he, fun x hx h0 => ?_⟩
    rcases List.mem_append.1 hx with hx | hx
    · exact h2 x hx h0
    · rw [List.mem_singleton.1 hx] at h0 ⊢
      exact hr h0
  · have e : T.assigned l r = T := by unfold Trl.assigned; rw [if_neg he]
    rw [e]
    exact ⟨its, h1, h2⟩
theorem PZ.lookOne {B : Int → Prop} {A : Arn} (h : PZ B T) (l id : Int) (hid : id ≠ 0) : PZ B (lookOne A T S l id).1 := by
  unfold Proofs.YtoojmhjagipmdaaGreat.lookOne
  split
  · exact h
  · split
    · exact h
    · split
      · exact h
      · split
        · exact h
        · split
          · exact h
          · exact h.assigned _ _ (fun e => absurd e hid)
theorem PZ.lookGo {B : Int → Prop} {A : Arn} (l : Int) (ids : List Int) : ∀ {T : Trl} {S : Wst}, (∀ id ∈ ids, id ≠ 0) → PZ B T → PZ B (lookGo A T S l ids).1 := by
  induction ids with
  | nil => exact fun _ h => h
  | cons id r ih =>
    intro T S hid h
    have h1 := h.lookOne (A := A) (S := S) l id (hid id List.mem_cons_self)
    rw [lookGo_cons]
    split
    · exact h1
    · exact ih (fun j hj => hid j (List.mem_cons_of_mem _ hj)) h1
theorem PZ.propGo {B : Int → Prop} {A : Arn} (n : Nat) : ∀ {T : Trl} {S : Wst}, S.Bnd → S.Link → (∃ its, Sim T its) → PZ B T → PZ B (propGo A n T S).1 := by
  induction n with
  | zero => exact fun _ _ _ h => h
  | succ n ih =>
    intro T S hb hL hs h
    unfold Proofs.YtoojmhjagipmdaaGreat.propGo
    split
    · exact h
    · rename_i y hy
      have hr := hb.row (litN y)
      have hg := PZ.lookGo (A := A) (S := S) (litN y) (S.row (litN y)) (fun id hid => by have := (hr.2 id hid).1; omega) h
      have ha := lookGo_all A (T := T) (S.row (litN y)) hb hL hs (fun id hid => hid) (up_nodup hr.1)
      split
      · rename_i he
        rw [he] at hg
        exact hg
      · rename_i T' S' he
        rw [he] at hg ha
        obtain ⟨h1, h2, h3, _, _⟩ := ha
        exact ih (S := S'.step) ⟨h1.kr, h1.kb, h1.kl, h1.orr, h1.ob⟩ h2 h3 hg
theorem addOk_pz {B : Int → Prop} (h : PZ B T) {id : Int} {c : List Int} (hid : id ≠ 0) : PZ B (addOk T S id c).T := by
  unfold addOk
  split
  · exact h
  · show PZ B (if addKind T (addTwo T c) = 2 then T.assigned ((addTwo T c).headD 0) id else T)
    split
    · exact h.assigned _ _ (fun e => absurd e hid)
    · exact h
/-- what is known -/
structure Beg (cs : List (List Int)) (k : Nat) (T : Trl) (its : List RIt) (S : Wst) (fl : Bool) : Prop where
  st : St (clsC cs) T its S
  now : T.now = 0
  lk : S.looked = 0
  kn : ∀ j, (S.kn j).isSome = decide (1 ≤ j ∧ j ≤ (k : Int))
  one : fl = false → One (clsC cs) (fun j => 1 ≤ j ∧ j ≤ (k : Int)) its
  bad : fl = true → ∃ c ∈ cs, ∀ y ∈ c, Has its (-y)
  pz : PZ (fun _ => False) T
theorem beg0 (cs : List (List Int)) : Beg cs 0 (trl0 6) [] ⟨[], [], 0⟩ false where
  st := st0 _
  now := rfl
  lk := rfl
  kn := fun j => by
    rw [decide_eq_false (by omega)]
    rfl
  one := fun _ id c hk _ _ _ => by omega
  bad := fun h => by cases h
  pz := ⟨[], (st0 (fun _ => none)).sim, fun x hx => by cases hx⟩
theorem Beg.next {cs : List (List Int)} {k : Nat} {fl : Bool} (h : Beg cs k T its S fl) (h6 : Six cs) {c : List Int} (hc : cs[k]? = some c) {f : Int → Int} (hff : ∀ y, litB y = true → ((0 < ofF f y ↔ Has its y) ∧ (ofF f y < 0 ↔ Has its (-y)))) :
    ∃ its', Beg cs (k + 1) (addOk T S ((k : Int) + 1) c).T its' (addOk T S ((k : Int) + 1) c).S (fl || decide ((addOk T S ((k : Int) + 1) c).res = 3)) ∧ StartO c (addOk T S ((k : Int) + 1) c).res (lookF f c).1 (lookF f c).2 (addOk T S ((k : Int) + 1) c).T its' := by
  have hcc : clsC cs ((k : Int) + 1) = some c := by
    unfold clsC
    rw [if_pos (by omega), show ((k : Int) + 1 - 1).toNat = k by omega]
    exact hc
  have hn : S.kn ((k : Int) + 1) = none := by
    have := h.kn ((k : Int) + 1)
    rw [decide_eq_false (by omega)] at this
    exact Option.isSome_eq_false_iff.1 this |> Option.isNone_iff_eq_none.1
  obtain ⟨its', h1, h2, h3, h4, h5, ho⟩ := start_step h.st h6.fit h.lk hcc hn hff
  refine ⟨its', ⟨h1, h3.trans h.now, h4, fun j => ?_, fun hf => ?_, fun hf => ?_, addOk_pz h.pz (by omega)⟩, ho⟩
  · rw [h5, h.kn]
    by_cases e : j = (k : Int) + 1
    · subst e
      simp
      omega
    · rw [decide_eq_false e, Bool.false_or]
      congr 1
      apply propext
      omega
  · rw [Bool.or_eq_false_iff] at hf
    intro j d hj hd ha hl
    by_cases e : j = (k : Int) + 1
    · subst e
      rw [hcc] at hd
      obtain rfl := Option.some.inj hd
      have key : ∃ y ∈ c, Has its' y := by
        rcases ho with ⟨a1, _⟩ | ⟨_, a2, _⟩ | ⟨_, _, _, _, a5⟩ | ⟨_, _, _, a4⟩
        · rw [a1] at ha; cases ha
        · rw [a2] at hf; cases hf.2
        · exact a5
        · exact a4 hl
      obtain ⟨y, hy, hh⟩ := key
      exact ⟨y, hy, has0_now h1.sim (h3.trans h.now) hh⟩
    · obtain ⟨y, hy, hh⟩ := h.one hf.1 j d (by omega) hd ha hl
      exact ⟨y, hy, hh.pre h2⟩
  · rw [Bool.or_eq_true] at hf
    rcases hf with hf | hf
    · obtain ⟨d, hd, hh⟩ := h.bad hf
      exact ⟨d, hd, fun y hy => (hh y hy).pre h2⟩
    · have hf := of_decide_eq_true hf
      rcases ho with ⟨_, a2⟩ | ⟨_, _, _, a4⟩ | ⟨_, a2, _⟩ | ⟨_, a2, _⟩
      · rw [a2] at hf; cases hf
      · exact ⟨c, List.mem_of_getElem? hc, a4⟩
      · rw [a2] at hf; cases hf
      · rw [a2] at hf; cases hf
/-- a watch that knows all of some clauses, from the level 0 on -/
structure Run (cs : List (List Int)) (T : Trl) (its : List RIt) (S : Wst) : Prop where
  st : St (clsC cs) T its S
  kn : ∀ j, (S.kn j).isSome = (clsC cs j).isSome
  one : One (clsC cs) (fun _ => True) its
  lk : S.looked = its.length
theorem Beg.all {cs : List (List Int)} {fl : Bool} (h : Beg cs cs.length T its S fl) (j : Int) : (S.kn j).isSome = (clsC cs j).isSome := by
  rw [h.kn]
  unfold clsC
  by_cases h1 : 1 ≤ j
  · rw [if_pos h1]
    cases hc : cs[(j - 1).toNat]? with
    | none =>
      rw [List.getElem?_eq_none_iff] at hc
      exact decide_eq_false (by omega)
    | some c =>
      have := (List.getElem?_eq_some_iff.1 hc).1
      exact decide_eq_true (by omega)
  · rw [if_neg h1]
    exact decide_eq_false (by omega)
theorem Beg.ones {cs : List (List Int)} (h : Beg cs cs.length T its S false) : One (clsC cs) (fun _ => True) its := fun id c _ hc ha hl => by
  obtain ⟨n, hn, _, hl2⟩ := clsC_some hc
  exact h.one rfl id c (by omega) hc ha hl
end
end Go.Proofs.YtoojmhjagipmdaaGreat
namespace Go.Proofs.YtoojmhjagipmdaaGreat
open Go.RowKit

/-- a decision -/
def decA (T : Trl) (y : Int) : Trl := if T.val y = 0 then T.assigned y 0 else T
def decT (T : Trl) (l : Int) : Trl := decA T.push l
end Go.Proofs.YtoojmhjagipmdaaGreat
namespace Go.Proofs.YtoojmhjagipmdaaGreat
open Go.RowKit

section
variable {cs : List (List Int)} {T : Trl} {its : List RIt} {S : Wst}
theorem Has.two (h : Sim T its) {y : Int} (hy : litB y = true) (h1 : Has its y) (h2 : Has its (-y)) : False := by
  obtain ⟨p, x, hp, e⟩ := h1
  obtain ⟨q, z, hq, e2⟩ := h2
  have := h.inj hp hq (by rw [e, e2, litV_negate])
  subst this
  rw [hp] at hq
  obtain rfl := Option.some.inj hq
  have := (litB_iff y).1 hy
  omega
/-- a watched literal that is false: the other is true -/
theorem St.other (h : St (clsC cs) T its S) (hl : S.looked = its.length) {id : Int} {k : Kn} (hk : S.kn id = some k) {a : Int} (ha : a ∈ k.by_) (hf : Has its (-a)) : Has its (k.other a) := by
  obtain ⟨p, x, hp, e⟩ := hf
  have hpl := (List.getElem?_eq_some_iff.1 hp).1
  obtain ⟨q, y, hq, h1, _⟩ := h.inv.w id k a hk ha p x (by omega) hp e
  exact ⟨q, y, hq, h1⟩
theorem lits_one {c : List Int} (hl : (eachL c).length ≤ 1) {a b : Int} (ha : a ∈ c) (hb : b ∈ c) : a = b := by
  have ha' := eachL_mem.2 ha
  have hb' := eachL_mem.2 hb
  cases he : eachL c with
  | nil => rw [he] at ha'; cases ha'
  | cons x r =>
    rw [he] at hl ha' hb'
    have hr : r = [] := List.eq_nil_of_length_eq_zero (by simpa using hl)
    subst hr
    exact (List.mem_singleton.1 ha').trans (List.mem_singleton.1 hb').symm
theorem Run.known (h : Run cs T its S) {id : Int} {c : List Int} (hc : clsC cs id = some c) : ∃ k, S.kn id = some k ∧ k.lits = eachL c := by
  have hk := h.kn id
  rw [hc] at hk
  obtain ⟨k, hk⟩ := Option.isSome_iff_exists.1 hk
  obtain ⟨d, hd, hl⟩ := h.st.inv.kn id k hk
  rw [hc] at hd
  obtain rfl := Option.some.inj hd
  exact ⟨k, hk, hl⟩
/-- a clause all but one of whose literals are false has that one -/
theorem Run.closed (h : Run cs T its S) (h6 : Six cs) {id : Int} {c : List Int} (hc : clsC cs id = some c) {a : Int} (ha : a ∈ c) (ho : ∀ y ∈ c, y ≠ a → Has its (-y)) : Has its a := by
  have hcb := (h6.fit id c hc).2.2
  obtain ⟨k, hk, hkl⟩ := h.known hc
  obtain ⟨_, hby, _, hlb⟩ := h.st.inv.bnd.kn hk
  rcases hby with h0 | ⟨p, q, hpq, hb, hp, hq⟩
  · cases hal : alwL c with
    | true =>
      obtain ⟨y, hy, hny⟩ := alwL_two hal
      by_cases e1 : y = a
      · subst e1
        have hne : -y ≠ y := fun e => by
          have := (litB_iff y).1 (hcb y hy).1
          omega
        have := ho (-y) hny hne
        rwa [Int.neg_neg] at this
      · by_cases e2 : -y = a
        · have := ho y hy e1
          rwa [e2] at this
        · have h1 := ho y hy e1
          have h2 := ho (-y) hny e2
          rw [Int.neg_neg] at h2
          exact (Has.two h.st.sim (hcb y hy).1 h2 h1).elim
    | false =>
      rcases h.st.inv.two id k c hk hc h0 with h2 | h2
      · rw [hal] at h2; cases h2
      · rw [hkl] at h2
        obtain ⟨y, hy, hh⟩ := h.one id c trivial hc hal h2
        rw [lits_one h2 ha hy]
        exact hh.has
  · rw [hkl] at hp hq
    have hp' := eachL_mem.1 hp
    have hq' := eachL_mem.1 hq
    have hpm : p ∈ k.by_ := by rw [hb]; simp
    have hqm : q ∈ k.by_ := by rw [hb]; simp
    have op : k.other p = q := by unfold Kn.other; rw [hb]; simp
    have oq : k.other q = p := by unfold Kn.other; rw [hb]; simp [hpq]
    by_cases e1 : q = a
    · have hne : p ≠ a := fun e => hpq (e.trans e1.symm)
      have := h.st.other h.lk hk hpm (ho p hp' hne)
      rwa [op, e1] at this
    · have h1 := h.st.other h.lk hk hqm (ho q hq' e1)
      rw [oq] at h1
      by_cases e2 : p = a
      · rwa [e2] at h1
      · exact (Has.two h.st.sim (hcb p hp').1 h1 (ho p hp' e2)).elim
/-- no clause is unit, or fails -/
theorem Run.done (h : Run cs T its S) (h6 : Six cs) {f : Int → Int} (hff : ∀ y, litB y = true → ((0 < ofF f y ↔ Has its y) ∧ (ofF f y < 0 ↔ Has its (-y)))) : ∀ c ∈ cs, alwL c = true ∨ (lookF f c).1 = 1 ∨ (lookF f c).1 = 4 := fun c hm => by
  obtain ⟨n, hn⟩ := List.getElem?_of_mem hm
  have hc : clsC cs ((n : Int) + 1) = some c := by
    unfold clsC
    rw [if_pos (by omega), show ((n : Int) + 1 - 1).toNat = n by omega]
    exact hn
  have hcb := (h6.fit _ c hc).2.2
  cases hal : alwL c with
  | true => exact .inl rfl
  | false =>
    right
    by_cases hex : ∃ y ∈ c, 0 < ofF f y
    · left
      rw [show lookF f c = (1, 0) from k_hold hex _ _]
    · right
      have hno : ∀ y ∈ c, ¬ 0 < ofF f y := fun y hy h => hex ⟨y, hy, h⟩
      have hnh : ∀ y ∈ c, ¬ Has its y := fun y hy hh => hno y hy ((hff y (hcb y hy).1).1.2 hh)
      obtain ⟨k, hk, hkl⟩ := h.known hc
      obtain ⟨_, hby, _, _⟩ := h.st.inv.bnd.kn hk
      rcases hby with h0 | ⟨p, q, hpq, hb, hp, hq⟩
      · rcases h.st.inv.two _ k c hk hc h0 with h2 | h2
        · rw [hal] at h2; cases h2
        · rw [hkl] at h2
          obtain ⟨y, hy, hh⟩ := h.one _ c trivial hc hal h2
          exact absurd hh.has (hnh y hy)
      · rw [hkl] at hp hq
        have hp' := eachL_mem.1 hp
        have hq' := eachL_mem.1 hq
        have hpm : p ∈ k.by_ := by rw [hb]; simp
        have hqm : q ∈ k.by_ := by rw [hb]; simp
        have op : k.other p = q := by unfold Kn.other; rw [hb]; simp
        have oq : k.other q = p := by unfold Kn.other; rw [hb]; simp [hpq]
        have zp : ofF f p = 0 := by
          have : ¬ ofF f p < 0 := fun h2 => by
            have := h.st.other h.lk hk hpm ((hff p (hcb p hp').1).2.1 h2)
            rw [op] at this
            exact hnh q hq' this
          have := hno p hp'
          omega
        have zq : ofF f q = 0 := by
          have : ¬ ofF f q < 0 := fun h2 => by
            have := h.st.other h.lk hk hqm ((hff q (hcb q hq').1).2.1 h2)
            rw [oq] at this
            exact hnh p hp' this
          have := hno q hq'
          omega
        rw [k_open hpq hp' hq' zp zq hno (fun y hy => by
          have := (litB_iff y).1 (hcb y hy).1
          omega)]
/-- a decision -/
structure DecO (cs : List (List Int)) (T : Trl) (its : List RIt) (S : Wst) (l : Int) (R : Trl × Wst × Option Int) (its' : List RIt) : Prop where
  st : St (clsC cs) R.1 its' R.2.1
  pre : its <+: its'
  now : R.1.now = T.now + 1
  kn : ∀ j, (R.2.1.kn j).isSome = (clsC cs j).isSome
  one : One (clsC cs) (fun _ => True) its'
  has : Has its' l ∨ Has its (-l)
  src : ∀ (p : Nat) (x : RIt), its'[p]? = some x → x.reason = 0 → Has its x.lit ∨ x.lit = l
  ok : R.2.2 = none → Run cs R.1 its' R.2.1
  bad : ∀ id, R.2.2 = some id → ∃ c, clsC cs id = some c ∧ ∀ y ∈ c, Has its' (-y)
theorem dec_step (h : Run cs T its S) (h6 : Six cs) {l : Int} (hl : litB l = true ∧ litV l < 7) : ∃ its', DecO cs T its S l (propW (addAll arn0 0 cs) (decT T l) S) its' := by
  have hp := h.st.push h.lk
  have key : ∃ i1, St (clsC cs) (decT T l) i1 S ∧ its <+: i1 ∧ (decT T l).now = T.now + 1 ∧ (Has i1 l ∨ Has its (-l)) ∧ ∀ x ∈ i1, x.reason = 0 → Has its x.lit ∨ x.lit = l := by
    have hold : ∀ x ∈ its, Has its x.lit := fun x hx => by
      obtain ⟨p, hp, e⟩ := List.getElem_of_mem hx
      exact ⟨p, x, by rw [List.getElem?_eq_getElem hp, e], rfl⟩
    unfold decT decA
    by_cases hz : T.push.val l = 0
    · rw [if_pos hz]
      have herr := free_err (T := T.push) h.st.vars hl.1 hl.2 hz (r := 0) ⟨by omega, by omega⟩
      refine ⟨_, hp.assign herr (fun h => absurd rfl h), ⟨_, rfl⟩, (assigned_now _ _ _).trans push_now, .inl ⟨its.length, ⟨l, 0, T.push.now⟩, by simp, rfl⟩, fun x hx _ => ?_⟩
      rcases List.mem_append.1 hx with hx | hx
      · exact .inl (hold x hx)
      · rw [List.mem_singleton.1 hx]
        exact .inr rfl
    · rw [if_neg hz]
      refine ⟨its, hp, List.prefix_refl _, push_now, ?_, fun x hx _ => .inl (hold x hx)⟩
      by_cases h1 : T.push.fal l = true
      · exact .inr ((hp.sim.fal_iff hl.1).1 h1)
      · by_cases h2 : T.push.tru l = true
        · exact .inl ((hp.sim.tru_iff hl.1).1 h2)
        · exact absurd (sim_val (Bool.not_eq_true _ ▸ h1) (Bool.not_eq_true _ ▸ h2)) hz
  obtain ⟨i1, hs1, hp1, hn1, hh1, hz1⟩ := key
  obtain ⟨its', h1, h2, h3, h4, h5⟩ := hs1.prop (A := addAll arn0 0 cs) h6.fit (h.st.find h6)
  have hpz := PZ.propGo (B := fun y => Has its y ∨ y = l) (A := addAll arn0 0 cs) ((decT T l).vars.length + 1) hs1.inv.bnd hs1.inv.link ⟨i1, hs1.sim⟩ ⟨i1, hs1.sim, hz1⟩
  have hkn : ∀ j, ((propW (addAll arn0 0 cs) (decT T l) S).2.1.kn j).isSome = (clsC cs j).isSome := fun j => (h4 j).trans (h.kn j)
  have hone := (h.one.pre hp1).pre h2
  refine ⟨its', h1, hp1.trans h2, h3.trans hn1, hkn, hone, hh1.imp_left (Has.pre h2), fun p x hx h0 => ?_, fun hr => ?_, fun id hr => ?_⟩
  · obtain ⟨i2, a1, a2⟩ := hpz
    have : its' = i2 := h1.sim.uniq a1
    subst this
    exact a2 x (List.mem_of_getElem? hx) h0
  · rcases h5 with ⟨_, h5⟩ | ⟨id, c, h5, _⟩
    · exact ⟨h1, hkn, hone, h5⟩
    · rw [hr] at h5; cases h5
  · rcases h5 with ⟨h5, _⟩ | ⟨id', c, h5, hc, hf⟩
    · rw [hr] at h5; cases h5
    · rw [hr] at h5
      obtain rfl := Option.some.inj h5
      exact ⟨c, hc, hf⟩
/-- the watch behind Back -/
def backS (T : Trl) (S : Wst) (j : Int) : Wst := ⟨S.known, S.of, min S.looked (T.backed j).order.length⟩
end
end Go.Proofs.YtoojmhjagipmdaaGreat
namespace Go.Proofs.YtoojmhjagipmdaaGreat
open Go.RowKit

section
variable {C : Int → Option (List Int)} {T : Trl} {its : List RIt} {S : Wst}
theorem Dcs.pre {its' : List RIt} (h : Dcs its') (hp : its <+: its') : Dcs its := fun p x hx h0 => by
  obtain ⟨h1, h2⟩ := h p x (pre_get hp hx) h0
  exact ⟨h1, fun q y hq hy => h2 q y hq (pre_get hp hy)⟩
theorem Dcs.snoc (h : Dcs its) {x : RIt} (hx : x.reason = 0 → 1 ≤ x.level ∧ ∀ y ∈ its, y.level < x.level) : Dcs (its ++ [x]) := fun p z hz h0 => by
  have hpre : its <+: its ++ [x] := ⟨[x], rfl⟩
  rcases Nat.lt_or_ge p its.length with hp | hp
  · rw [List.getElem?_append_left hp] at hz
    obtain ⟨h1, h2⟩ := h p z hz h0
    exact ⟨h1, fun q y hq hy => h2 q y hq (by rwa [List.getElem?_append_left (by omega)] at hy)⟩
  · have h1 := (List.getElem?_eq_some_iff.1 hz).1
    rw [List.length_append, List.length_singleton] at h1
    obtain rfl : p = its.length := by omega
    rw [List.getElem?_append_right (Nat.le_refl _), Nat.sub_self] at hz
    obtain rfl : x = z := by simpa using hz
    obtain ⟨a1, a2⟩ := hx h0
    exact ⟨a1, fun q y hq hy => by
      rw [List.getElem?_append_left hq] at hy
      exact a2 y (List.mem_of_getElem? hy)⟩
/-- a trail whose decisions are the first of their levels -/
def DZ (T : Trl) : Prop := ∃ its, Sim T its ∧ Dcs its
theorem DZ.assigned (h : DZ T) (l r : Int) (hr : r ≠ 0) : DZ (T.assigned l r) := by
  obtain ⟨its, h1, h2⟩ := h
  by_cases he : T.assignErr l r = 0
  · exact ⟨_, h1.snoc he, h2.snoc fun h0 => absurd h0 hr⟩
  · have e : T.assigned l r = T := by unfold Trl.assigned; rw [if_neg he]
    rw [e]
    exact ⟨its, h1, h2⟩
theorem DZ.lookOne {A : Arn} (h : DZ T) (l id : Int) (hid : id ≠ 0) : DZ (lookOne A T S l id).1 := by
  unfold Proofs.YtoojmhjagipmdaaGreat.lookOne
  split
  · exact h
  · split
    · exact h
    · split
      · exact h
      · split
        · exact h
        · split
          · exact h
          · exact h.assigned _ _ hid
theorem DZ.lookGo {A : Arn} (l : Int) (ids : List Int) : ∀ {T : Trl} {S : Wst}, (∀ id ∈ ids, id ≠ 0) → DZ T → DZ (lookGo A T S l ids).1 := by
  induction ids with
  | nil => exact fun _ h => h
  | cons id r ih =>
    intro T S hid h
    have h1 := h.lookOne (A := A) (S := S) l id (hid id List.mem_cons_self)
    rw [lookGo_cons]
    split
    · exact h1
    · exact ih (fun j hj => hid j (List.mem_cons_of_mem _ hj)) h1
theorem DZ.propGo {A : Arn} (n : Nat) : ∀ {T : Trl} {S : Wst}, S.Bnd → S.Link → (∃ its, Sim T its) → DZ T → DZ (propGo A n T S).1 := by
  induction n with
  | zero => exact fun _ _ _ h => h
  | succ n ih =>
    intro T S hb hL hs h
    unfold Proofs.YtoojmhjagipmdaaGreat.propGo
    split
    · exact h
    · rename_i y hy
      have hr := hb.row (litN y)
      have hg := DZ.lookGo (A := A) (S := S) (litN y) (S.row (litN y)) (fun id hid => by have := (hr.2 id hid).1; omega) h
      have ha := lookGo_all A (T := T) (S.row (litN y)) hb hL hs (fun id hid => hid) (up_nodup hr.1)
      split
      · rename_i he
        rw [he] at hg
        exact hg
      · rename_i T' S' he
        rw [he] at hg ha
        obtain ⟨h1, h2, h3, _, _⟩ := ha
        exact ih (S := S'.step) ⟨h1.kr, h1.kb, h1.kl, h1.orr, h1.ob⟩ h2 h3 hg
theorem DZ.dcs (h : DZ T) (hs : Sim T its) : Dcs its := by
  obtain ⟨i2, h1, h2⟩ := h
  rw [hs.uniq h1]
  exact h2
/-- more clauses are there, none of them known -/
theorem St.wide {C' : Int → Option (List Int)} (h : St C T its S) (hC : ∀ id c, C id = some c → C' id = some c) : St C' T its S where
  sim := h.sim
  vars := h.vars
  sta := h.sta
  inv := by
    have hi := h.inv
    have key : ∀ id k c, S.kn id = some k → C' id = some c → C id = some c := fun id k c hk hc => by
      obtain ⟨d, hd, _⟩ := hi.kn id k hk
      rw [hC id d hd] at hc
      rw [← Option.some.inj hc]
      exact hd
    exact ⟨hi.bnd, hi.link, fun id k hk => (hi.kn id k hk).imp fun c hc => ⟨hC id c hc.1, hc.2⟩, fun id k c hk hc => hi.two id k c hk (key id k c hk hc), fun id k c hk hc => hi.alw id k c hk (key id k c hk hc), hi.w, hi.cur, hi.len, fun p x hx h0 => by
      obtain ⟨d, h1, h2⟩ := hi.rs p x hx h0
      exact ⟨d, hC _ d h1, h2⟩⟩
/-- the first of what is sorted has the greatest level -/
theorem stab_max {xs : List Int} {b : Int} {r : List Int} (h : T.stab xs = b :: r) : b ∈ xs ∧ ∀ z ∈ xs, T.level (litV z : Nat) ≤ T.level (litV b : Nat) := by
  have hp := stab_perm T xs
  rw [h] at hp
  refine ⟨hp.mem_iff.1 List.mem_cons_self, fun z hz => ?_⟩
  have hs := foldL_srt (fun z => T.level (litV z : Nat)) xs (r := []) List.Pairwise.nil
  have e : foldL (fun z => T.level (litV z : Nat)) [] xs = r.reverse ++ [b] := by
    have := stab_fold T xs
    rw [h] at this
    have h2 := congrArg List.reverse this
    rw [List.reverse_reverse, List.reverse_cons] at h2
    exact h2.symm
  rw [e] at hs
  unfold SrtL at hs
  rw [List.pairwise_append] at hs
  rcases List.mem_cons.1 (hp.mem_iff.2 hz) with h2 | h2
  · rw [h2]
    exact Int.le_refl _
  · exact hs.2.2 z (List.mem_reverse.2 h2) b (List.mem_singleton.2 rfl)
theorem one_of {xs : List Int} {x : Int} (hn : xs.Nodup) (hm : x ∈ xs) (ha : ∀ y ∈ xs, y = x) : xs = [x] := by
  cases xs with
  | nil => cases hm
  | cons y r =>
    rw [ha y List.mem_cons_self]
    cases r with
    | nil => rfl
    | cons z r =>
      have h1 := ha y List.mem_cons_self
      have h2 := ha z (List.mem_cons_of_mem _ List.mem_cons_self)
      rw [List.nodup_cons] at hn
      exact absurd (by rw [h1, ← h2]; exact List.mem_cons_self) hn.1
/-- what a clause is watched by all of whose literals but one are false -/
theorem learn_two {L : List Int} {l0 : Int} (h0 : l0 ∈ L) (hf0 : T.fal l0 = false) (hft : ∀ y ∈ L, y ≠ l0 → T.fal y = true) :
    ((∀ y ∈ L, y = l0) ∧ addTwo T L = [l0]) ∨ ∃ b, addTwo T L = [l0, b] ∧ b ∈ L ∧ b ≠ l0 ∧ ∀ y ∈ L, y ≠ l0 → T.level (litV y : Nat) ≤ T.level (litV b : Nat) := by
  have e1 : (eachL L).filter (fun x => !T.fal x) = [l0] := one_of ((eachL_nodup L).filter _) (List.mem_filter.2 ⟨eachL_mem.2 h0, by rw [hf0]; rfl⟩) fun y hy => by
    obtain ⟨h1, h2⟩ := List.mem_filter.1 hy
    refine Classical.byContradiction fun hne => ?_
    rw [hft y (eachL_mem.1 h1) hne] at h2
    cases h2
  have hmem : ∀ y, y ∈ (eachL L).filter T.fal ↔ y ∈ L ∧ y ≠ l0 := fun y => by
    rw [List.mem_filter, eachL_mem]
    constructor
    · rintro ⟨h1, h2⟩
      refine ⟨h1, fun e => ?_⟩
      rw [e, hf0] at h2
      cases h2
    · rintro ⟨h1, h2⟩
      exact ⟨h1, hft y h1 h2⟩
  unfold addTwo Trl.first
  rw [e1]
  cases hs : T.stab ((eachL L).filter T.fal) with
  | nil =>
    left
    refine ⟨fun y hy => Classical.byContradiction fun hne => ?_, rfl⟩
    have := (stab_perm T ((eachL L).filter T.fal)).mem_iff.2 ((hmem y).2 ⟨hy, hne⟩)
    rw [hs] at this
    cases this
  | cons b r =>
    right
    obtain ⟨h1, h2⟩ := stab_max hs
    obtain ⟨h3, h4⟩ := (hmem b).1 h1
    exact ⟨b, rfl, h3, h4, fun y hy hne => h2 y ((hmem y).2 ⟨hy, hne⟩)⟩
/-- Add of what is learned -/
theorem St.learn (h : St C T its S) (hF : Fit6 C) (hlk : S.looked = its.length) {id l0 : Int} {L : List Int} (hc : C id = some L) (hk0 : S.kn id = none) (hal : alwL L = false) (h0 : l0 ∈ L) (hz : T.val l0 = 0) (hft : ∀ y ∈ L, y ≠ l0 → Has its (-y)) (hlv : (∃ y ∈ L, y ≠ l0) → ∃ y ∈ L, y ≠ l0 ∧ T.now ≤ T.level (litV y : Nat)) :
    (addOk T S id L).res = 2 ∧ (addOk T S id L).T = T.assigned l0 id ∧ St C (T.assigned l0 id) (its ++ [⟨l0, id, T.now⟩]) (addOk T S id L).S ∧ (addOk T S id L).S.looked = S.looked ∧ (∀ j, ((addOk T S id L).S.kn j).isSome = (decide (j = id) || (S.kn j).isSome)) ∧ Sim (T.assigned l0 id) (its ++ [⟨l0, id, T.now⟩]) := by
  obtain ⟨hid, hcl, hcb⟩ := hF id L hc
  have hid' : 1 ≤ id ∧ id ≤ 1073741824 := ⟨hid.1, by omega⟩
  have hc' : (eachL L).length ≤ 4096 ∧ ∀ l ∈ eachL L, litB l = true := ⟨Nat.le_trans (eachL_len L) (by omega), fun l hl => (hcb l (eachL_mem.1 hl)).1⟩
  have hi := h.inv
  have hf0 : T.fal l0 = false := by unfold Trl.fal; rw [hz]; rfl
  have ht0 : T.tru l0 = false := by unfold Trl.tru; rw [hz]; rfl
  have hft' : ∀ y ∈ L, y ≠ l0 → T.fal y = true := fun y hy hne => (h.sim.fal_iff (hcb y hy).1).2 (hft y hy hne)
  have herr := free_err h.vars (hcb l0 h0).1 (hcb l0 h0).2 hz (r := id) ⟨by omega, by omega⟩
  have hsn := h.sim.snoc herr
  have e : addOk T S id L = ⟨addKind T (addTwo T L), 0, if addKind T (addTwo T L) = 2 then T.assigned ((addTwo T L).headD 0) id else T, S.addBy id (eachL L) (addTwo T L)⟩ := by unfold addOk; rw [if_neg (by rw [hal]; decide)]
  have hno : ∀ (p : Nat) (x : RIt), its[p]? = some x → x.lit ≠ -l0 := fun p x hx e => by
    have := (h.sim.fal_iff (hcb l0 h0).1).2 ⟨p, x, hx, e⟩
    rw [hf0] at this
    cases this
  have isS : ∀ {S' : Wst} {bs : List Int}, (∀ j, S'.kn j = if j = id then some ⟨bs, eachL L⟩ else S.kn j) → ∀ j, (S'.kn j).isSome = (decide (j = id) || (S.kn j).isSome) := fun hkn j => by
    rw [hkn]
    by_cases e : j = id
    · rw [if_pos e, decide_eq_true e]
      rfl
    · rw [if_neg e, decide_eq_false e]
      rfl
  have fin : ∀ {S' : Wst} {bs : List Int}, S'.Bnd → S'.Link → S'.looked = S.looked → (∀ j, S'.kn j = if j = id then some ⟨bs, eachL L⟩ else S.kn j) → (bs = [] → (eachL L).length ≤ 1) → (∀ a ∈ bs, a = l0 ∨ (a ∈ L ∧ a ≠ l0 ∧ (⟨bs, eachL L⟩ : Kn).other a = l0 ∧ T.now ≤ T.level (litV a : Nat))) → St C (T.assigned l0 id) (its ++ [⟨l0, id, T.now⟩]) S' := fun {S' bs} hb hL hlk' hkn h2 h3 => by
    refine ⟨hsn, (assigned_vars T l0 id).trans h.vars, h.sta.snoc (assigned_starts l0 id) l0 id, ?_⟩
    rw [assigned_now]
    exact {
      bnd := hb
      link := hL
      kn := fun j k hk => by
        rw [hkn] at hk
        split at hk
        · rename_i e
          subst e
          rw [← Option.some.inj hk]
          exact ⟨L, hc, rfl⟩
        · exact hi.kn j k hk
      two := fun j k c' hk hc' hby => by
        rw [hkn] at hk
        split at hk
        · rename_i e
          subst e
          rw [hc] at hc'
          obtain rfl := Option.some.inj hc'
          rw [← Option.some.inj hk] at hby ⊢
          exact .inr (h2 hby)
        · exact hi.two j k c' hk hc' hby
      alw := fun j k c' hk hc' ha => by
        rw [hkn] at hk
        split at hk
        · rename_i e
          subst e
          rw [hc] at hc'
          obtain rfl := Option.some.inj hc'
          rw [hal] at ha
          cases ha
        · exact hi.alw j k c' hk hc' ha
      w := fun j k a hk ha p x hp hx hxl => by
        rw [hlk', hlk] at hp
        rw [List.getElem?_append_left hp] at hx
        rw [hkn] at hk
        split at hk
        · obtain rfl := Option.some.inj hk
          rcases h3 a ha with e | ⟨e1, e2, e3, e4⟩
          · exact absurd (by rw [hxl, e]) (hno p x hx)
          · refine ⟨its.length, ⟨l0, id, T.now⟩, by simp, e3.symm, ?_⟩
            have := (at_fal h.sim hx hxl).2.2.2.2
            show T.now ≤ x.level
            omega
        · obtain ⟨q, y, hq, h1, h2⟩ := hi.w j k a hk ha p x (by omega) hx hxl
          exact ⟨q, y, by rw [List.getElem?_append_left (List.getElem?_eq_some_iff.1 hq).1]; exact hq, h1, h2⟩
      cur := fun p x hp hx => by
        rw [List.getElem?_append] at hx
        split at hx
        · exact hi.cur p x (by omega) hx
        · rw [List.mem_singleton.1 (List.mem_of_getElem? hx)]
      len := by
        rw [List.length_append]
        have := hi.len
        omega
      rs := hi.rs.snoc fun _ => ⟨L, hc, h0, hft⟩ }
  rw [e]
  rcases learn_two h0 hf0 hft' with ⟨h1, h2⟩ | ⟨b, h2, h3, h4, h5⟩
  · have hk2 : addKind T (addTwo T L) = 2 := by
      rw [h2]
      show (if T.fal l0 = true then 3 else if T.tru l0 = true then 1 else 2) = 2
      rw [if_neg (by rw [hf0]; decide), if_neg (by rw [ht0]; decide)]
    have hl1 : (eachL L).length ≤ 1 := by
      rw [one_of (eachL_nodup L) (eachL_mem.2 h0) fun y hy => h1 y (eachL_mem.1 hy)]
      exact Nat.le_refl _
    have e2 : S.addBy id (eachL L) (addTwo T L) = S.set id ⟨[], eachL L⟩ := by rw [h2]; rfl
    obtain ⟨a1, a2⟩ := watch_none hi.bnd hi.link hk0 hid' hc'
    have hkn := fun j => Wst.kn_set hi.bnd id ⟨[], eachL L⟩ j
    simp only [hk2, if_true, e2]
    rw [h2]
    exact ⟨by trivial, rfl, fin a1 a2 rfl hkn (fun _ => hl1) (fun a ha => by cases ha), rfl, isS hkn, hsn⟩
  · have hk2 : addKind T (addTwo T L) = 2 := by
      rw [h2]
      show (if T.fal l0 = true then 3 else if T.tru l0 = true ∨ T.fal b = false then 1 else 2) = 2
      rw [if_neg (by rw [hf0]; decide), if_neg (by rw [ht0, hft' b h3 h4]; simp)]
    have hlb : T.now ≤ T.level (litV b : Nat) := by
      obtain ⟨y, hy, hne, hl⟩ := hlv ⟨b, h3, h4⟩
      have := h5 y hy hne
      omega
    obtain ⟨a1, a2, a3, a4, a5, a6⟩ := watch_two hi.bnd hi.link hk0 hid' hc' (Ne.symm h4) (eachL_mem.2 h0) (eachL_mem.2 h3)
    have hkn := fun j => Wst.kn_set hi.bnd id ⟨[l0, b], eachL L⟩ j
    simp only [hk2, if_true]
    rw [h2]
    refine ⟨by trivial, rfl, fin a5 a6 rfl hkn (fun h => by cases h) (fun a ha => ?_), rfl, isS hkn, hsn⟩
    rcases List.mem_cons.1 ha with e | ha
    · exact .inl e
    · rw [List.mem_singleton.1 ha]
      refine .inr ⟨h3, h4, ?_, hlb⟩
      unfold Kn.other
      simp [Ne.symm h4]
end
end Go.Proofs.YtoojmhjagipmdaaGreat
