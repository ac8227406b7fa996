/- Plain: a watch that begins with clauses. package salvorlaw13: complete, failing, decide. -/
import Derived.Test.YtobcnejecogfoaaGreatQ32
import Derived.Test.YtobcnejecogfoaaGreatQ33
import Derived.Test.YtobcnejecogfoaaGreatQ29
namespace Go.Proofs.YtobcnejecogfoaaGreat
open Go.RowKit

/-- clauses of at most six literals of the variables 1 to 6 -/
def Six (cs : List (List Int)) : Prop := cs.length ≤ 900 ∧ ∀ c ∈ cs, c.length ≤ 6 ∧ ∀ y ∈ c, litB y = true ∧ litV y < 7
theorem Six.right {cs : List (List Int)} (h : Six cs) {c : List Int} (hc : c ∈ cs) : clauseB c = true ∧ c.length ≤ 6 := by
  obtain ⟨h2, h3⟩ := h.2 c hc
  refine ⟨?_, h2⟩
  unfold clauseB
  rw [Bool.and_eq_true, decide_eq_true_eq, List.all_eq_true]
  exact ⟨by omega, fun y hy => (h3 y hy).1⟩
theorem Six.fit {cs : List (List Int)} (h : Six cs) : Fit6 (clsC cs) := fun id c hc => by
  obtain ⟨n, rfl, hn, hl⟩ := clsC_some hc
  obtain ⟨h2, h3⟩ := h.2 c (List.mem_of_getElem? hn)
  have := h.1
  exact ⟨by omega, h2, h3⟩
theorem get_cls {cs : List (List Int)} (h : Six cs) (j : Int) : (addAll arn0 0 cs).get j = clsC cs j := by
  have hl := h.1
  rw [(addAll_get cs arn0 0 inv0 (by decide) (by omega) j).1]
  unfold clsC
  by_cases hj : 1 ≤ j
  · rw [if_pos (by omega), if_pos hj, show (j - ((0 : Nat) : Int) - 1).toNat = (j - 1).toNat by omega]
    cases hc : cs[(j - 1).toNat]? with
    | none => rfl
    | some c =>
      show (if clauseB c = true then some c else none) = some c
      rw [if_pos (h.right (List.mem_of_getElem? hc)).1]
  · rw [if_neg (by omega), if_neg hj]
    exact Arn.get_low _ (by omega)
theorem get_find {A : Arn} {id : Int} {c : List Int} (h : A.get id = some c) : (A.find id).isSome = true := by
  cases hf : A.find id with
  | some p => rfl
  | none =>
    unfold Arn.get Arn.ent at h
    rw [hf] at h
    cases h
section
variable {C : Int → Option (List Int)} {T : Trl} {its : List RIt} {S : Wst}
theorem St.find {cs : List (List Int)} (h6 : Six cs) (h : St (clsC cs) T its S) : ∀ id k, S.kn id = some k → ((addAll arn0 0 cs).find id).isSome = true := fun id k hk => by
  obtain ⟨c, hc, _⟩ := h.inv.kn id k hk
  exact get_find ((get_cls h6 id).trans hc)
theorem addTwo_one {c : List Int} (hl : (eachL c).length ≤ 1) (T : Trl) : addTwo T c = eachL c := by
  rcases addTwo_cases T c with ⟨a, b, e, hab, ha, hb⟩ | ⟨_, e⟩
  · have ha' := eachL_mem.2 ha
    have hb' := eachL_mem.2 hb
    cases he : eachL c with
    | nil => rw [he] at ha'; cases ha'
    | cons x r =>
      rw [he] at hl ha' hb'
      have hr : r = [] := List.eq_nil_of_length_eq_zero (by simpa using hl)
      subst hr
      exact absurd ((List.mem_singleton.1 ha').trans (List.mem_singleton.1 hb').symm) hab
  · exact e
/-- what a clause is that is added, and what is told -/
inductive StartO (c : List Int) (K I : Nat) (U : Int) (T' : Trl) (its' : List RIt) : Prop
  | alw (ha : alwL c = true) (hk : K = 4)
  | fails (ha : alwL c = false) (hk : K = 3) (hi : I = 2) (hf : ∀ y ∈ c, Has its' (-y))
  | unit (ha : alwL c = false) (hk : K = 2) (hi : I = 3) (hv : T'.val U = 1) (ho : ∃ y ∈ c, Has its' y)
  | rests (ha : alwL c = false) (hk : K = 1) (hi : I ≠ 2 ∧ I ≠ 3) (ho : (eachL c).length ≤ 1 → ∃ y ∈ c, Has its' y)
theorem start_step (h : St C T its S) (hF : Fit6 C) (hlk : S.looked = 0) {id : Int} {c : List Int} (hc : C id = some c) (hk : S.kn id = none) {f : Int → Int} (hff : ∀ y, litB y = true → ((0 < ofF f y ↔ Has its y) ∧ (ofF f y < 0 ↔ Has its (-y)))) :
    ∃ its', St C (addOk T S id c).T its' (addOk T S id c).S ∧ its <+: its' ∧ (addOk T S id c).T.now = T.now ∧ (addOk T S id c).S.looked = 0 ∧ (∀ j, ((addOk T S id c).S.kn j).isSome = (decide (j = id) || (S.kn j).isSome)) ∧
      StartO c (addOk T S id c).res (lookF f c).1 (lookF f c).2 (addOk T S id c).T its' := by
  obtain ⟨its', h1, h2, h3, h4, h5, h6⟩ := h.add hF hlk hc hk
  refine ⟨its', h1, h2, h3, h4, h5, ?_⟩
  have hcb := (hF id c hc).2.2
  rcases h6 with ⟨ha, hr, _, _⟩ | ⟨ha, hr, h6⟩
  · exact .alw ha hr
  · rcases add_kind h.sim (fun y hy => (hcb y hy).1) hff with ⟨a6, a7, a8⟩ | ⟨a, a6, a7, ha1, ha2, ha3, ha4, ha5⟩ | ⟨a6, a7, y, hy, ht⟩ | ⟨a6, a7, a8⟩
    · rw [a7]
      exact .fails ha (hr.trans a6) rfl (fun y hy => ((h.sim.fal_iff (hcb y hy).1).1 (a8 y hy)).imp fun p ⟨x, hx, e⟩ => ⟨x, pre_get h2 hx, e⟩)
    · rw [a7]
      rcases h6 with ⟨_, hT, hi⟩ | ⟨hne, _⟩
      · have hh : Has its' a := by
          rw [hi, ha4]
          exact ⟨its.length, ⟨a, id, T.now⟩, by simp, rfl⟩
        exact .unit ha (hr.trans a6) rfl (sim_tru h1.sim hh) ⟨a, ha1, hh⟩
      · exact absurd a6 hne
    · rw [a7]
      refine .rests ha (hr.trans a6) (by simp) (fun _ => ⟨y, hy, ?_⟩)
      exact Has.pre h2 ((h.sim.tru_iff (hcb y hy).1).1 ht)
    · rw [a7]
      refine .rests ha (hr.trans a6) (by simp) (fun hl => ?_)
      rw [addTwo_one hl T] at a6
      cases he : eachL c with
      | nil => rw [he] at a6; cases a6
      | cons x r =>
        rw [he] at hl a6
        have hr2 : r = [] := List.eq_nil_of_length_eq_zero (by simpa using hl)
        subst hr2
        have hx : x ∈ c := eachL_mem.1 (by rw [he]; exact List.mem_cons_self)
        have e : addKind T [x] = if T.fal x = true then 3 else if T.tru x = true then 1 else 2 := rfl
        rw [e, a8 x hx] at a6
        split at a6
        · cases a6
        · cases a6
/-- where the level is 0, all is at the level 0 -/
theorem has0_now (h : Sim T its) (h0 : T.now = 0) {y : Int} (hy : Has its y) : Has0 its y := by
  obtain ⟨p, x, hp, e⟩ := hy
  have := h.pos x (List.mem_of_getElem? hp)
  exact ⟨p, x, hp, e, by omega⟩
/-- what has no reason -/
def PZ (B : Int → Prop) (T : Trl) : Prop := ∃ its, Sim T its ∧ ∀ x ∈ its, x.reason = 0 → B x.lit
theorem PZ.assigned {B : Int → Prop} (h : PZ B T) (l r : Int) (hr : r = 0 → B l) : PZ B (T.assigned l r) := by
  obtain ⟨its, h1, h2⟩ := h
  by_cases he : T.assignErr l r = 0
  · refine ⟨_, h1.snoc he, fun x hx h0 => ?_⟩
    rcases List.mem_append.1 hx with hx | hx
    · exact h2 x hx h0
    · rw [List.mem_singleton.1 hx] at h0 ⊢
      exact hr h0
  · have e : T.assigned l r = T := by unfold Trl.assigned; rw [if_neg he]
    rw [e]
    exact ⟨its, h1, h2⟩
theorem PZ.lookOne {B : Int → Prop} {A : Arn} (h : PZ B T) (l id : Int) (hid : id ≠ 0) : PZ B (lookOne A T S l id).1 := by
  unfold Proofs.YtobcnejecogfoaaGreat.lookOne
  split
  · exact h
  · split
    · exact h
    · split
      · exact h
      · split
        · exact h
        · split
          · exact h
          · exact h.assigned _ _ (fun e => absurd e hid)
theorem PZ.lookGo {B : Int → Prop} {A : Arn} (l : Int) (ids : List Int) : ∀ {T : Trl} {S : Wst}, (∀ id ∈ ids, id ≠ 0) → PZ B T → PZ B (lookGo A T S l ids).1 := by
  induction ids with
  | nil => exact fun _ h => h
  | cons id r ih =>
    intro T S hid h
    have h1 := h.lookOne (A := A) (S := S) l id (hid id List.mem_cons_self)
    rw [lookGo_cons]
    split
    · exact h1
    · exact ih (fun j hj => hid j (List.mem_cons_of_mem _ hj)) h1
theorem PZ.propGo {B : Int → Prop} {A : Arn} (n : Nat) : ∀ {T : Trl} {S : Wst}, S.Bnd → S.Link → (∃ its, Sim T its) → PZ B T → PZ B (propGo A n T S).1 := by
  induction n with
  | zero => exact fun _ _ _ h => h
  | succ n ih =>
    intro T S hb hL hs h
    unfold Proofs.YtobcnejecogfoaaGreat.propGo
    split
    · exact h
    · rename_i y hy
      have hr := hb.row (litN y)
      have hg := PZ.lookGo (A := A) (S := S) (litN y) (S.row (litN y)) (fun id hid => by have := (hr.2 id hid).1; omega) h
      have ha := lookGo_all A (T := T) (S.row (litN y)) hb hL hs (fun id hid => hid) (up_nodup hr.1)
      split
      · rename_i he
        rw [he] at hg
        exact hg
      · rename_i T' S' he
        rw [he] at hg ha
        obtain ⟨h1, h2, h3, _, _⟩ := ha
        exact ih (S := S'.step) ⟨h1.kr, h1.kb, h1.kl, h1.orr, h1.ob⟩ h2 h3 hg
theorem addOk_pz {B : Int → Prop} (h : PZ B T) {id : Int} {c : List Int} (hid : id ≠ 0) : PZ B (addOk T S id c).T := by
  unfold addOk
  split
  · exact h
  · show PZ B (if addKind T (addTwo T c) = 2 then T.assigned ((addTwo T c).headD 0) id else T)
    split
    · exact h.assigned _ _ (fun e => absurd e hid)
    · exact h
/-- what is known -/
structure Beg (cs : List (List Int)) (k : Nat) (T : Trl) (its : List RIt) (S : Wst) (fl : Bool) : Prop where
  st : St (clsC cs) T its S
  now : T.now = 0
  lk : S.looked = 0
  kn : ∀ j, (S.kn j).isSome = decide (1 ≤ j ∧ j ≤ (k : Int))
  one : fl = false → One (clsC cs) (fun j => 1 ≤ j ∧ j ≤ (k : Int)) its
  bad : fl = true → ∃ c ∈ cs, ∀ y ∈ c, Has its (-y)
  pz : PZ (fun _ => False) T
theorem beg0 (cs : List (List Int)) : Beg cs 0 (trl0 6) [] ⟨[], [], 0⟩ false where
  st := st0 _
  now := rfl
  lk := rfl
  kn := fun j => by
    rw [decide_eq_false (by omega)]
    rfl
  one := fun _ id c hk _ _ _ => by omega
  bad := fun h => by cases h
  pz := ⟨[], (st0 (fun _ => none)).sim, fun x hx => by cases hx⟩
theorem Beg.next {cs : List (List Int)} {k : Nat} {fl : Bool} (h : Beg cs k T its S fl) (h6 : Six cs) {c : List Int} (hc : cs[k]? = some c) {f : Int → Int} (hff : ∀ y, litB y = true → ((0 < ofF f y ↔ Has its y) ∧ (ofF f y < 0 ↔ Has its (-y)))) :
    ∃ its', Beg cs (k + 1) (addOk T S ((k : Int) + 1) c).T its' (addOk T S ((k : Int) + 1) c).S (fl || decide ((addOk T S ((k : Int) + 1) c).res = 3)) ∧ StartO c (addOk T S ((k : Int) + 1) c).res (lookF f c).1 (lookF f c).2 (addOk T S ((k : Int) + 1) c).T its' := by
  have hcc : clsC cs ((k : Int) + 1) = some c := by
    unfold clsC
    rw [if_pos (by omega), show ((k : Int) + 1 - 1).toNat = k by omega]
    exact hc
  have hn : S.kn ((k : Int) + 1) = none := by
    have := h.kn ((k : Int) + 1)
    rw [decide_eq_false (by omega)] at this
    exact Option.isSome_eq_false_iff.1 this |> Option.isNone_iff_eq_none.1
  obtain ⟨its', h1, h2, h3, h4, h5, ho⟩ := start_step h.st h6.fit h.lk hcc hn hff
  refine ⟨its', ⟨h1, h3.trans h.now, h4, fun j => ?_, fun hf => ?_, fun hf => ?_, addOk_pz h.pz (by omega)⟩, ho⟩
  · rw [h5, h.kn]
    by_cases e : j = (k : Int) + 1
    · subst e
      simp
      omega
    · rw [decide_eq_false e, Bool.false_or]
      congr 1
      apply propext
      omega
  · rw [Bool.or_eq_false_iff] at hf
    intro j d hj hd ha hl
    by_cases e : j = (k : Int) + 1
    · subst e
      rw [hcc] at hd
      obtain rfl := Option.some.inj hd
      have key : ∃ y ∈ c, Has its' y := by
        rcases ho with ⟨a1, _⟩ | ⟨_, a2, _⟩ | ⟨_, _, _, _, a5⟩ | ⟨_, _, _, a4⟩
        · rw [a1] at ha; cases ha
        · rw [a2] at hf; cases hf.2
        · exact a5
        · exact a4 hl
      obtain ⟨y, hy, hh⟩ := key
      exact ⟨y, hy, has0_now h1.sim (h3.trans h.now) hh⟩
    · obtain ⟨y, hy, hh⟩ := h.one hf.1 j d (by omega) hd ha hl
      exact ⟨y, hy, hh.pre h2⟩
  · rw [Bool.or_eq_true] at hf
    rcases hf with hf | hf
    · obtain ⟨d, hd, hh⟩ := h.bad hf
      exact ⟨d, hd, fun y hy => (hh y hy).pre h2⟩
    · have hf := of_decide_eq_true hf
      rcases ho with ⟨_, a2⟩ | ⟨_, _, _, a4⟩ | ⟨_, a2, _⟩ | ⟨_, a2, _⟩
      · rw [a2] at hf; cases hf
      · exact ⟨c, List.mem_of_getElem? hc, a4⟩
      · rw [a2] at hf; cases hf
      · rw [a2] at hf; cases hf
/-- a watch that knows all of some clauses, from the level 0 on -/
structure Run (cs : List (List Int)) (T : Trl) (its : List RIt) (S : Wst) : Prop where
  st : St (clsC cs) T its S
  kn : ∀ j, (S.kn j).isSome = (clsC cs j).isSome
  one : One (clsC cs) (fun _ => True) its
  lk : S.looked = its.length
theorem Beg.all {cs : List (List Int)} {fl : Bool} (h : Beg cs cs.length T its S fl) (j : Int) : (S.kn j).isSome = (clsC cs j).isSome := by
  rw [h.kn]
  unfold clsC
  by_cases h1 : 1 ≤ j
  · rw [if_pos h1]
    cases hc : cs[(j - 1).toNat]? with
    | none =>
      rw [List.getElem?_eq_none_iff] at hc
      exact decide_eq_false (by omega)
    | some c =>
      have := (List.getElem?_eq_some_iff.1 hc).1
      exact decide_eq_true (by omega)
  · rw [if_neg h1]
    exact decide_eq_false (by omega)
theorem Beg.ones {cs : List (List Int)} (h : Beg cs cs.length T its S false) : One (clsC cs) (fun _ => True) its := fun id c _ hc ha hl => by
  obtain ⟨n, hn, _, hl2⟩ := clsC_some hc
  exact h.one rfl id c (by omega) hc ha hl
end
end Go.Proofs.YtobcnejecogfoaaGreat
namespace Go.Proofs.YtobcnejecogfoaaGreat
open Go.RowKit

set_option maxRecDepth 100000 in
set_option maxHeartbeats 4000000 in
theorem law_complete {O : Nat → Prop} (tb : Nat) (T : Trl) (its : List RIt) (Ac : Option Addr) (cc : Nat) (cs : List (List Int)) (w : World) (h : TrAt O w tb T) (hc : ClsAt w (.slice Ac cs.length cc) cs) (hs : Sim T its) (hv : T.vars.length = 7) (hr : Rsn (clsC cs) its) (hcs : ∀ c ∈ cs, clauseB c = true ∧ c.length ≤ 6) (hcl : cs.length ≤ 1000)
    (f : Int → Int) (hf : asgF T.order = some f) (hd : ∀ c ∈ cs, alwL c = true ∨ (lookF f c).1 = 1 ∨ (lookF f c).1 = 4) :
    Calls Tryz.prog 16 #[.pointer (some ⟨tb, 0, none⟩), .slice Ac cs.length cc] w fun e w' => e = .returned (.bool true) ∧ Below w.heap.size w w' := by
  have hfew := hs.few hv
  have HAS := Lib.hid (law_assigned tb T w h (by omega))
  have HT := Lib.hid h
  have HC := Lib.hid hc
  have HCS := Lib.hid hcs
  have HS := Lib.hid hs
  have HR := Lib.hid hr
  have HF := Lib.hid hf
  have HD := Lib.hid hd
  clear h hc hcs hr hf hd
  go_enter Tryz.func16, Tryz.ntmps16
  go_wp2_with fail
  refine HAS.out.mono ?_
  rintro e w1 ⟨vn, rfl, hrn, hb1⟩
  have HN := Lib.hid ((IntsIn.of_own hrn).lt.mono (O' := fun g => g < w1.heap.size) (fun g hg => hg.2))
  obtain ⟨An, cn, rfl, hnc⟩ := mx_slice hrn
  have HB1 := Lib.hid hb1
  clear hrn hb1 HAS
  go_wp2_with fail
  go_loopw [15] (fun i wr => ∃ k : Nat, k ≤ cs.length ∧ i = .int .i64 k ∧ Hid (Below w1.heap.size w1 wr)) (fun i _ => cs.length - (intOf i).toNat)
  case atStart => exact ⟨0, Nat.zero_le _, rfl, Lib.hid (Below.refl _ _)⟩
  case round =>
    obtain ⟨k, hk, rfl, HB⟩ := hrel
    have HBW := Lib.hid (HB1.out.trans (HB.out.mono HB1.out.size))
    by_cases hlt : k < cs.length
    · obtain ⟨c, hck⟩ := getElem_of hlt
      obtain ⟨A', c', hAc, hxs⟩ := HC.out.below HBW.out
      simp only [Value.slice.injEq, true_and] at hAc
      obtain ⟨rfl, rfl⟩ := hAc
      obtain ⟨g, o, u, rfl, hg, d0, hu⟩ := hxs k c hck
      have hmem := List.mem_of_getElem? hck
      have hcb := HCS.out c hmem
      have hlk := rup_Look u _ c T.order wr hu (HN.out.below HB.out) hcb.1 f HF.out (by omega) (by omega)
      have HDC := Lib.hid (HD.out c hmem)
      obtain ⟨K, hK⟩ : ∃ K, (lookF f c).1 = K := ⟨_, rfl⟩
      obtain ⟨U, hU⟩ : ∃ U, (lookF f c).2 = U := ⟨_, rfl⟩
      rw [hK, hU] at hlk
      have hdc := HDC.out
      rw [hK] at hdc
      have HDD := Lib.hid hdc
      have HLK := Lib.hid hlk
      have HAL := Lib.hid (fun (W : World) (hb : Below wr.heap.size wr W) => always_any u c W (hu.below hb) (by omega))
      obtain ⟨Au, cu, rfl, _⟩ := hu
      clear hck hxs hmem hcb hlk hK hU hdc HDC
      go_wp2_with fail
      refine HLK.out.mono ?_
      rintro e w2 ⟨rfl, hb2⟩
      have HB2 := Lib.hid (HB.out.trans (hb2.mono HB.out.size))
      have HA2 := Lib.hid (HAL.out w2 hb2)
      clear hb2 HLK HAL d0
      obtain ⟨a, ha⟩ : ∃ a, alwL c = a := ⟨_, rfl⟩
      have hdd := HDD.out
      rw [ha] at HA2 hdd
      have HDE := Lib.hid hdd
      clear hdd HDD ha
      cases a with
      | true =>
        go_wp2_with fail
        refine HA2.out.mono ?_
        rintro e w3 ⟨rfl, hb3⟩
        have HB3 := Lib.hid (HB2.out.trans (hb3.mono HB2.out.size))
        clear hb3 HA2
        go_wp2_with fail
        go_roundw
        case rel => exact ⟨k + 1, by omega, by go_num, HB3⟩
        case measure => simp [intOf]; omega
      | false =>
        have hq : K = 1 ∨ K = 4 := by simpa using HDE.out
        have q3 : ((K : Int) == 3) = false := by simp; omega
        have q2 : ((K : Int) == 2) = false := by simp; omega
        clear hq
        go_wp2_with fail
        refine HA2.out.mono ?_
        rintro e w3 ⟨rfl, hb3⟩
        have HB3 := Lib.hid (HB2.out.trans (hb3.mono HB2.out.size))
        clear hb3 HA2
        go_wp2_with fail
        go_roundw
        case rel => exact ⟨k + 1, by omega, by go_num, HB3⟩
        case measure => simp [intOf]; omega
    · obtain rfl : k = cs.length := by omega
      have HRS := Lib.hid (law_reasons tb T its Ac cc cs wr (HT.out.below HBW.out) (HC.out.below HBW.out) HS.out hv HR.out HCS.out hcl)
      clear hlt
      go_wp2_with fail
      refine HRS.out.mono ?_
      rintro e w2 ⟨rfl, hb2⟩
      have HB2 := Lib.hid (HBW.out.trans (hb2.mono HBW.out.size))
      clear hb2 HRS
      go_wp2_with fail
      go_ret
      exact ⟨rfl, HB2.out⟩
set_option maxRecDepth 100000 in
set_option maxHeartbeats 2000000 in
theorem failing_one {O Oc : Nat → Prop} (q : Nat) (cv v : Value) (c xs : List Int) (w : World) (hc : IntsIn Oc w cv c) (hu : IntsIn O w v xs) (hq : w.cell? ⟨q, 0, none⟩ = some v) (hcb : clauseB c = true) (f : Int → Int) (hf : asgF xs = some f) (hcl : c.length ≤ 4096) (hlen : xs.length ≤ 100000000000) :
    Calls Tryz.prog 53 #[cv, .pointer (some ⟨q, 0, none⟩)] w fun e w' => e = .returned (.bool (decide ((lookF f c).1 = 2))) ∧ Below w.heap.size w w' := by
  have hlk := rup_Look cv v c xs w hc hu hcb f hf hcl hlen
  obtain ⟨K, hK⟩ : ∃ K, (lookF f c).1 = K := ⟨_, rfl⟩
  obtain ⟨U, hU⟩ : ∃ U, (lookF f c).2 = U := ⟨_, rfl⟩
  rw [hK, hU] at hlk
  rw [hK]
  have HLK := Lib.hid hlk
  obtain ⟨A, k, rfl, _⟩ := hu
  obtain ⟨Ac, kc, rfl, _⟩ := hc
  have q2 : ((K : Int) == 2) = decide (K = 2) := by
    by_cases e : K = 2
    · subst e; rfl
    · rw [decide_eq_false e]; simp; omega
  obtain ⟨z, hz⟩ : ∃ z, decide (K = 2) = z := ⟨_, rfl⟩
  rw [hz] at q2 ⊢
  clear hlk hK hU hf hcb hz
  go_enter Tryz.func53, Tryz.ntmps53
  go_wp2_with fail
  refine HLK.out.mono ?_
  rintro e w2 ⟨rfl, hb2⟩
  have HB := Lib.hid hb2
  clear hb2 hq HLK
  go_wp2_with fail
  go_ret
  exact ⟨rfl, HB.out⟩
set_option maxRecDepth 100000 in
set_option maxHeartbeats 2000000 in
theorem index_failing {O : Nat → Prop} (q : Nat) (u v : Value) (cs : List (List Int)) (xs : List Int) (w : World) (h1 : ClsAt w u cs) (hu : IntsIn O w v xs) (hq : w.cell? ⟨q, 0, none⟩ = some v) (hcs : ∀ c ∈ cs, clauseB c = true ∧ c.length ≤ 6) (hcl : cs.length ≤ 1000) (f : Int → Int) (hf : asgF xs = some f) (hlen : xs.length ≤ 100000000000) :
    Calls Tryz.prog 98 #[u, .func (.func 53) #[] #[.pointer (some ⟨q, 0, none⟩)]] w fun e w' => (∃ i : Int, e = .returned (.int .i64 i) ∧ decide (0 ≤ i) = cs.any fun c => decide ((lookF f c).1 = 2)) ∧ Below w.heap.size w w' := by
  have HONE := Lib.hid (fun (W : World) (hb : Below w.heap.size w W) (cv : Value) (c : List Int) (hc : IntsIn (fun g => g < W.heap.size) W cv c) (hm : c ∈ cs) => failing_one q cv v c xs W hc (hu.below hb) ((hb.cell (p := ⟨q, 0, none⟩) (World.block_lt_of_cell? w _ hq)).trans hq) (hcs c hm).1 f hf (by have := (hcs c hm).2; omega) hlen)
  have HX := Lib.hid h1
  obtain ⟨A, c, rfl, _⟩ := h1
  clear hu hq hcs hf
  go_enter Tryz.func98, Tryz.ntmps98
  go_wp2
  go_loopw [8] (fun i wr => ∃ k : Nat, k ≤ cs.length ∧ i = .int .i64 k ∧ Hid ((cs.take k).any (fun c => decide ((lookF f c).1 = 2)) = false) ∧ Hid (Below w.heap.size w wr)) (fun i _ => cs.length - (intOf i).toNat)
  case atStart => exact ⟨0, Nat.zero_le _, rfl, Lib.hid rfl, Lib.hid (Below.refl _ _)⟩
  case round =>
    obtain ⟨k, hk, rfl, HE, HW⟩ := hrel
    by_cases hlt : k < cs.length
    · obtain ⟨x, hxk⟩ := getElem_of hlt
      obtain ⟨A', c', hAc, hxs⟩ := HX.out.below HW.out
      simp only [Value.slice.injEq, true_and] at hAc
      obtain ⟨rfl, rfl⟩ := hAc
      obtain ⟨g, o, u, rfl, hg, d1, hux⟩ := hxs k x hxk
      have HTK := Lib.hid (show (cs.take (k + 1)).any (fun c => decide ((lookF f c).1 = 2)) = ((cs.take k).any (fun c => decide ((lookF f c).1 = 2)) || decide ((lookF f x).1 = 2)) from by rw [List.take_add_one, hxk]; simp)
      have HMX := Lib.hid (List.mem_of_getElem? hxk)
      have HC := Lib.hid (HONE.out wr HW.out u x hux HMX.out)
      obtain ⟨z, hb⟩ : ∃ z, decide ((lookF f x).1 = 2) = z := ⟨_, rfl⟩
      have HQ := Lib.hid hb
      rw [hb] at HC
      clear hb hxk hxs hux
      cases z with
      | true =>
        go_wp2_with fail
        refine HC.out.mono ?_
        rintro e w' ⟨rfl, hbw⟩
        have HB2 := Lib.hid (HW.out.trans (hbw.mono HW.out.size))
        clear hbw d1
        go_wp2
        go_ret
        refine ⟨⟨_, rfl, ?_⟩, HB2.out⟩
        rw [List.any_eq_true.2 ⟨x, HMX.out, HQ.out⟩]
        simp
      | false =>
        go_wp2_with fail
        refine HC.out.mono ?_
        rintro e w' ⟨rfl, hbw⟩
        have HB2 := Lib.hid (HW.out.trans (hbw.mono HW.out.size))
        clear hbw d1
        go_wp2
        go_roundw
        case rel => exact ⟨k + 1, by omega, by go_num, Lib.hid (by rw [HTK.out, HE.out, HQ.out]; rfl), HB2⟩
        case measure => simp [intOf]; omega
    · obtain rfl : k = cs.length := by omega
      go_wp2
      go_ret
      refine ⟨⟨_, rfl, ?_⟩, HW.out⟩
      have := HE.out
      rw [List.take_length] at this
      rw [this]
      rfl
theorem contains_failing {O : Nat → Prop} (q : Nat) (u v : Value) (cs : List (List Int)) (xs : List Int) (w : World) (h1 : ClsAt w u cs) (hu : IntsIn O w v xs) (hq : w.cell? ⟨q, 0, none⟩ = some v) (hcs : ∀ c ∈ cs, clauseB c = true ∧ c.length ≤ 6) (hcl : cs.length ≤ 1000) (f : Int → Int) (hf : asgF xs = some f) (hlen : xs.length ≤ 100000000000) :
    Calls Tryz.prog 52 #[u, .func (.func 53) #[] #[.pointer (some ⟨q, 0, none⟩)]] w fun e w' => e = .returned (.bool (cs.any fun c => decide ((lookF f c).1 = 2))) ∧ Below w.heap.size w w' := by
  have H := Lib.hid (index_failing q u v cs xs w h1 hu hq hcs hcl f hf hlen)
  obtain ⟨z, hz⟩ : ∃ z, (cs.any fun c => decide ((lookF f c).1 = 2)) = z := ⟨_, rfl⟩
  rw [hz] at H ⊢
  clear h1 hu hq hcs hf hz
  go_enter Tryz.func52, Tryz.ntmps52
  go_wp2_with fail
  refine H.out.mono ?_
  rintro e w' ⟨⟨i, rfl, hi⟩, hb⟩
  have HI := Lib.hid hi
  have HB := Lib.hid hb
  clear hi hb
  go_wp2_with fail
  go_ret
  exact ⟨ret_bool HI.out, HB.out⟩
set_option maxRecDepth 100000 in
set_option maxHeartbeats 2000000 in
theorem law_failing {O : Nat → Prop} (tb : Nat) (T : Trl) (its : List RIt) (cv : Value) (cs : List (List Int)) (w : World) (h : TrAt O w tb T) (hc : ClsAt w cv cs) (hs : Sim T its) (hv : T.vars.length = 7) (hcs : ∀ c ∈ cs, clauseB c = true ∧ c.length ≤ 6) (hcl : cs.length ≤ 1000)
    (f : Int → Int) (hf : asgF T.order = some f) (hd : ∃ c ∈ cs, (lookF f c).1 = 2) :
    Calls Tryz.prog 15 #[.pointer (some ⟨tb, 0, none⟩), cv] w fun e w' => e = .returned (.bool true) ∧ Below w.heap.size w w' := by
  have hfew := hs.few hv
  have HAS := Lib.hid (law_assigned tb T w h (by omega))
  have HC := Lib.hid hc
  have HCS := Lib.hid hcs
  have HF := Lib.hid hf
  have HD := Lib.hid hd
  obtain ⟨Ac, cc, rfl, _⟩ := hc
  clear h hcs hf hd
  go_enter Tryz.func15, Tryz.ntmps15
  go_wp2_with fail
  refine HAS.out.mono ?_
  rintro e w1 ⟨vn, rfl, hrn, hb1⟩
  have HN := Lib.hid ((IntsIn.of_own hrn).lt.mono (O' := fun g => g < w1.heap.size) (fun g hg => hg.2))
  obtain ⟨An, cn, rfl, hnc⟩ := mx_slice hrn
  have HB1 := Lib.hid hb1
  clear hrn hb1 HAS
  go_wp2_with fail
  have hbA := mx_al w1 (.cells #[.slice An T.order.length cn] 40)
  refine (contains_failing w1.heap.size _ _ cs T.order _ ((HC.out.below HB1.out).below hbA) (HN.out.below hbA) (cell_new _ _ _ 0) HCS.out hcl f HF.out (by omega)).mono ?_
  rintro e w2 ⟨rfl, hb2⟩
  have HB2 := Lib.hid (HB1.out.trans ((hbA.trans (hb2.mono hbA.size)).mono HB1.out.size))
  have hany : (cs.any fun c => decide ((lookF f c).1 = 2)) = true := by
    obtain ⟨c, hc, h2⟩ := HD.out
    exact List.any_eq_true.2 ⟨c, hc, decide_eq_true h2⟩
  rw [hany]
  clear hb2 hbA hany
  go_wp2_with fail
  go_ret
  exact ⟨rfl, HB2.out⟩
/-- a decision -/
def decA (T : Trl) (y : Int) : Trl := if T.val y = 0 then T.assigned y 0 else T
def decT (T : Trl) (l : Int) : Trl := decA T.push l
set_option maxRecDepth 100000 in
set_option maxHeartbeats 2000000 in
theorem law_decide {w0 w : World} {lab : Nat → Nat} {b ab tb : Nat} {A : Arn} {T : Trl} {S : Wst} {its : List RIt} (l : Int) (h : Lw w0 w lab b ab tb A T S) (hsim : Sim T its) (hv : T.vars.length = 7) (hL : S.Link) (hl : litB l = true ∧ litV l < 7) (hn : T.starts.length < 1048576) (hid : ∀ id, (propW A (decT T l) S).2.2 = some id → 1 ≤ id) :
    Calls Tryz.prog 19 #[.pointer (some ⟨b, 0, none⟩), .pointer (some ⟨tb, 0, none⟩), .int .i64 l] w fun e w' => e = .returned (.tuple #[.int .i64 ((propW A (decT T l) S).2.2.getD 0), .bool true]) ∧ LwNext w0 w w' lab b ab tb A (propW A (decT T l) S).1 (propW A (decT T l) S).2.1 := by
  have HPU := Lib.hid (lw_push h hn)
  have hs1 := hsim.pushT
  obtain ⟨r, hr⟩ : ∃ r, (propW A (decT T l) S).2.2 = r := ⟨_, rfl⟩
  rw [hr] at hid ⊢
  have hfr : (r.isSome == (r.getD 0 != 0)) = true := by
    cases r with
    | none => rfl
    | some x =>
      have := hid x rfl
      have e : (x != 0) = true := by simp; omega
      show (true == (x != 0)) = true
      rw [e]
      rfl
  have HR := Lib.hid hr
  have HS1 := Lib.hid hs1
  obtain ⟨rs, hrs⟩ : ∃ rs, r.isSome = rs := ⟨_, rfl⟩
  obtain ⟨rg, hrg⟩ : ∃ rg, r.getD 0 = rg := ⟨_, rfl⟩
  rw [hrs, hrg] at hfr
  rw [hrg]
  have HRS := Lib.hid hrs
  have HRG := Lib.hid hrg
  clear hrs hrg
  obtain ⟨z, hz⟩ : ∃ z, T.push.val l = z := ⟨_, rfl⟩
  have HZ := Lib.hid hz
  clear h hs1 hid hz hr
  go_enter Tryz.func19, Tryz.ntmps19
  go_wp2_with fail
  refine HPU.out.mono ?_
  rintro e w1 ⟨rfl, lab1, hl1, hk1⟩
  have hva := tr_value tb T.push l w1 hl1.sys.tr
  rw [HZ.out] at hva
  have HVA := Lib.hid hva
  have HL1 := Lib.hid hl1
  have HK1 := Lib.hid hk1
  clear hl1 hk1 hva HPU
  go_wp2_with fail
  refine HVA.out.mono ?_
  rintro e w2 ⟨rfl, hb2⟩
  have HL2 := Lib.hid (HL1.out.below hb2)
  have HK2 := Lib.hid (HK1.out.trans (Labs.of_below hb2))
  clear hb2 HVA HL1 HK1
  cases hzz : (z == 0) with
  | true =>
    have hz0 : T.push.val l = 0 := by rw [HZ.out]; simpa using hzz
    have herr := free_err (T := T.push) hv hl.1 hl.2 hz0 (r := 0) ⟨by omega, by omega⟩
    have has := lw_assign HL2.out l 0 (by have := HS1.out.few hv; omega)
    rw [herr] at has
    have hd : decT T l = T.push.assigned l 0 := by unfold decT decA; rw [if_pos hz0]
    have HSD := Lib.hid (HS1.out.snoc herr)
    have HD := Lib.hid hd
    have HAS := Lib.hid has
    clear has hd herr hz0
    go_wp2_with fail
    refine HAS.out.mono ?_
    rintro e w3 ⟨rfl, lab3, hl3, hk3⟩
    have hpr := lw_prop hl3 hL ⟨_, HSD.out⟩ (by rw [assigned_vars]; show T.vars.length ≤ _; omega)
    rw [← HD.out, HR.out] at hpr
    rw [HRS.out, HRG.out] at hpr
    have HPR := Lib.hid hpr
    have HK3 := Lib.hid (HK2.out.trans hk3)
    clear hl3 hk3 hpr HAS
    go_wp2_with fail
    refine HPR.out.mono ?_
    rintro e w4 ⟨rfl, lab4, hl4, hk4⟩
    have HF := Lib.hid (show LwNext w0 w w4 lab b ab tb A (propW A (decT T l) S).1 (propW A (decT T l) S).2.1 from ⟨lab4, hl4, HK3.out.trans hk4⟩)
    clear hl4 hk4 HPR
    go_wp2_with fail
    go_ret2
    exact ⟨rfl, HF.out⟩
  | false =>
    have hz0 : T.push.val l ≠ 0 := by rw [HZ.out]; simpa using hzz
    have hd : decT T l = T.push := by unfold decT decA; rw [if_neg hz0]
    have hpr := lw_prop HL2.out hL ⟨_, HS1.out⟩ (by show T.vars.length ≤ _; omega)
    rw [← hd, HR.out] at hpr
    rw [HRS.out, HRG.out] at hpr
    have HPR := Lib.hid hpr
    clear hpr hd hz0
    go_wp2_with fail
    refine HPR.out.mono ?_
    rintro e w4 ⟨rfl, lab4, hl4, hk4⟩
    have HF := Lib.hid (show LwNext w0 w w4 lab b ab tb A (propW A (decT T l) S).1 (propW A (decT T l) S).2.1 from ⟨lab4, hl4, HK2.out.trans hk4⟩)
    clear hl4 hk4 HPR
    go_wp2_with fail
    go_ret2
    exact ⟨rfl, HF.out⟩
end Go.Proofs.YtobcnejecogfoaaGreat
