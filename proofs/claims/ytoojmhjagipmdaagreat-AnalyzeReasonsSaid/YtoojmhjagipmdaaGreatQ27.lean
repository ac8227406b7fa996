/- analyze: Right, Level, Conflict, with an arena and a trail. An arena with clauses, a trail with calls (package salvorlaw14: Put). Plain: how a trail comes about; what a clause covers (chapter 15). Plain: what is met from a clause that fails on, when reasons are right: what has to go has a right reason, and one literal of the greatest level stays. -/
import Derived.Test.YtoojmhjagipmdaaGreatQ26
import Derived.Test.YtoojmhjagipmdaaGreatQ14
import Derived.Test.YtoojmhjagipmdaaGreatQ07
import Derived.Test.YtoojmhjagipmdaaGreatQ08
namespace Go.Proofs.YtoojmhjagipmdaaGreat
open Go.RowKit

theorem Arn.get_len {A : Arn} (h : A.Ok) {id : Int} {c : List Int} (hg : A.get id = some c) : c.length ≤ 4194304 := by
  unfold Arn.get at hg
  split at hg
  · obtain rfl := Option.some.inj hg
    have := h.lens.2
    simp only [List.length_take, List.length_drop]
    omega
  · cases hg
theorem an_level_none {Oa : Nat → Prop} (a b : Nat) (A : Arn) (id : Int) (w : World) (ha : ArAt Oa w a A) (hg : A.get id = none) :
    Calls Tryz.prog 19 #[.pointer (some ⟨a, 0, none⟩), .pointer (some ⟨b, 0, none⟩), .int .i64 id] w fun e w' => e = .returned (.tuple #[.int .i64 0, .int .i64 30]) ∧ Below w.heap.size w w' := by
  have HC := Lib.hid (wk_fails_none a b none A id w ha hg)
  clear hg ha
  go_enter Tryz.func19, Tryz.ntmps19
  go_wp2_with fail
  refine HC.out.mono ?_
  rintro e w' ⟨rfl, hb⟩
  have HB := Lib.hid hb
  clear hb
  go_wp2_with fail
  go_ret2
  exact ⟨rfl, HB.out⟩
/-- what Level returns at a clause -/
def levelVal : Option Int → Value
  | some n => .tuple #[.int .i64 n, .int .i64 0]
  | none => .tuple #[.int .i64 0, .int .i64 140]
theorem an_level {O Oa : Nat → Prop} (a b : Nat) (A : Arn) (T : Trl) (id : Int) (c : List Int) (w : World) (ha : ArAt Oa w a A) (h : TrAt O w b T) (hg : A.get id = some c) :
    Calls Tryz.prog 19 #[.pointer (some ⟨a, 0, none⟩), .pointer (some ⟨b, 0, none⟩), .int .i64 id] w fun e w' => e = .returned (levelVal (T.failMax c 0)) ∧ Below w.heap.size w w' := by
  have HC := Lib.hid (wk_fails a b none A T id c w ha h hg (Arn.get_len ha.1 hg))
  clear hg ha h
  go_enter Tryz.func19, Tryz.ntmps19
  go_wp2_with fail
  refine HC.out.mono ?_
  rintro e w' ⟨hor, hb⟩
  have HB := Lib.hid hb
  clear hb
  rcases hor with ⟨v, n, hn, rfl, hown⟩ | ⟨hn, rfl⟩
  · obtain ⟨Av, cv, rfl, _⟩ := mx_slice hown
    have HN := Lib.hid hn
    clear hn hown
    go_wp2_with fail
    go_ret2
    exact ⟨by rw [HN.out]; rfl, HB.out⟩
  · have HN := Lib.hid hn
    clear hn
    go_wp2_with fail
    go_ret2
    exact ⟨by rw [HN.out]; rfl, HB.out⟩
/-- whether the reason of a variable is right -/
def rightB (A : Arn) (T : Trl) (v : Int) : Bool := if T.val v = 0 then false else if v < 1 then false else (rightP A T (if T.val v = -1 then litN v else v)).isSome
set_option maxRecDepth 100000 in
theorem an_right {O Oa : Nat → Prop} (a b : Nat) (A : Arn) (T : Trl) (v : Int) (w : World) (ha : ArAt Oa w a A) (h : TrAt O w b T) :
    Calls Tryz.prog 18 #[.pointer (some ⟨a, 0, none⟩), .pointer (some ⟨b, 0, none⟩), .int .i64 v] w fun e w' => e = .returned (.tuple #[.bool (rightB A T v), .int .i64 0]) ∧ Below w.heap.size w w' := by
  have HV := Lib.hid (tr_value b T v w h)
  have HA := Lib.hid ha
  have HT := Lib.hid h
  have HL := Lib.hid (fun (id : Int) (c : List Int) (hg : A.get id = some c) => Arn.get_len ha.1 hg)
  clear ha h
  obtain ⟨x, hx⟩ : ∃ x, T.val v = x := ⟨_, rfl⟩
  have HXX := Lib.hid hx
  rw [hx] at HV
  clear hx
  by_cases h0 : x = 0
  · have HR := Lib.hid (show rightB A T v = false from if_pos (HXX.out.trans h0))
    subst h0
    go_enter Tryz.func18, Tryz.ntmps18
    go_wp2_with fail
    refine HV.out.mono ?_
    rintro e w' ⟨rfl, hb⟩
    have HB := Lib.hid hb
    clear hb HV
    go_wp2_with fail
    go_ret2
    exact ⟨by rw [HR.out]; rfl, HB.out⟩
  · have q0 : (x == 0) = false := by simpa using h0
    have HX0 := Lib.hid h0
    clear h0
    by_cases h1 : x = -1
    · subst h1
      by_cases hv : v < 1
      · have q1 : decide (v < 1) = true := by simpa using hv
        have HR := Lib.hid (show rightB A T v = false from (if_neg (fun e => HX0.out (HXX.out.symm.trans e))).trans (if_pos hv))
        clear hv
        go_enter Tryz.func18, Tryz.ntmps18
        go_wp2_with fail
        refine HV.out.mono ?_
        rintro e w' ⟨rfl, hb⟩
        have HB := Lib.hid hb
        clear hb HV
        go_wp2_with fail
        refine (lit_neg v w').mono ?_
        rintro e w2 ⟨rfl, rfl⟩
        go_wp2_with fail
        go_ret2
        exact ⟨by rw [HR.out]; rfl, HB.out⟩
      · have q1 : decide (v < 1) = false := by simpa using hv
        have HR := Lib.hid (show rightB A T v = (rightP A T (litN v)).isSome from (if_neg (fun e => HX0.out (HXX.out.symm.trans e))).trans ((if_neg hv).trans (by rw [HXX.out]; rfl)))
        clear hv
        go_enter Tryz.func18, Tryz.ntmps18
        go_wp2_with fail
        refine HV.out.mono ?_
        rintro e w' ⟨rfl, hb⟩
        have HB := Lib.hid hb
        clear hb HV
        go_wp2_with fail
        refine (lit_neg v w').mono ?_
        rintro e w2 ⟨rfl, rfl⟩
        go_wp2_with fail
        refine (wk_right a b none A T (litN v) w' (HA.out.below HB.out) (HT.out.below HB.out) HL.out).mono ?_
        rintro e w3 ⟨hor, hb3⟩
        have HB3 := Lib.hid (HB.out.trans (hb3.mono HB.out.size))
        clear hb3
        rcases hor with ⟨id, c, u, hr, rfl, hown⟩ | ⟨hr, rfl⟩
        · obtain ⟨Au, cu, rfl, _⟩ := mx_slice hown
          have HRR := Lib.hid hr
          clear hr hown
          go_wp2_with fail
          go_ret2
          exact ⟨by rw [HR.out, HRR.out]; rfl, HB3.out⟩
        · have HRR := Lib.hid hr
          clear hr
          go_wp2_with fail
          go_ret2
          exact ⟨by rw [HR.out, HRR.out]; rfl, HB3.out⟩
    · have q2 : (x == -1) = false := by simpa using h1
      have HX1 := Lib.hid h1
      clear h1
      by_cases hv : v < 1
      · have q1 : decide (v < 1) = true := by simpa using hv
        have HR := Lib.hid (show rightB A T v = false from (if_neg (fun e => HX0.out (HXX.out.symm.trans e))).trans (if_pos hv))
        clear hv
        go_enter Tryz.func18, Tryz.ntmps18
        go_wp2_with fail
        refine HV.out.mono ?_
        rintro e w' ⟨rfl, hb⟩
        have HB := Lib.hid hb
        clear hb HV
        go_wp2_with fail
        go_ret2
        exact ⟨by rw [HR.out]; rfl, HB.out⟩
      · have q1 : decide (v < 1) = false := by simpa using hv
        have HR := Lib.hid (show rightB A T v = (rightP A T v).isSome from (if_neg (fun e => HX0.out (HXX.out.symm.trans e))).trans ((if_neg hv).trans (by rw [HXX.out, if_neg HX1.out])))
        clear hv
        go_enter Tryz.func18, Tryz.ntmps18
        go_wp2_with fail
        refine HV.out.mono ?_
        rintro e w' ⟨rfl, hb⟩
        have HB := Lib.hid hb
        clear hb HV
        go_wp2_with fail
        refine (wk_right a b none A T v w' (HA.out.below HB.out) (HT.out.below HB.out) HL.out).mono ?_
        rintro e w3 ⟨hor, hb3⟩
        have HB3 := Lib.hid (HB.out.trans (hb3.mono HB.out.size))
        clear hb3
        rcases hor with ⟨id, c, u, hr, rfl, hown⟩ | ⟨hr, rfl⟩
        · obtain ⟨Au, cu, rfl, _⟩ := mx_slice hown
          have HRR := Lib.hid hr
          clear hr hown
          go_wp2_with fail
          go_ret2
          exact ⟨by rw [HR.out, HRR.out]; rfl, HB3.out⟩
        · have HRR := Lib.hid hr
          clear hr
          go_wp2_with fail
          go_ret2
          exact ⟨by rw [HR.out, HRR.out]; rfl, HB3.out⟩
/-! ### Conflict -/
structure Lrn where
  lits : List Int
  back : Int
  levels : Int
  hints : List Int
  met : List Int
def lrn0 : Lrn := ⟨[], 0, 0, [], []⟩
/-- what Conflict returns -/
def confP (A : Arn) (T : Trl) (id : Int) : Lrn × Nat := match A.get id with
  | none => (lrn0, 30)
  | some c => match T.failMax c 0 with
    | none => (lrn0, 140)
    | some lv => match cfEnd A T lv c with
      | none => (lrn0, 141)
      | some s => (⟨s.lits, T.backOf s.lits, T.levelsOf s.lits, s.hints.reverse ++ [id], sortI s.met⟩, 0)
/-- a Learned in memory, of rows that are the caller's own -/
def LrnAt (n : Nat) (w : World) (v : Value) (r : Lrn) : Prop := ∃ x y z, v = .agg #[x, .int .i64 r.back, .int .i64 r.levels, y, z] ∧
  w.ownsRow n 32 1 x r.lits.length (r.lits.map (Value.int .i64)) ∧ w.ownsRow n 3 1 y r.hints.length (r.hints.map (Value.int .i64)) ∧ w.ownsRow n 3 1 z r.met.length (r.met.map (Value.int .i64))
theorem lrn0_at (n : Nat) (w : World) : LrnAt n w (.agg #[.slice none 0 0, .int .i64 0, .int .i64 0, .slice none 0 0, .slice none 0 0]) lrn0 :=
  ⟨_, _, _, rfl, World.ownsRow_nil _ _ _ _, World.ownsRow_nil _ _ _ _, World.ownsRow_nil _ _ _ _⟩
theorem an_conflict {O Oa : Nat → Prop} (a b : Nat) (A : Arn) (T : Trl) (id : Int) (w : World) (ha : ArAt Oa w a A) (h : TrAt O w b T) :
    Calls Tryz.prog 32 #[.pointer (some ⟨a, 0, none⟩), .pointer (some ⟨b, 0, none⟩), .int .i64 id] w fun e w' => (∃ v, e = .returned (.tuple #[v, .int .i64 ((confP A T id).2 : Nat)]) ∧ LrnAt w.heap.size w' v (confP A T id).1) ∧ Below w.heap.size w w' := by
  cases hg : A.get id with
  | none =>
    have hp : confP A T id = (lrn0, 30) := by unfold confP; rw [hg]
    rw [hp]
    refine (conf_none a b A id w ha hg).mono ?_
    rintro e w' ⟨rfl, hb⟩
    exact ⟨⟨_, rfl, lrn0_at _ _⟩, hb⟩
  | some c =>
    cases hf : T.failMax c 0 with
    | none =>
      have hp : confP A T id = (lrn0, 140) := by unfold confP; rw [hg]; simp only [hf]
      rw [hp]
      refine (conf_holds a b A T id w ha h hg (Arn.get_len ha.1 hg) hf).mono ?_
      rintro e w' ⟨rfl, hb⟩
      exact ⟨⟨_, rfl, lrn0_at _ _⟩, hb⟩
    | some lv =>
      refine (conf_main a b A T id lv c w ha h hg (fun _ _ hg => Arn.get_len ha.1 hg) hf).mono ?_
      rintro e w' ⟨hp, hb⟩
      rcases hp with ⟨s, x, y, z, hs, rfl, h1, h2, h3⟩ | ⟨hs, rfl⟩
      · have hp : confP A T id = (⟨s.lits, T.backOf s.lits, T.levelsOf s.lits, s.hints.reverse ++ [id], sortI s.met⟩, 0) := by unfold confP; rw [hg]; simp only [hf, hs]
        rw [hp]
        exact ⟨⟨_, rfl, x, y, z, rfl, h1, h2, h3⟩, hb⟩
      · have hp : confP A T id = (lrn0, 141) := by unfold confP; rw [hg]; simp only [hf, hs]
        rw [hp]
        exact ⟨⟨_, rfl, lrn0_at _ _⟩, hb⟩
end Go.Proofs.YtoojmhjagipmdaaGreat
namespace Go.Proofs.YtoojmhjagipmdaaGreat
open Go.RowKit

set_option maxRecDepth 100000 in
set_option maxHeartbeats 2000000 in
theorem put_any (n : Nat) (cv av : Value) (cs : List (List Int)) (acs : List ActP) (w : World) (hn : n ≤ 1048576) (hc : ClsAt w cv cs) (ha : ActsIn w av acs) (hcl : cs.length ≤ 1000) (hce : ∀ c ∈ cs, c.length ≤ 1000) (hal : acs.length ≤ 1000) :
    Calls Tryz.prog 48 #[.int .i64 (n : Int), cv, av] w fun e w' => ∃ a b, e = .returned (.tuple #[.pointer (some ⟨a, 0, none⟩), .pointer (some ⟨b, 0, none⟩), .bool true]) ∧ PutAt w.heap.size w' a b (addAll arn0 0 cs) (playAll (trl0 n) acs) ∧ Below w.heap.size w w' := by
  have HCC := Lib.hid hc
  have HAA := Lib.hid ha
  have HCE := Lib.hid hce
  obtain ⟨Ac, cc, rfl, _⟩ := hc
  obtain ⟨Aa, ca, rfl, _⟩ := ha
  clear hce
  go_enter Tryz.func48, Tryz.ntmps48
  go_wp2_with fail
  refine (ar_new w).mono ?_
  rintro e w1 ⟨rfl, har, hw1⟩
  have hb1 : Below w.heap.size w w1 := by rw [hw1]; exact mx_al _ _
  have HAR := Lib.hid har
  have HB1 := Lib.hid hb1
  have hz1 : w.heap.size < w1.heap.size := by rw [hw1]; simp
  clear har hw1 hb1
  go_wp2_with fail
  refine (tr_new n w1 hn).mono ?_
  rintro e w2 ⟨b, rfl, htr, hb2⟩
  have hP : PutAt w.heap.size w2 w.heap.size b arn0 (trl0 n) := ⟨Nat.le_trans (Nat.le_of_lt hz1) hb2.size, _, _, HAR.out.below hb2, htr, fun g hg => Nat.le_of_eq hg.symm, fun g hg => by have := hg.1; omega, fun g hg ht => by have := ht.1; have e : g = w.heap.size := hg; omega⟩
  have HP := Lib.hid hP
  have HB2 := Lib.hid (HB1.out.trans (hb2.mono HB1.out.size))
  clear hP htr hb2
  go_wp2_with fail
  go_loopw [34] (fun i wr => ∃ (k : Nat) (A : Arn), k ≤ cs.length ∧ i = .int .i64 k ∧ Hid (addAll arn0 0 cs = addAll A k (cs.drop k)) ∧ Hid (A.Low k) ∧ Hid (Below w.heap.size w wr) ∧ Hid (PutAt w.heap.size wr w.heap.size b A (trl0 n))) (fun i _ => cs.length - (intOf i).toNat)
  case atStart => exact ⟨0, arn0, Nat.zero_le _, rfl, Lib.hid rfl, Lib.hid ⟨by decide, by decide, by decide, by decide, by decide⟩, HB2, HP⟩
  case round =>
    obtain ⟨k, A, hk, rfl, HF, HL, HW, HPW⟩ := hrel
    by_cases hlt : k < cs.length
    · obtain ⟨c, hck⟩ := getElem_of hlt
      obtain ⟨A', c', hAc, hxs⟩ := HCC.out.below HW.out
      simp only [Value.slice.injEq, true_and] at hAc
      obtain ⟨rfl, rfl⟩ := hAc
      obtain ⟨g, o, u, rfl, hg, d0, hu⟩ := hxs k c hck
      have hdk : cs.drop k = c :: cs.drop (k + 1) := by
        rw [List.drop_eq_getElem_cons hlt]
        rw [List.getElem?_eq_getElem hlt] at hck
        rw [Option.some.inj hck]
      have hcl' := HCE.out c (List.mem_of_getElem? hck)
      have HN := Lib.hid (show addAll arn0 0 cs = addAll (A.put ((k : Int) + 1) c) (k + 1) (cs.drop (k + 1)) from by rw [HF.out, hdk]; rfl)
      have HL2 := Lib.hid (HL.out.next c hcl')
      have HCA := Lib.hid (put_add u c HPW.out HL.out (by omega) hu hcl')
      clear hck hxs hdk hu
      go_wp2_with fail
      refine HCA.out.mono ?_
      rintro e w3 ⟨⟨x, rfl⟩, hp3, hb3⟩
      have HP3 := Lib.hid hp3
      have HB3 := Lib.hid (HW.out.trans hb3)
      clear hp3 hb3 d0 HCA
      go_wp2_with fail
      go_roundw
      case rel => exact ⟨k + 1, _, by omega, by go_num, HN, HL2, HB3, HP3⟩
      case measure => simp [intOf]; omega
    · obtain rfl : k = cs.length := by omega
      have hF := HF.out
      rw [List.drop_length, show addAll A cs.length [] = A from rfl] at hF
      have HFA := Lib.hid hF
      clear hF
      go_wp2_with fail
      go_loopw [47] (fun i wr => ∃ (m : Nat) (T : Trl), m ≤ acs.length ∧ i = .int .i64 m ∧ Hid (playAll (trl0 n) acs = playAll T (acs.drop m)) ∧ Hid (T.Low m) ∧ Hid (Below w.heap.size w wr) ∧ Hid (PutAt w.heap.size wr w.heap.size b A T)) (fun i _ => acs.length - (intOf i).toNat)
      case atStart => exact ⟨0, trl0 n, Nat.zero_le _, rfl, Lib.hid rfl, Lib.hid ⟨Nat.zero_le _, Nat.le_refl _⟩, HW, HPW⟩
      case round =>
        obtain ⟨m, T, hm, rfl, HG, HLT, HW2, HPT⟩ := hrel
        by_cases hlt2 : m < acs.length
        · obtain ⟨ac, hac⟩ := getElem_of hlt2
          obtain ⟨A', c', hAc, hxs⟩ := HAA.out.below HW2.out
          simp only [Value.slice.injEq, true_and] at hAc
          obtain ⟨rfl, rfl⟩ := hAc
          obtain ⟨g, o, rfl, hg, d0, d1, d2⟩ := hxs m ac hac
          have hdk : acs.drop m = ac :: acs.drop (m + 1) := by
            rw [List.drop_eq_getElem_cons hlt2]
            rw [List.getElem?_eq_getElem hlt2] at hac
            rw [Option.some.inj hac]
          have HN := Lib.hid (show playAll (trl0 n) acs = playAll (T.play ac) (acs.drop (m + 1)) from by rw [HG.out, hdk]; rfl)
          have HL2 := Lib.hid (HLT.out.next ac)
          obtain ⟨W3, hW3⟩ : ∃ x, wr.alloc (.cells #[.bool ac.push, .int .i64 ac.l, .int .i64 ac.by_] 90) = x := ⟨_, rfl⟩
          have hb3 : Below wr.heap.size wr W3 := by rw [← hW3]; exact mx_al _ _
          have HP3 := Lib.hid (HPT.out.below hb3)
          have HB3 := Lib.hid (HW2.out.trans (hb3.mono HW2.out.size))
          have HW3 := Lib.hid hW3
          clear hac hxs hdk hW3 hb3
          cases hpu : ac.push with
          | true =>
            have HPL := Lib.hid (show T.play ac = T.push from by unfold Trl.play; rw [if_pos hpu])
            have HPU := Lib.hid (put_push HP3.out HLT.out (by omega))
            rw [hpu] at d0 HW3
            clear hpu
            go_wp2_with fail
            rw [HW3.out]
            refine HPU.out.mono ?_
            rintro e w4 ⟨rfl, hp4, hb4⟩
            have HP4 := Lib.hid hp4
            have HB4 := Lib.hid (HB3.out.trans hb4)
            clear hp4 hb4 d0 d1 d2 HPU HW3
            go_wp2_with fail
            go_roundw
            case rel => exact ⟨m + 1, _, by omega, by go_num, HN, HL2, HB4, Lib.hid (by rw [HPL.out]; exact HP4.out)⟩
            case measure => simp [intOf]; omega
          | false =>
            have HPL := Lib.hid (show T.play ac = T.assigned ac.l ac.by_ from by unfold Trl.play; rw [if_neg (by rw [hpu]; decide)])
            have HPU := Lib.hid (put_assign ac.l ac.by_ HP3.out HLT.out (by omega))
            rw [hpu] at d0 HW3
            clear hpu
            go_wp2_with fail
            rw [HW3.out]
            refine HPU.out.mono ?_
            rintro e w4 ⟨rfl, hp4, hb4⟩
            have HP4 := Lib.hid hp4
            have HB4 := Lib.hid (HB3.out.trans hb4)
            clear hp4 hb4 d0 d1 d2 HPU HW3
            go_wp2_with fail
            go_roundw
            case rel => exact ⟨m + 1, _, by omega, by go_num, HN, HL2, HB4, Lib.hid (by rw [HPL.out]; exact HP4.out)⟩
            case measure => simp [intOf]; omega
        · obtain rfl : m = acs.length := by omega
          have hG := HG.out
          rw [List.drop_length, show playAll T [] = T from rfl] at hG
          have HGA := Lib.hid hG
          clear hG
          go_wp2_with fail
          go_ret3
          exact ⟨_, _, rfl, by rw [HFA.out, HGA.out]; exact HPT.out, HW2.out⟩
end Go.Proofs.YtoojmhjagipmdaaGreat
namespace Go.Proofs.YtoojmhjagipmdaaGreat
open Go.RowKit

variable {T : Trl} {its : List RIt}
theorem before_eq (T : Trl) (l p : Int) (c : List Int) : T.before l p c = true ↔ ∀ x ∈ c, x ≠ l → T.val x < 0 ∧ T.place (litV x : Nat) < p := by
 induction c with
 | nil => simp [Trl.before]
 | cons y c ih =>
  unfold Trl.before
  by_cases h1 : y ≠ l ∧ (0 ≤ T.val y ∨ p ≤ T.place (litV y : Nat))
  ·
   rw [if_pos h1]
   refine ⟨fun h => (by cases h), fun h => ?_⟩
   have := h y (List.mem_cons_self ..) h1.1
   omega
  ·
   rw [if_neg h1, ih]
   refine ⟨fun h x hx hn => ?_, fun h x hx => h x (List.mem_cons_of_mem _ hx)⟩
   rcases List.mem_cons.1 hx with rfl | hx
   ·
    by_cases hh : 0 ≤ T.val x ∨ p ≤ T.place (litV x : Nat)
    ·
     exact absurd ⟨hn, hh⟩ h1
    ·
     omega
   ·
    exact h x hx hn
theorem Sim.place_fal (h : Sim T its) {y : Int} (hy : rVl its y < 0) : T.place (litV y : Nat) = rP its (litV y : Nat) := by
 obtain ⟨p, x, hp, rfl, e⟩ := h.fal hy
 rw [← e, h.rp hp]
 unfold Trl.place
 rw [h.why hp]
def RTr.push (t : RTr) : RTr := ⟨t.vars, t.now + 1, t.items, t.starts ++ [(t.items.length : Int)]⟩
def RTr.assignErr (t : RTr) (l r : Int) : Int := if (litV l : Int) < 1 ∨ t.vars < litV l then 40 else if r < 0 ∨ 1073741824 < r then 2 else if rVl t.items l ≠ 0 then 41 else 0
def RTr.assigned (t : RTr) (l r : Int) : RTr := if t.assignErr l r = 0 then ⟨t.vars, t.now, t.items ++ [⟨l, r, t.now⟩], t.starts⟩ else t
def RTr.play (t : RTr) (a : ActP) : RTr := if a.push = true then t.push else t.assigned a.l a.by_
def rPlayAll : RTr → List ActP → RTr
 | t, [] => t
 | t, a :: acs => rPlayAll (t.play a) acs
structure TSim (T : Trl) (t : RTr) : Prop where
 sim : Sim T t.items
 vars : (T.vars.length : Int) = t.vars + 1
 now : T.now = t.now
theorem TSim.push {t : RTr} (h : TSim T t) : TSim T.push t.push := by
 have hn : T.push.now = T.now + 1 := by simp only [Trl.push, Trl.now, List.length_append, List.length_cons, List.length_nil]; omega
 refine ⟨{ h.sim with pos := fun x hx => ?_, now := by have := h.sim.now; omega, free := h.sim.free }, h.vars, by rw [hn, h.now]; rfl⟩
 have := h.sim.pos x hx
 omega
theorem TSim.assigned {t : RTr} (h : TSim T t) (l r : Int) : TSim (T.assigned l r) (t.assigned l r) := by
 unfold Trl.assigned RTr.assigned
 have hs := h.sim
 have herr : T.assignErr l r = 0 ↔ t.assignErr l r = 0 := by
  unfold Trl.assignErr RTr.assignErr
  have hv := h.vars
  cases ha : T.at (litV l : Nat) with
  | none =>
   unfold Trl.at at ha
   split at ha
   ·
    rw [List.getElem?_eq_none_iff] at ha
    omega
   ·
    rw [if_pos (by omega)]
    exact ⟨fun h => (by cases h), fun h => by cases h⟩
  | some s =>
   have hat := ha
   unfold Trl.at at ha
   split at ha
   ·
    rename_i hlt
    rw [if_neg (by omega)]
    simp only
    by_cases hr : r < 0 ∨ 1073741824 < r
    ·
     rw [if_pos hr, if_pos hr]
     exact ⟨fun h => (by cases h), fun h => by cases h⟩
    ·
     rw [if_neg hr, if_neg hr]
     have hval := hs.val l
     unfold Trl.val at hval
     rw [hat] at hval
     simp only at hval
     by_cases h0 : s.value = 0
     ·
      rw [h0, Int.zero_mul] at hval
      rw [if_neg (fun hh => hh h0), if_neg (fun hh => hh hval.symm)]
      exact ⟨fun _ => rfl, fun _ => rfl⟩
     ·
      have : rVl t.items l ≠ 0 := fun e => by
       rw [e] at hval
       rcases Int.mul_eq_zero.1 hval with e | e
       ·
        exact h0 e
       ·
        exact litS_ne l e
      rw [if_pos h0, if_pos this]
      exact ⟨fun h => (by cases h), fun h => by cases h⟩
   ·
    cases ha
 by_cases he : T.assignErr l r = 0
 ·
  rw [if_pos he, if_pos (herr.1 he)]
  unfold Trl.assignErr at he
  cases hat : T.at (litV l : Nat) with
  | none => rw [hat] at he; cases he
  | some s =>
   rw [hat] at he
   simp only at he
   have ha := hat
   unfold Trl.at at ha
   split at ha
   ·
    rename_i hlt
    rw [Int.toNat_natCast] at ha
    have hb : litB l = true := litB_of_litV (by omega)
    have hvl : litV l < T.vars.length := by omega
    have h0 : s.value = 0 := by
     split at he
     ·
      cases he
     ·
      split at he
      ·
       cases he
      ·
       rename_i _ h2
       omega
    have hfree : ∀ x ∈ t.items, litV x.lit ≠ litV l := fun x hx e => by
     obtain ⟨p, hp, e2⟩ := List.getElem_of_mem hx
     have hx2 := (hs.at_ p x (by rw [List.getElem?_eq_getElem hp, e2])).2
     rw [e, ha] at hx2
     have h3 := congrArg TV.value (Option.some.inj hx2)
     simp only at h3
     have := litS_ne x.lit
     omega
    have hol : T.order.length = t.items.length := by rw [hs.order, List.length_map]
    refine ⟨?_, ?_, h.now⟩
    ·
     refine { order := ?_, size := ?_, at_ := fun p x hp => ?_, free := fun v s hv hf => ?_, mono := fun p q x y hpq hp hq => ?_, pos := fun x hx => ?_, now := hs.now }
     ·
      simp only [Trl.assign, hs.order, List.map_append, List.map_cons, List.map_nil]
     ·
      simp only [Trl.assign, List.length_set]
      exact hs.size
     ·
      simp only [Trl.assign]
      rw [List.getElem?_append] at hp
      split at hp
      ·
       obtain ⟨g1, g2⟩ := hs.at_ p x hp
       refine ⟨g1, ?_⟩
       rw [List.getElem?_set_ne (fun e => hfree x (List.mem_of_getElem? hp) e.symm)]
       exact g2
      ·
       rename_i hpl
       have hp0 : p = t.items.length := by
        have := (List.getElem?_eq_some_iff.1 hp).1
        simp only [List.length_cons, List.length_nil] at this
        omega
       subst hp0
       rw [Nat.sub_self] at hp
       obtain rfl := Option.some.inj hp
       refine ⟨hb, ?_⟩
       simp only
       rw [List.getElem?_set_self hvl, hol, h.now]
     ·
      simp only [Trl.assign] at hv
      have hvne : litV l ≠ v := hf ⟨l, r, t.now⟩ (List.mem_append_right _ (List.mem_singleton.2 rfl))
      rw [List.getElem?_set_ne hvne] at hv
      exact hs.free v s hv (fun x hx => hf x (List.mem_append_left _ hx))
     ·
      have hnow := h.now
      rw [List.getElem?_append] at hp hq
      split at hq
      ·
       rw [if_pos (by omega)] at hp
       exact hs.mono p q x y hpq hp hq
      ·
       have hyl : y.level = t.now := by
        have := List.mem_of_getElem? hq
        rw [List.mem_singleton.1 this]
       split at hp
       ·
        have := (hs.pos x (List.mem_of_getElem? hp)).2
        omega
       ·
        have := List.mem_of_getElem? hp
        rw [List.mem_singleton.1 this, hyl]
        exact Int.le_refl _
     ·
      have hnow := h.now
      rcases List.mem_append.1 hx with hx | hx
      ·
       exact hs.pos x hx
      ·
       rw [List.mem_singleton.1 hx]
       have := hs.now
       have e : (T.assign l r).now = T.now := rfl
       simp only
       omega
    ·
     simp only [Trl.assign, List.length_set]
     exact h.vars
   ·
    cases ha
 ·
  rw [if_neg he, if_neg (fun e => he (herr.2 e))]
  exact h
theorem TSim.play {t : RTr} (h : TSim T t) (a : ActP) : TSim (T.play a) (t.play a) := by
 unfold Trl.play RTr.play
 split
 ·
  exact h.push
 ·
  exact h.assigned _ _
theorem TSim.playAll {t : RTr} (h : TSim T t) (acs : List ActP) : TSim (playAll T acs) (rPlayAll t acs) := by
 induction acs generalizing T t with
 | nil => exact h
 | cons a acs ih => exact ih (h.play a)
theorem tsim0 (n : Nat) (hn : n ≤ 1048576) : TSim (trl0 n) ⟨n, 0, [], [0]⟩ := by
 refine ⟨{ order := rfl, size := by simp [trl0]; omega, at_ := fun p x h => by simp at h, free := fun v s hv _ => ?_, mono := fun p q x y _ h _ => by simp at h, pos := fun x h => (by cases h), now := by simp [trl0, Trl.now] }, by simp [trl0], by simp [trl0, Trl.now]⟩
 rw [List.eq_of_mem_replicate (List.mem_of_getElem? hv)]
/-! ### chapter 15: what is covered -/
def rest15 (v : Int) (c : List Int) : List Int := c.filter fun l => decide ((litV l : Int) ≠ v)
def why15 (A : Arn) (T : Trl) (v : Int) : Option (Int × List Int) := if rightB A T v = true then (match A.get (T.reason v) with
  | some c => some (T.reason v, rest15 v c)
  | none => none) else none
def imp15 (A : Arn) (T : Trl) (c : List Int) : Nat → Int → Bool
  | 0, _ => false
  | n + 1, v => match why15 A T v with
    | none => false
    | some r => r.2.all fun l => c.contains l || imp15 A T c n (litV l)
/-- with enough fuel -/
def impl15 (A : Arn) (T : Trl) (c : List Int) (v : Int) : Bool := imp15 A T c (T.order.length + 1) v
def cov15 (A : Arn) (T : Trl) (c : List Int) (l : Int) : Bool := c.contains l || impl15 A T c (litV l)
/-- the literals of a reason are false, before it -/
theorem rightB_at (h : Sim T its) (A : Arn) {p : Nat} {x : RIt} (hp : its[p]? = some x) : rightB A T (litV x.lit : Nat) = (rightP A T x.lit).isSome := by
  have hb := (h.at_ p x hp).1
  have hv := litV_pos hb
  have hlb := (litB_iff x.lit).1 hb
  have hbb : litB ((litV x.lit : Nat) : Int) = true := (litB_iff _).2 (by omega)
  have hval := (h.val_at hp (litV x.lit : Nat) (by have := litV_pos hbb; omega))
  unfold rightB
  rw [h.val, hval.2]
  by_cases e : x.lit = (litV x.lit : Nat)
  · rw [if_pos e, if_neg (by decide), if_neg (by omega), if_neg (by decide)]
    rw [← e]
  · rw [if_neg e, if_neg (by decide), if_neg (by omega), if_pos rfl]
    have : litN ((litV x.lit : Nat) : Int) = x.lit := by
      unfold litN
      rw [if_pos hbb]
      omega
    rw [this]
theorem why15_rest (h : Sim T its) {A : Arn} {p : Nat} {x : RIt} (hp : its[p]? = some x) {r : Int × List Int} (hw : why15 A T (litV x.lit : Nat) = some r) : ∀ z ∈ r.2, rVl its z < 0 ∧ rP its (litV z) < p := by
  unfold why15 at hw
  split at hw
  · rename_i hr
    split at hw
    · rename_i c hc
      obtain rfl := Option.some.inj hw
      rw [rightB_at h A hp] at hr
      have hid : rightP A T x.lit = if (T.why (litV x.lit : Nat)).isSome = true ∧ c.contains x.lit = true ∧ T.before x.lit (T.place (litV x.lit : Nat)) c = true then some (T.reason (litV x.lit : Nat), c) else none := by
        unfold rightP
        rw [hc]
      rw [hid] at hr
      split at hr
      · rename_i hh
        have hbf := (before_eq T x.lit _ c).1 hh.2.2
        have hpl : T.place (litV x.lit : Nat) = p := by
          unfold Trl.place
          rw [h.why hp]
        intro z hz
        have hz' := List.mem_filter.1 hz
        obtain ⟨g1, g2⟩ := hbf z hz'.1 (fun e => by
          have := hz'.2
          rw [e] at this
          simp at this)
        rw [h.val z] at g1
        rw [h.place_fal g1, hpl] at g2
        exact ⟨g1, g2⟩
      · cases hr
    · cases hw
  · cases hw
/-- more fuel changes nothing -/
theorem imp15_fuel (h : Sim T its) {A : Arn} (c : List Int) (n m p : Nat) {x : RIt} (hp : its[p]? = some x) (hn : p < n) (hm : p < m) : imp15 A T c n (litV x.lit : Nat) = imp15 A T c m (litV x.lit : Nat) := by
  induction p using Nat.strongRecOn generalizing n m x with
  | ind p ih =>
    obtain ⟨n, rfl⟩ : ∃ k, n = k + 1 := ⟨n - 1, by omega⟩
    obtain ⟨m, rfl⟩ : ∃ k, m = k + 1 := ⟨m - 1, by omega⟩
    unfold imp15
    cases hw : why15 A T (litV x.lit : Nat) with
    | none => rfl
    | some r =>
      simp only
      have hr := why15_rest h hp hw
      refine Bool.eq_iff_iff.2 ?_
      rw [List.all_eq_true, List.all_eq_true]
      refine forall_congr' (fun z => forall_congr' (fun hz => ?_))
      obtain ⟨h1, h2⟩ := hr z hz
      obtain ⟨q, y, hq, rfl, e⟩ := h.fal h1
      rw [← e, h.rp hq] at h2
      have := ih q (by omega) n m hq (by omega) (by omega)
      rw [← e, this]
theorem impl15_at (h : Sim T its) {A : Arn} (c : List Int) {p : Nat} {x : RIt} (hp : its[p]? = some x) : impl15 A T c (litV x.lit : Nat) = (match why15 A T (litV x.lit : Nat) with
    | none => false
    | some r => r.2.all fun l => cov15 A T c l) := by
  have hlen : T.order.length = its.length := by rw [h.order, List.length_map]
  have hpl := (List.getElem?_eq_some_iff.1 hp).1
  have e1 : impl15 A T c (litV x.lit : Nat) = match why15 A T (litV x.lit : Nat) with
      | none => false
      | some r => r.2.all fun l => c.contains l || imp15 A T c T.order.length (litV l) := rfl
  rw [e1]
  cases hw : why15 A T (litV x.lit : Nat) with
  | none => rfl
  | some r =>
    simp only
    have hr := why15_rest h hp hw
    refine Bool.eq_iff_iff.2 ?_
    rw [List.all_eq_true, List.all_eq_true]
    refine forall_congr' (fun z => forall_congr' (fun hz => ?_))
    obtain ⟨h1, h2⟩ := hr z hz
    obtain ⟨q, y, hq, rfl, e⟩ := h.fal h1
    rw [← e, h.rp hq] at h2
    unfold cov15 impl15
    rw [← e, imp15_fuel h c T.order.length (T.order.length + 1) q hq (by omega) (by omega)]
/-- what the map of what is known holds, below a place -/
def Kq (A : Arn) (T : Trl) (its : List RIt) (c : List Int) (f : Int → Int) (p : Nat) : Prop := ∀ q x, q < p → its[q]? = some x → f (litV x.lit : Nat) = 0 ∨ f (litV x.lit : Nat) = if cov15 A T c (-x.lit) = true then 1 else 2
/-- how many are not known -/
def zer (its : List RIt) (f : Int → Int) : Nat := its.countP fun x => decide (f (litV x.lit : Nat) = 0)
theorem zer_le (its : List RIt) (f : Int → Int) : zer its f ≤ its.length := List.countP_le_length
theorem zer_put {its : List RIt} {f f' : Int → Int} {x : RIt} (hx : x ∈ its) (h0 : f (litV x.lit : Nat) = 0) (h1 : f' (litV x.lit : Nat) ≠ 0) (hsub : ∀ v, f' v = 0 → f v = 0) : zer its f' + 1 ≤ zer its f := by
  induction its with
  | nil => cases hx
  | cons y l ih =>
    unfold zer at ih ⊢
    rw [List.countP_cons, List.countP_cons]
    have hle : ∀ l' : List RIt, (l'.countP fun x => decide (f' (litV x.lit : Nat) = 0)) ≤ l'.countP fun x => decide (f (litV x.lit : Nat) = 0) := fun l' =>
      List.countP_mono_left (fun z _ hz => by simp only [decide_eq_true_eq] at hz ⊢; exact hsub _ hz)
    rcases List.mem_cons.1 hx with rfl | hx
    · have := hle l
      simp only [decide_eq_true_eq]
      rw [if_neg h1, if_pos h0]
      omega
    · have := ih hx
      simp only [decide_eq_true_eq]
      by_cases hy : f' (litV y.lit : Nat) = 0
      · rw [if_pos hy, if_pos (hsub _ hy)]
        omega
      · rw [if_neg hy]
        split <;> omega
theorem zer_mono {its : List RIt} {f f' : Int → Int} (hsub : ∀ v, f' v = 0 → f v = 0) : zer its f' ≤ zer its f :=
  List.countP_mono_left (fun z _ hz => by simp only [decide_eq_true_eq] at hz ⊢; exact hsub _ hz)
/-- shortened -/
def shor15 (A : Arn) (T : Trl) (c : List Int) : List Int → List Int → List Int
  | out, [] => out
  | out, l :: r => shor15 A T c (if out.contains l = false ∧ (c.head? = some l ∨ impl15 A T c (litV l) = false) then out ++ [l] else out) r
def short15 (A : Arn) (T : Trl) (c : List Int) : List Int := shor15 A T c [] c
/-- what is wrong with a clause that has to fail -/
def failE (T : Trl) (c : List Int) : Nat := if clauseB c = false then 20 else if c.any (fun l => decide (0 ≤ T.val l)) = true then 140 else 0
end Go.Proofs.YtoojmhjagipmdaaGreat
namespace Go.Proofs.YtoojmhjagipmdaaGreat
open Go.RowKit

def litAt (its : List RIt) (q : Nat) : Int := ((its[q]?).map RIt.lit).getD 0
def rsAt (its : List RIt) (q : Nat) : Int := ((its[q]?).map RIt.reason).getD 0
def lvAt (its : List RIt) (q : Nat) : Int := ((its[q]?).map RIt.level).getD 0
/-- decisions are the first of their levels -/
def Dcs (its : List RIt) : Prop := ∀ (p : Nat) (x : RIt), its[p]? = some x → x.reason = 0 → 1 ≤ x.level ∧ ∀ (q : Nat) (y : RIt), q < p → its[q]? = some y → y.level < x.level
section
variable {A : Arn} {C : Int → Option (List Int)} {T : Trl} {its : List RIt}
theorem litAt_eq {q : Nat} {x : RIt} (h : its[q]? = some x) : litAt its q = x.lit := by unfold litAt; rw [h]; rfl
theorem rsAt_eq {q : Nat} {x : RIt} (h : its[q]? = some x) : rsAt its q = x.reason := by unfold rsAt; rw [h]; rfl
theorem lvAt_eq {q : Nat} {x : RIt} (h : its[q]? = some x) : lvAt its q = x.level := by unfold lvAt; rw [h]; rfl
theorem Sim.rsn (h : Sim T its) {p : Nat} {x : RIt} (hp : its[p]? = some x) : T.reason (litV x.lit : Nat) = x.reason := by
  unfold Trl.reason
  rw [h.why hp]
theorem Sim.plc (h : Sim T its) {p : Nat} {x : RIt} (hp : its[p]? = some x) : T.place (litV x.lit : Nat) = p := by
  unfold Trl.place
  rw [h.why hp]
theorem before_true {l at_ : Int} : ∀ {c : List Int}, (∀ y ∈ c, y ≠ l → T.val y < 0 ∧ T.place (litV y : Nat) < at_) → T.before l at_ c = true := by
  intro c
  induction c with
  | nil => exact fun _ => rfl
  | cons x c ih =>
    intro h
    unfold Trl.before
    rw [if_neg (fun hc => by
      have := h x List.mem_cons_self hc.1
      omega)]
    exact ih fun y hy => h y (List.mem_cons_of_mem _ hy)
theorem at_fal (h : Sim T its) {q : Nat} {x : RIt} (hq : its[q]? = some x) {y : Int} (e : x.lit = -y) : litB y = true ∧ litV x.lit = litV y ∧ T.val y < 0 ∧ T.place (litV y : Nat) = q ∧ T.level (litV y : Nat) = x.level := by
  have hb := (h.at_ q x hq).1
  have hy : litB y = true := by rw [e, litB_minus] at hb; exact hb
  have hv : litV x.lit = litV y := by rw [e, litV_negate]
  refine ⟨hy, hv, ?_, ?_, ?_⟩
  · have := (h.fal_iff hy).2 ⟨q, x, hq, e⟩
    unfold Trl.fal at this
    exact of_decide_eq_true this
  · rw [← hv]
    exact h.plc hq
  · rw [← hv]
    exact h.level hq
/-- a reason is right -/
theorem right_ok (h : Sim T its) (hr : Rsn C its) (hA : ∀ j, A.get j = C j) {p : Nat} {x : RIt} (hp : its[p]? = some x) (h0 : x.reason ≠ 0) : ∃ d, C x.reason = some d ∧ rightP A T x.lit = some (x.reason, d) ∧ x.lit ∈ d ∧ ∀ y ∈ d, y ≠ x.lit → HasAt its p (-y) := by
  obtain ⟨d, hd, hm, ho⟩ := hr p x hp h0
  refine ⟨d, hd, ?_, hm, ho⟩
  rw [rightP_some (h.rsn hp) ((hA _).trans hd), if_pos]
  refine ⟨by rw [h.why hp]; rfl, List.contains_iff_mem.2 hm, before_true fun y hy hne => ?_⟩
  obtain ⟨q, z, hq, hz, e⟩ := ho y hy hne
  obtain ⟨_, _, h1, h2, _⟩ := at_fal h hz e
  rw [h2, h.plc hp]
  exact ⟨h1, by omega⟩
/-- what meet does -/
theorem meet_ok (wo lv : Int) (c : List Int) : ∀ (ms : List Int) (n : Nat), ms.Nodup → ∃ new, (T.meetGo wo lv c ms n).1 = ms ++ new ∧ (T.meetGo wo lv c ms n).2 = n + (new.filter fun v => decide (T.level v = lv)).length ∧ (ms ++ new).Nodup ∧ (∀ v ∈ new, v ≠ wo ∧ ∃ y ∈ c, v = (litV y : Nat)) ∧ ∀ y ∈ c, ((litV y : Nat) : Int) ≠ wo → ((litV y : Nat) : Int) ∈ ms ++ new := by
  induction c with
  | nil =>
    intro ms n hn
    refine ⟨[], (List.append_nil _).symm, rfl, by rwa [List.append_nil], ?_, ?_⟩
    · intro v hv
      cases hv
    · intro y hy
      cases hy
  | cons l c ih =>
    intro ms n hn
    unfold Trl.meetGo
    by_cases hc : ((litV l : Nat) : Int) ≠ wo ∧ ms.contains ((litV l : Nat) : Int) = false
    · rw [if_pos hc]
      have hnm : ((litV l : Nat) : Int) ∉ ms := fun hm => by
        have := List.contains_iff_mem.2 hm
        rw [hc.2] at this
        cases this
      have hn2 : (ms ++ [((litV l : Nat) : Int)]).Nodup := by
        rw [List.nodup_append]
        exact ⟨hn, by simp, fun a ha b hb e => by rw [List.mem_singleton.1 hb] at e; exact hnm (e ▸ ha)⟩
      obtain ⟨new, h1, h2, h3, h4, h5⟩ := ih (ms ++ [((litV l : Nat) : Int)]) (if T.level (litV l : Nat) = lv then n + 1 else n + 0) hn2
      refine ⟨((litV l : Nat) : Int) :: new, by rw [h1]; simp, ?_, by simpa using h3, fun v hv => ?_, fun y hy hne => ?_⟩
      · rw [h2, List.filter_cons]
        by_cases hl : T.level (litV l : Nat) = lv
        · rw [if_pos hl, if_pos (decide_eq_true hl), List.length_cons]
          omega
        · rw [if_neg hl, if_neg (by simpa using hl)]
          omega
      · rcases List.mem_cons.1 hv with e | hv
        · exact ⟨e ▸ hc.1, l, List.mem_cons_self, e⟩
        · obtain ⟨a1, y, a2, a3⟩ := h4 v hv
          exact ⟨a1, y, List.mem_cons_of_mem _ a2, a3⟩
      · rcases List.mem_cons.1 hy with e | hy
        · rw [e]
          simp
        · have := h5 y hy hne
          simpa using this
    · rw [if_neg hc]
      obtain ⟨new, h1, h2, h3, h4, h5⟩ := ih ms n hn
      refine ⟨new, h1, h2, h3, fun v hv => ?_, fun y hy hne => ?_⟩
      · obtain ⟨a1, y, a2, a3⟩ := h4 v hv
        exact ⟨a1, y, List.mem_cons_of_mem _ a2, a3⟩
      · rcases List.mem_cons.1 hy with e | hy
        · rw [e] at hne ⊢
          have : ms.contains ((litV l : Nat) : Int) = true := by
            cases hx : ms.contains ((litV l : Nat) : Int) with
            | true => rfl
            | false => exact absurd ⟨hne, hx⟩ hc
          exact List.mem_append_left _ (List.contains_iff_mem.1 this)
        · exact h5 y hy hne
/-- the run, from the last place down to p: R has to go, K stays -/
structure CfO (C : Int → Option (List Int)) (T : Trl) (its : List RIt) (c : List Int) (lv : Int) (p : Nat) (s : CSt) (R K : List Nat) : Prop where
  rdn : R.Pairwise (· > ·)
  kdn : K.Pairwise (· > ·)
  rge : ∀ q ∈ R, p ≤ q
  kge : ∀ q ∈ K, p ≤ q ∧ q < its.length
  ms : ∀ v ∈ s.ms, ∃ (q : Nat) (x : RIt), its[q]? = some x ∧ v = (litV x.lit : Nat)
  nd : s.ms.Nodup
  all : ∀ (q : Nat) (x : RIt), p ≤ q → its[q]? = some x → (((litV x.lit : Nat) : Int) ∈ s.ms ↔ q ∈ R ∨ q ∈ K)
  dis : ∀ q ∈ R, q ∉ K
  src : ∀ (q : Nat) (x : RIt), its[q]? = some x → ((litV x.lit : Nat) : Int) ∈ s.ms → -x.lit ∈ c ∨ ∃ (r : Nat) (z : RIt) (d : List Int), q < r ∧ r ∈ R ∧ its[r]? = some z ∧ C z.reason = some d ∧ -x.lit ∈ d
  cov : ∀ y ∈ c, ((litV y : Nat) : Int) ∈ s.ms
  covR : ∀ r ∈ R, ∃ (z : RIt) (d : List Int), its[r]? = some z ∧ C z.reason = some d ∧ z.lit ∈ d ∧ z.reason ≠ 0 ∧ ∀ y ∈ d, y ≠ z.lit → HasAt its r (-y) ∧ ((litV y : Nat) : Int) ∈ s.ms
  hints : s.hints = R.map (rsAt its)
  lits : s.lits = K.map fun q => -(litAt its q)
  met : ∀ q ∈ K, ((litV (litAt its q) : Nat) : Int) ∈ s.met
  lvl : ∀ (q : Nat) (x : RIt), its[q]? = some x → ((litV x.lit : Nat) : Int) ∈ s.ms → x.level ≤ lv
  klv : ∀ q ∈ K, 0 < lvAt its q
  op : lv ≠ 0 → s.op = ((s.ms.filter fun v => decide (T.level v = lv)).length : Int) - ((R.filter fun q => decide (lvAt its q = lv)).length : Int)
  op1 : lv ≠ 0 → 1 ≤ s.op
  kop : lv ≠ 0 → (∃ q ∈ K, lvAt its q = lv) → s.op = 1
theorem exists_notin {α : Type} [DecidableEq α] : ∀ {a b : List α}, a.Nodup → b.length < a.length → ∃ x ∈ a, x ∉ b := by
  intro a b hn hl
  refine Classical.byContradiction fun hc => ?_
  have hs : a ⊆ b := fun x hx => Classical.byContradiction fun hb => hc ⟨x, hx, hb⟩
  have := List.Nodup.length_le_of_subset hn hs
  omega
/-- one more literal of the greatest level than what went is met -/
theorem CfO.more {c : List Int} {lv : Int} {p : Nat} {s : CSt} {R K : List Nat} (o : CfO C T its c lv p s R K) (hs : Sim T its) (h0 : lv ≠ 0) (vs : List Int) (hl : (vs.length : Int) < s.op) : ∃ (q : Nat) (x : RIt), its[q]? = some x ∧ ((litV x.lit : Nat) : Int) ∈ s.ms ∧ x.level = lv ∧ q ∉ R ∧ ((litV x.lit : Nat) : Int) ∉ vs := by
  have ho := o.op h0
  obtain ⟨v, hv, hn⟩ := exists_notin (a := s.ms.filter fun v => decide (T.level v = lv)) (b := ((R.filter fun q => decide (lvAt its q = lv)).map fun q => ((litV (litAt its q) : Nat) : Int)) ++ vs) (o.nd.filter _) (by rw [List.length_append, List.length_map]; omega)
  rw [List.mem_filter] at hv
  obtain ⟨q, x, hq, e⟩ := o.ms v hv.1
  have hlv := of_decide_eq_true hv.2
  rw [e, hs.level hq] at hlv
  rw [List.mem_append] at hn
  refine ⟨q, x, hq, e ▸ hv.1, hlv, fun hr => hn (.inl ?_), fun h => hn (.inr (e ▸ h))⟩
  rw [List.mem_map]
  refine ⟨q, List.mem_filter.2 ⟨hr, decide_eq_true ((lvAt_eq hq).trans hlv)⟩, ?_⟩
  rw [litAt_eq hq, e]
end
end Go.Proofs.YtoojmhjagipmdaaGreat
