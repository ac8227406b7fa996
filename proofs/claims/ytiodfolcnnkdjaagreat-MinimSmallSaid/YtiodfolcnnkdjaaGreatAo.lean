/- analyze: Right, Level, Conflict, with an arena and a trail. -/
import Derived.Test.YtiodfolcnnkdjaaGreatAn
namespace Go.Proofs.YtiodfolcnnkdjaaGreat
open Go.RowKit

theorem Arn.get_len {A : Arn} (h : A.Ok) {id : Int} {c : List Int} (hg : A.get id = some c) : c.length ≤ 4194304 := by
  unfold Arn.get at hg
  split at hg
  · obtain rfl := Option.some.inj hg
    have := h.lens.2
    simp only [List.length_take, List.length_drop]
    omega
  · cases hg
/-- what Level returns at a clause -/
def levelVal : Option Int → Value
  | some n => .tuple #[.int .i64 n, .int .i64 0]
  | none => .tuple #[.int .i64 0, .int .i64 140]
/-- whether the reason of a variable is right -/
def rightB (A : Arn) (T : Trl) (v : Int) : Bool := if T.val v = 0 then false else if v < 1 then false else (rightP A T (if T.val v = -1 then litN v else v)).isSome
set_option maxRecDepth 100000 in
theorem an_right {O Oa : Nat → Prop} (a b : Nat) (A : Arn) (T : Trl) (v : Int) (w : World) (ha : ArAt Oa w a A) (h : TrAt O w b T) :
    Calls Tryz.prog 114 #[.pointer (some ⟨a, 0, none⟩), .pointer (some ⟨b, 0, none⟩), .int .i64 v] w fun e w' => e = .returned (.tuple #[.bool (rightB A T v), .int .i64 0]) ∧ Below w.heap.size w w' := by
  have HV := Lib.hid (tr_value b T v w h)
  have HA := Lib.hid ha
  have HT := Lib.hid h
  have HL := Lib.hid (fun (id : Int) (c : List Int) (hg : A.get id = some c) => Arn.get_len ha.1 hg)
  clear ha h
  obtain ⟨x, hx⟩ : ∃ x, T.val v = x := ⟨_, rfl⟩
  have HXX := Lib.hid hx
  rw [hx] at HV
  clear hx
  by_cases h0 : x = 0
  · have HR := Lib.hid (show rightB A T v = false from if_pos (HXX.out.trans h0))
    subst h0
    go_enter Tryz.func114, Tryz.ntmps114
    go_wp2_with fail
    refine HV.out.mono ?_
    rintro e w' ⟨rfl, hb⟩
    have HB := Lib.hid hb
    clear hb HV
    go_wp2_with fail
    go_ret2
    exact ⟨by rw [HR.out]; rfl, HB.out⟩
  · have q0 : (x == 0) = false := by simpa using h0
    have HX0 := Lib.hid h0
    clear h0
    by_cases h1 : x = -1
    · subst h1
      by_cases hv : v < 1
      · have q1 : decide (v < 1) = true := by simpa using hv
        have HR := Lib.hid (show rightB A T v = false from (if_neg (fun e => HX0.out (HXX.out.symm.trans e))).trans (if_pos hv))
        clear hv
        go_enter Tryz.func114, Tryz.ntmps114
        go_wp2_with fail
        refine HV.out.mono ?_
        rintro e w' ⟨rfl, hb⟩
        have HB := Lib.hid hb
        clear hb HV
        go_wp2_with fail
        refine (lit_neg v w').mono ?_
        rintro e w2 ⟨rfl, rfl⟩
        go_wp2_with fail
        go_ret2
        exact ⟨by rw [HR.out]; rfl, HB.out⟩
      · have q1 : decide (v < 1) = false := by simpa using hv
        have HR := Lib.hid (show rightB A T v = (rightP A T (litN v)).isSome from (if_neg (fun e => HX0.out (HXX.out.symm.trans e))).trans ((if_neg hv).trans (by rw [HXX.out]; rfl)))
        clear hv
        go_enter Tryz.func114, Tryz.ntmps114
        go_wp2_with fail
        refine HV.out.mono ?_
        rintro e w' ⟨rfl, hb⟩
        have HB := Lib.hid hb
        clear hb HV
        go_wp2_with fail
        refine (lit_neg v w').mono ?_
        rintro e w2 ⟨rfl, rfl⟩
        go_wp2_with fail
        refine (wk_right a b none A T (litN v) w' (HA.out.below HB.out) (HT.out.below HB.out) HL.out).mono ?_
        rintro e w3 ⟨hor, hb3⟩
        have HB3 := Lib.hid (HB.out.trans (hb3.mono HB.out.size))
        clear hb3
        rcases hor with ⟨id, c, u, hr, rfl, hown⟩ | ⟨hr, rfl⟩
        · obtain ⟨Au, cu, rfl, _⟩ := mx_slice hown
          have HRR := Lib.hid hr
          clear hr hown
          go_wp2_with fail
          go_ret2
          exact ⟨by rw [HR.out, HRR.out]; rfl, HB3.out⟩
        · have HRR := Lib.hid hr
          clear hr
          go_wp2_with fail
          go_ret2
          exact ⟨by rw [HR.out, HRR.out]; rfl, HB3.out⟩
    · have q2 : (x == -1) = false := by simpa using h1
      have HX1 := Lib.hid h1
      clear h1
      by_cases hv : v < 1
      · have q1 : decide (v < 1) = true := by simpa using hv
        have HR := Lib.hid (show rightB A T v = false from (if_neg (fun e => HX0.out (HXX.out.symm.trans e))).trans (if_pos hv))
        clear hv
        go_enter Tryz.func114, Tryz.ntmps114
        go_wp2_with fail
        refine HV.out.mono ?_
        rintro e w' ⟨rfl, hb⟩
        have HB := Lib.hid hb
        clear hb HV
        go_wp2_with fail
        go_ret2
        exact ⟨by rw [HR.out]; rfl, HB.out⟩
      · have q1 : decide (v < 1) = false := by simpa using hv
        have HR := Lib.hid (show rightB A T v = (rightP A T v).isSome from (if_neg (fun e => HX0.out (HXX.out.symm.trans e))).trans ((if_neg hv).trans (by rw [HXX.out, if_neg HX1.out])))
        clear hv
        go_enter Tryz.func114, Tryz.ntmps114
        go_wp2_with fail
        refine HV.out.mono ?_
        rintro e w' ⟨rfl, hb⟩
        have HB := Lib.hid hb
        clear hb HV
        go_wp2_with fail
        refine (wk_right a b none A T v w' (HA.out.below HB.out) (HT.out.below HB.out) HL.out).mono ?_
        rintro e w3 ⟨hor, hb3⟩
        have HB3 := Lib.hid (HB.out.trans (hb3.mono HB.out.size))
        clear hb3
        rcases hor with ⟨id, c, u, hr, rfl, hown⟩ | ⟨hr, rfl⟩
        · obtain ⟨Au, cu, rfl, _⟩ := mx_slice hown
          have HRR := Lib.hid hr
          clear hr hown
          go_wp2_with fail
          go_ret2
          exact ⟨by rw [HR.out, HRR.out]; rfl, HB3.out⟩
        · have HRR := Lib.hid hr
          clear hr
          go_wp2_with fail
          go_ret2
          exact ⟨by rw [HR.out, HRR.out]; rfl, HB3.out⟩
/-! ### Conflict -/
structure Lrn where
  lits : List Int
  back : Int
  levels : Int
  hints : List Int
  met : List Int
def lrn0 : Lrn := ⟨[], 0, 0, [], []⟩
/-- what Conflict returns -/
def confP (A : Arn) (T : Trl) (id : Int) : Lrn × Nat := match A.get id with
  | none => (lrn0, 30)
  | some c => match T.failMax c 0 with
    | none => (lrn0, 140)
    | some lv => match cfEnd A T lv c with
      | none => (lrn0, 141)
      | some s => (⟨s.lits, T.backOf s.lits, T.levelsOf s.lits, s.hints.reverse ++ [id], sortI s.met⟩, 0)
/-- a Learned in memory, of rows that are the caller's own -/
def LrnAt (n : Nat) (w : World) (v : Value) (r : Lrn) : Prop := ∃ x y z, v = .agg #[x, .int .i64 r.back, .int .i64 r.levels, y, z] ∧
  w.ownsRow n 31 1 x r.lits.length (r.lits.map (Value.int .i64)) ∧ w.ownsRow n 3 1 y r.hints.length (r.hints.map (Value.int .i64)) ∧ w.ownsRow n 3 1 z r.met.length (r.met.map (Value.int .i64))
theorem lrn0_at (n : Nat) (w : World) : LrnAt n w (.agg #[.slice none 0 0, .int .i64 0, .int .i64 0, .slice none 0 0, .slice none 0 0]) lrn0 :=
  ⟨_, _, _, rfl, World.ownsRow_nil _ _ _ _, World.ownsRow_nil _ _ _ _, World.ownsRow_nil _ _ _ _⟩
theorem an_conflict {O Oa : Nat → Prop} (a b : Nat) (A : Arn) (T : Trl) (id : Int) (w : World) (ha : ArAt Oa w a A) (h : TrAt O w b T) :
    Calls Tryz.prog 40 #[.pointer (some ⟨a, 0, none⟩), .pointer (some ⟨b, 0, none⟩), .int .i64 id] w fun e w' => (∃ v, e = .returned (.tuple #[v, .int .i64 ((confP A T id).2 : Nat)]) ∧ LrnAt w.heap.size w' v (confP A T id).1) ∧ Below w.heap.size w w' := by
  cases hg : A.get id with
  | none =>
    have hp : confP A T id = (lrn0, 30) := by unfold confP; rw [hg]
    rw [hp]
    refine (conf_none a b A id w ha hg).mono ?_
    rintro e w' ⟨rfl, hb⟩
    exact ⟨⟨_, rfl, lrn0_at _ _⟩, hb⟩
  | some c =>
    cases hf : T.failMax c 0 with
    | none =>
      have hp : confP A T id = (lrn0, 140) := by unfold confP; rw [hg]; simp only [hf]
      rw [hp]
      refine (conf_holds a b A T id w ha h hg (Arn.get_len ha.1 hg) hf).mono ?_
      rintro e w' ⟨rfl, hb⟩
      exact ⟨⟨_, rfl, lrn0_at _ _⟩, hb⟩
    | some lv =>
      refine (conf_main a b A T id lv c w ha h hg (fun _ _ hg => Arn.get_len ha.1 hg) hf).mono ?_
      rintro e w' ⟨hp, hb⟩
      rcases hp with ⟨s, x, y, z, hs, rfl, h1, h2, h3⟩ | ⟨hs, rfl⟩
      · have hp : confP A T id = (⟨s.lits, T.backOf s.lits, T.levelsOf s.lits, s.hints.reverse ++ [id], sortI s.met⟩, 0) := by unfold confP; rw [hg]; simp only [hf, hs]
        rw [hp]
        exact ⟨⟨_, rfl, x, y, z, rfl, h1, h2, h3⟩, hb⟩
      · have hp : confP A T id = (lrn0, 141) := by unfold confP; rw [hg]; simp only [hf, hs]
        rw [hp]
        exact ⟨⟨_, rfl, lrn0_at _ _⟩, hb⟩
end Go.Proofs.YtiodfolcnnkdjaaGreat
