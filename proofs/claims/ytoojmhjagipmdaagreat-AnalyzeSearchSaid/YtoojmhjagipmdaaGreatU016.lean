/- analyze: Right, Level, Conflict, with an arena and a trail. Clauses in memory. An arena and a trail that are apart, in own blocks; clauses added, calls played. An arena with clauses, a trail with calls (package salvorlaw14: Put). Plain: how a trail comes about; what a clause covers (chapter 15). Plain: what is met from a clause that fails on, when reasons are right: what has to go has a right reason, and one literal of the greatest level stays. -/
import Derived.Test.YtoojmhjagipmdaaGreatU015
import Derived.Test.YtoojmhjagipmdaaGreatU000
import Derived.Test.YtoojmhjagipmdaaGreatU011
import Derived.Test.YtoojmhjagipmdaaGreatU009
import Derived.Test.YtoojmhjagipmdaaGreatU008
import Derived.Test.YtoojmhjagipmdaaGreatU010
namespace Go.Proofs.YtoojmhjagipmdaaGreat
open Go.RowKit

theorem Arn.get_len {A : Arn} (h : A.Ok) {id : Int} {c : List Int} (hg : A.get id = some c) : c.length ≤ 4194304 := by
  unfold Arn.get at hg
  split at hg
  · obtain rfl := Option.some.inj hg
    have := h.lens.2
    simp only [List.length_take, List.length_drop]
    omega
  · cases hg
/-- what Level returns at a clause -/
def levelVal : Option Int → Value
  | some n => .tuple #[.int .i64 n, .int .i64 0]
  | none => .tuple #[.int .i64 0, .int .i64 140]
theorem an_level {O Oa : Nat → Prop} (a b : Nat) (A : Arn) (T : Trl) (id : Int) (c : List Int) (w : World) (ha : ArAt Oa w a A) (h : TrAt O w b T) (hg : A.get id = some c) :
    Calls Tryz.prog 19 #[.pointer (some ⟨a, 0, none⟩), .pointer (some ⟨b, 0, none⟩), .int .i64 id] w fun e w' => e = .returned (levelVal (T.failMax c 0)) ∧ Below w.heap.size w w' := by
  have HC := Lib.hid (wk_fails a b none A T id c w ha h hg (Arn.get_len ha.1 hg))
  clear hg ha h
  go_enter Tryz.func19, Tryz.ntmps19
  go_wp2_with fail
  refine HC.out.mono ?_
  rintro e w' ⟨hor, hb⟩
  have HB := Lib.hid hb
  clear hb
  rcases hor with ⟨v, n, hn, rfl, hown⟩ | ⟨hn, rfl⟩
  · obtain ⟨Av, cv, rfl, _⟩ := mx_slice hown
    have HN := Lib.hid hn
    clear hn hown
    go_wp2_with fail
    go_ret2
    exact ⟨by rw [HN.out]; rfl, HB.out⟩
  · have HN := Lib.hid hn
    clear hn
    go_wp2_with fail
    go_ret2
    exact ⟨by rw [HN.out]; rfl, HB.out⟩
/-- whether the reason of a variable is right -/
def rightB (A : Arn) (T : Trl) (v : Int) : Bool := if T.val v = 0 then false else if v < 1 then false else (rightP A T (if T.val v = -1 then litN v else v)).isSome
set_option maxRecDepth 100000 in
theorem an_right {O Oa : Nat → Prop} (a b : Nat) (A : Arn) (T : Trl) (v : Int) (w : World) (ha : ArAt Oa w a A) (h : TrAt O w b T) :
    Calls Tryz.prog 18 #[.pointer (some ⟨a, 0, none⟩), .pointer (some ⟨b, 0, none⟩), .int .i64 v] w fun e w' => e = .returned (.tuple #[.bool (rightB A T v), .int .i64 0]) ∧ Below w.heap.size w w' := by
  have HV := Lib.hid (tr_value b T v w h)
  have HA := Lib.hid ha
  have HT := Lib.hid h
  have HL := Lib.hid (fun (id : Int) (c : List Int) (hg : A.get id = some c) => Arn.get_len ha.1 hg)
  clear ha h
  obtain ⟨x, hx⟩ : ∃ x, T.val v = x := ⟨_, rfl⟩
  have HXX := Lib.hid hx
  rw [hx] at HV
  clear hx
  by_cases h0 : x = 0
  · have HR := Lib.hid (show rightB A T v = false from if_pos (HXX.out.trans h0))
    subst h0
    go_enter Tryz.func18, Tryz.ntmps18
    go_wp2_with fail
    refine HV.out.mono ?_
    rintro e w' ⟨rfl, hb⟩
    have HB := Lib.hid hb
    clear hb HV
    go_wp2_with fail
    go_ret2
    exact ⟨by rw [HR.out]; rfl, HB.out⟩
  · have q0 : (x == 0) = false := by simpa using h0
    have HX0 := Lib.hid h0
    clear h0
    by_cases h1 : x = -1
    · subst h1
      by_cases hv : v < 1
      · have q1 : decide (v < 1) = true := by simpa using hv
        have HR := Lib.hid (show rightB A T v = false from (if_neg (fun e => HX0.out (HXX.out.symm.trans e))).trans (if_pos hv))
        clear hv
        go_enter Tryz.func18, Tryz.ntmps18
        go_wp2_with fail
        refine HV.out.mono ?_
        rintro e w' ⟨rfl, hb⟩
        have HB := Lib.hid hb
        clear hb HV
        go_wp2_with fail
        refine (lit_neg v w').mono ?_
        rintro e w2 ⟨rfl, rfl⟩
        go_wp2_with fail
        go_ret2
        exact ⟨by rw [HR.out]; rfl, HB.out⟩
      · have q1 : decide (v < 1) = false := by simpa using hv
        have HR := Lib.hid (show rightB A T v = (rightP A T (litN v)).isSome from (if_neg (fun e => HX0.out (HXX.out.symm.trans e))).trans ((if_neg hv).trans (by rw [HXX.out]; rfl)))
        clear hv
        go_enter Tryz.func18, Tryz.ntmps18
        go_wp2_with fail
        refine HV.out.mono ?_
        rintro e w' ⟨rfl, hb⟩
        have HB := Lib.hid hb
        clear hb HV
        go_wp2_with fail
        refine (lit_neg v w').mono ?_
        rintro e w2 ⟨rfl, rfl⟩
        go_wp2_with fail
        refine (wk_right a b none A T (litN v) w' (HA.out.below HB.out) (HT.out.below HB.out) HL.out).mono ?_
        rintro e w3 ⟨hor, hb3⟩
        have HB3 := Lib.hid (HB.out.trans (hb3.mono HB.out.size))
        clear hb3
        rcases hor with ⟨id, c, u, hr, rfl, hown⟩ | ⟨hr, rfl⟩
        · obtain ⟨Au, cu, rfl, _⟩ := mx_slice hown
          have HRR := Lib.hid hr
          clear hr hown
          go_wp2_with fail
          go_ret2
          exact ⟨by rw [HR.out, HRR.out]; rfl, HB3.out⟩
        · have HRR := Lib.hid hr
          clear hr
          go_wp2_with fail
          go_ret2
          exact ⟨by rw [HR.out, HRR.out]; rfl, HB3.out⟩
    · have q2 : (x == -1) = false := by simpa using h1
      have HX1 := Lib.hid h1
      clear h1
      by_cases hv : v < 1
      · have q1 : decide (v < 1) = true := by simpa using hv
        have HR := Lib.hid (show rightB A T v = false from (if_neg (fun e => HX0.out (HXX.out.symm.trans e))).trans (if_pos hv))
        clear hv
        go_enter Tryz.func18, Tryz.ntmps18
        go_wp2_with fail
        refine HV.out.mono ?_
        rintro e w' ⟨rfl, hb⟩
        have HB := Lib.hid hb
        clear hb HV
        go_wp2_with fail
        go_ret2
        exact ⟨by rw [HR.out]; rfl, HB.out⟩
      · have q1 : decide (v < 1) = false := by simpa using hv
        have HR := Lib.hid (show rightB A T v = (rightP A T v).isSome from (if_neg (fun e => HX0.out (HXX.out.symm.trans e))).trans ((if_neg hv).trans (by rw [HXX.out, if_neg HX1.out])))
        clear hv
        go_enter Tryz.func18, Tryz.ntmps18
        go_wp2_with fail
        refine HV.out.mono ?_
        rintro e w' ⟨rfl, hb⟩
        have HB := Lib.hid hb
        clear hb HV
        go_wp2_with fail
        refine (wk_right a b none A T v w' (HA.out.below HB.out) (HT.out.below HB.out) HL.out).mono ?_
        rintro e w3 ⟨hor, hb3⟩
        have HB3 := Lib.hid (HB.out.trans (hb3.mono HB.out.size))
        clear hb3
        rcases hor with ⟨id, c, u, hr, rfl, hown⟩ | ⟨hr, rfl⟩
        · obtain ⟨Au, cu, rfl, _⟩ := mx_slice hown
          have HRR := Lib.hid hr
          clear hr hown
          go_wp2_with fail
          go_ret2
          exact ⟨by rw [HR.out, HRR.out]; rfl, HB3.out⟩
        · have HRR := Lib.hid hr
          clear hr
          go_wp2_with fail
          go_ret2
          exact ⟨by rw [HR.out, HRR.out]; rfl, HB3.out⟩
/-! ### Conflict -/
structure Lrn where
  lits : List Int
  back : Int
  levels : Int
  hints : List Int
  met : List Int
def lrn0 : Lrn := ⟨[], 0, 0, [], []⟩
/-- what Conflict returns -/
def confP (A : Arn) (T : Trl) (id : Int) : Lrn × Nat := match A.get id with
  | none => (lrn0, 30)
  | some c => match T.failMax c 0 with
    | none => (lrn0, 140)
    | some lv => match cfEnd A T lv c with
      | none => (lrn0, 141)
      | some s => (⟨s.lits, T.backOf s.lits, T.levelsOf s.lits, s.hints.reverse ++ [id], sortI s.met⟩, 0)
/-- a Learned in memory, of rows that are the caller's own -/
def LrnAt (n : Nat) (w : World) (v : Value) (r : Lrn) : Prop := ∃ x y z, v = .agg #[x, .int .i64 r.back, .int .i64 r.levels, y, z] ∧
  w.ownsRow n 32 1 x r.lits.length (r.lits.map (Value.int .i64)) ∧ w.ownsRow n 3 1 y r.hints.length (r.hints.map (Value.int .i64)) ∧ w.ownsRow n 3 1 z r.met.length (r.met.map (Value.int .i64))
theorem lrn0_at (n : Nat) (w : World) : LrnAt n w (.agg #[.slice none 0 0, .int .i64 0, .int .i64 0, .slice none 0 0, .slice none 0 0]) lrn0 :=
  ⟨_, _, _, rfl, World.ownsRow_nil _ _ _ _, World.ownsRow_nil _ _ _ _, World.ownsRow_nil _ _ _ _⟩
theorem an_conflict {O Oa : Nat → Prop} (a b : Nat) (A : Arn) (T : Trl) (id : Int) (w : World) (ha : ArAt Oa w a A) (h : TrAt O w b T) :
    Calls Tryz.prog 32 #[.pointer (some ⟨a, 0, none⟩), .pointer (some ⟨b, 0, none⟩), .int .i64 id] w fun e w' => (∃ v, e = .returned (.tuple #[v, .int .i64 ((confP A T id).2 : Nat)]) ∧ LrnAt w.heap.size w' v (confP A T id).1) ∧ Below w.heap.size w w' := by
  cases hg : A.get id with
  | none =>
    have hp : confP A T id = (lrn0, 30) := by unfold confP; rw [hg]
    rw [hp]
    refine (conf_none a b A id w ha hg).mono ?_
    rintro e w' ⟨rfl, hb⟩
    exact ⟨⟨_, rfl, lrn0_at _ _⟩, hb⟩
  | some c =>
    cases hf : T.failMax c 0 with
    | none =>
      have hp : confP A T id = (lrn0, 140) := by unfold confP; rw [hg]; simp only [hf]
      rw [hp]
      refine (conf_holds a b A T id w ha h hg (Arn.get_len ha.1 hg) hf).mono ?_
      rintro e w' ⟨rfl, hb⟩
      exact ⟨⟨_, rfl, lrn0_at _ _⟩, hb⟩
    | some lv =>
      refine (conf_main a b A T id lv c w ha h hg (fun _ _ hg => Arn.get_len ha.1 hg) hf).mono ?_
      rintro e w' ⟨hp, hb⟩
      rcases hp with ⟨s, x, y, z, hs, rfl, h1, h2, h3⟩ | ⟨hs, rfl⟩
      · have hp : confP A T id = (⟨s.lits, T.backOf s.lits, T.levelsOf s.lits, s.hints.reverse ++ [id], sortI s.met⟩, 0) := by unfold confP; rw [hg]; simp only [hf, hs]
        rw [hp]
        exact ⟨⟨_, rfl, x, y, z, rfl, h1, h2, h3⟩, hb⟩
      · have hp : confP A T id = (lrn0, 141) := by unfold confP; rw [hg]; simp only [hf, hs]
        rw [hp]
        exact ⟨⟨_, rfl, lrn0_at _ _⟩, hb⟩
end Go.Proofs.YtoojmhjagipmdaaGreat
namespace Go.Proofs.YtoojmhjagipmdaaGreat
open Go.RowKit

/-- clauses in memory -/
def ClsAt (w : World) (v : Value) (cs : List (List Int)) : Prop :=
  ∃ A c, v = .slice A cs.length c ∧ ∀ i xs, cs[i]? = some xs → ∃ g o u, A = some ⟨g, o, none⟩ ∧ g < w.heap.size ∧ w.cell? ⟨g, o + i, none⟩ = some u ∧ IntsIn (fun g => g < w.heap.size) w u xs
theorem ClsAt.below {w w' : World} {v : Value} {cs : List (List Int)} (h : ClsAt w v cs) (hb : Below w.heap.size w w') : ClsAt w' v cs := by
  obtain ⟨A, c, hv, hx⟩ := h
  refine ⟨A, c, hv, fun i xs hi => ?_⟩
  obtain ⟨g, o, u, h1, h2, h3, h4⟩ := hx i xs hi
  exact ⟨g, o, u, h1, Nat.lt_of_lt_of_le h2 hb.size, (hb.cell (p := ⟨g, o + i, none⟩) h2).trans h3, (h4.below hb).mono (fun g hg => Nat.lt_of_lt_of_le hg hb.size)⟩
theorem ClsAt.nil (w : World) : ClsAt w (.slice none 0 0) [] := ⟨none, 0, rfl, fun i xs h => by simp at h⟩
end Go.Proofs.YtoojmhjagipmdaaGreat
namespace Go.Proofs.YtoojmhjagipmdaaGreat
open Go.RowKit

/-- a call of a trail -/
structure ActP where
  push : Bool
  l : Int
  by_ : Int
def ActsIn (w : World) (v : Value) (acs : List ActP) : Prop :=
  ∃ A c, v = .slice A acs.length c ∧ ∀ i a, acs[i]? = some a → ∃ g o, A = some ⟨g, o, none⟩ ∧ g < w.heap.size ∧ w.cell? ⟨g, o + i * 3, none⟩ = some (.bool a.push) ∧ w.cell? ⟨g, o + i * 3 + 1, none⟩ = some (.int .i64 a.l) ∧ w.cell? ⟨g, o + i * 3 + 2, none⟩ = some (.int .i64 a.by_)
theorem ActsIn.below {w w' : World} {v : Value} {acs : List ActP} (h : ActsIn w v acs) (hb : Below w.heap.size w w') : ActsIn w' v acs := by
  obtain ⟨A, c, hv, hx⟩ := h
  refine ⟨A, c, hv, fun i a hi => ?_⟩
  obtain ⟨g, o, h1, h2, h3, h4, h5⟩ := hx i a hi
  exact ⟨g, o, h1, Nat.lt_of_lt_of_le h2 hb.size, (hb.cell (p := ⟨g, o + i * 3, none⟩) h2).trans h3, (hb.cell (p := ⟨g, o + i * 3 + 1, none⟩) h2).trans h4, (hb.cell (p := ⟨g, o + i * 3 + 2, none⟩) h2).trans h5⟩
theorem ActsIn.nil (w : World) : ActsIn w (.slice none 0 0) [] := ⟨none, 0, rfl, fun i xs h => by simp at h⟩
def Arn.put (A : Arn) (id : Int) (c : List Int) : Arn := if clauseB c = true then A.add id c else A
def addAll : Arn → Nat → List (List Int) → Arn
  | A, _, [] => A
  | A, i, c :: cs => addAll (A.put ((i : Int) + 1) c) (i + 1) cs
def Trl.play (T : Trl) (a : ActP) : Trl := if a.push = true then T.push else T.assigned a.l a.by_
def playAll : Trl → List ActP → Trl
  | T, [] => T
  | T, a :: acs => playAll (T.play a) acs
def arn0 : Arn := ⟨[], [], 0, 0, 0⟩
def trl0 (n : Nat) : Trl := ⟨List.replicate (n + 1) ⟨0, 0, 0, 0⟩, [], [0]⟩
structure Arn.Low (A : Arn) (k : Nat) : Prop where
  last : A.last ≤ (k : Int)
  used : A.used ≤ k * 1000
  store : A.store.length ≤ k * 1000
  all : A.all.length ≤ k
  count : A.count ≤ k
theorem Arn.Low.next {A : Arn} {k : Nat} (h : A.Low k) (c : List Int) (hc : c.length ≤ 1000) : (A.put ((k : Int) + 1) c).Low (k + 1) := by
  obtain ⟨h1, h2, h3, h4, h5⟩ := h
  have e : (k + 1) * 1000 = k * 1000 + 1000 := Nat.succ_mul k 1000
  have u1 : A.used + c.length ≤ (k + 1) * 1000 := e ▸ Nat.add_le_add h2 hc
  have u2 : A.store.length + c.length ≤ (k + 1) * 1000 := e ▸ Nat.add_le_add h3 hc
  have v1 : A.used ≤ (k + 1) * 1000 := Nat.le_trans (Nat.le_add_right _ _) u1
  have v2 : A.store.length ≤ (k + 1) * 1000 := Nat.le_trans (Nat.le_add_right _ _) u2
  clear e h2 h3
  unfold Arn.put
  split
  · refine ⟨?_, u1, ?_, ?_, ?_⟩
    · simp [Arn.add]
    · simp only [Arn.add, List.length_append]
      exact u2
    · simp only [Arn.add, List.length_append, List.length_cons, List.length_nil]
      exact Nat.succ_le_succ h4
    · simp only [Arn.add]
      exact Nat.succ_le_succ h5
  · exact ⟨by clear u1 u2 v1 v2; omega, v1, v2, Nat.le_succ_of_le h4, Nat.le_succ_of_le h5⟩
structure Trl.Low (T : Trl) (k : Nat) : Prop where
  order : T.order.length ≤ k
  starts : T.starts.length ≤ k + 1
theorem Trl.Low.next {T : Trl} {k : Nat} (h : T.Low k) (a : ActP) : (T.play a).Low (k + 1) := by
  obtain ⟨h1, h2⟩ := h
  unfold Trl.play
  split
  · exact ⟨by simp only [Trl.push]; omega, by simp only [Trl.push, List.length_append, List.length_cons, List.length_nil]; omega⟩
  · unfold Trl.assigned
    split
    · exact ⟨by simp only [Trl.assign, List.length_append, List.length_cons, List.length_nil]; omega, by simp only [Trl.assign]; omega⟩
    · exact ⟨by omega, by omega⟩
/-- an arena and a trail, apart from each other, in blocks of one's own -/
def PutAt (n : Nat) (w : World) (a b : Nat) (A : Arn) (T : Trl) : Prop :=
  n ≤ w.heap.size ∧ ∃ OA OT : Nat → Prop, ArAt OA w a A ∧ TrAt OT w b T ∧ (∀ g, OA g → n ≤ g) ∧ (∀ g, OT g → n ≤ g) ∧ ∀ g, OA g → ¬ OT g
theorem PutAt.below {n : Nat} {w w' : World} {a b : Nat} {A : Arn} {T : Trl} (h : PutAt n w a b A T) (hb : Below w.heap.size w w') : PutAt n w' a b A T := by
  obtain ⟨h0, OA, OT, h1, h2, h3⟩ := h
  exact ⟨Nat.le_trans h0 hb.size, OA, OT, h1.below hb, h2.below hb, h3⟩
theorem ArAt.own {O : Nat → Prop} {w : World} {a : Nat} {A : Arn} (h : ArAt O w a A) : ∀ g, O g → g < w.heap.size := by
  obtain ⟨_, stv, alv, hm⟩ := h
  exact hm.own
theorem TrAt.own {O : Nat → Prop} {w : World} {b : Nat} {T : Trl} (h : TrAt O w b T) : ∀ g, O g → g < w.heap.size := by
  obtain ⟨_, gv, cv, ov, sv, hm⟩ := h
  exact hm.own
theorem PutAt.arena {n : Nat} {w w' : World} {a b : Nat} {A' : Arn} {T : Trl} {OA OT : Nat → Prop} (h0 : n ≤ w.heap.size) (h2 : TrAt OT w b T) (h3 : ∀ g, OA g → n ≤ g) (h4 : ∀ g, OT g → n ≤ g) (h5 : ∀ g, OA g → ¬ OT g) (k : ArNext OA w w' a A') : PutAt n w' a b A' T ∧ Below n w w' := by
  obtain ⟨hA, hk⟩ := k
  have ho := h2.own
  refine ⟨⟨Nat.le_trans h0 hk.size, _, OT, hA, h2.kept hk (fun g hg ha => h5 g ha hg), fun g hg => ?_, h4, fun g hg ht => ?_⟩, hk.below h3 h0⟩
  · rcases hg with hg | hg
    · exact h3 g hg
    · omega
  · rcases hg with hg | hg
    · exact h5 g hg ht
    · have := ho g ht
      omega
theorem PutAt.trail {n : Nat} {w w' : World} {a b : Nat} {A : Arn} {T' : Trl} {OA OT : Nat → Prop} (h0 : n ≤ w.heap.size) (h2 : ArAt OA w a A) (h3 : ∀ g, OA g → n ≤ g) (h4 : ∀ g, OT g → n ≤ g) (h5 : ∀ g, OA g → ¬ OT g) (k : TrNext OT w w' b T') : PutAt n w' a b A T' ∧ Below n w w' := by
  obtain ⟨hT, hk⟩ := k
  have ho := h2.own
  refine ⟨⟨Nat.le_trans h0 hk.size, OA, _, h2.kept hk h5, hT, h3, fun g hg => ?_, fun g hg ht => ?_⟩, hk.below h4 h0⟩
  · rcases hg with hg | hg
    · exact h4 g hg
    · omega
  · rcases ht with ht | ht
    · exact h5 g hg ht
    · have := ho g hg
      omega
theorem put_add {n : Nat} {w : World} {a b : Nat} {A : Arn} {T : Trl} {k : Nat} (cv : Value) (c : List Int) (h : PutAt n w a b A T) (hl : A.Low k) (hk : k < 1000) (hc : IntsIn (fun g => g < w.heap.size) w cv c) (hcl : c.length ≤ 1000) :
    Calls Tryz.prog 92 #[.pointer (some ⟨a, 0, none⟩), .int .i64 ((k : Int) + 1), cv] w fun e w' => (∃ x : Int, e = .returned (.int .i64 x)) ∧ PutAt n w' a b (A.put ((k : Int) + 1) c) T ∧ Below n w w' := by
  obtain ⟨h0, OA, OT, h1, h2, h3, h4, h5⟩ := h
  obtain ⟨l1, l2, l3, l4, l5⟩ := hl
  cases hr : clauseB c with
  | true =>
    have e : A.put ((k : Int) + 1) c = A.add ((k : Int) + 1) c := by unfold Arn.put; rw [if_pos hr]
    rw [e]
    refine (ar_add a A ((k : Int) + 1) cv c w h1 hc hr (by omega) (by omega) (by omega) (by omega) (by omega) (by omega) (by omega)).mono ?_
    rintro e w' ⟨rfl, hn⟩
    exact ⟨⟨_, rfl⟩, PutAt.arena h0 h2 h3 h4 h5 hn⟩
  | false =>
    have e : A.put ((k : Int) + 1) c = A := by unfold Arn.put; rw [if_neg (by rw [hr]; decide)]
    rw [e]
    refine (ar_add_bad a A ((k : Int) + 1) cv c w h1 hc hr (by omega)).mono ?_
    rintro e w' ⟨rfl, rfl⟩
    exact ⟨⟨_, rfl⟩, ⟨h0, OA, OT, h1, h2, h3, h4, h5⟩, Below.refl _ _⟩
theorem put_push {n : Nat} {w : World} {a b : Nat} {A : Arn} {T : Trl} {k : Nat} (h : PutAt n w a b A T) (hl : T.Low k) (hk : k < 1000) :
    Calls Tryz.prog 53 #[.pointer (some ⟨b, 0, none⟩)] w fun e w' => e = .returned (.int .i64 0) ∧ PutAt n w' a b A T.push ∧ Below n w w' := by
  obtain ⟨h0, OA, OT, h1, h2, h3, h4, h5⟩ := h
  have := hl.starts
  refine (tr_push b T w h2 (by omega)).mono ?_
  rintro e w' ⟨rfl, hn⟩
  exact ⟨rfl, PutAt.trail h0 h1 h3 h4 h5 hn⟩
theorem put_assign {n : Nat} {w : World} {a b : Nat} {A : Arn} {T : Trl} {k : Nat} (l r : Int) (h : PutAt n w a b A T) (hl : T.Low k) (hk : k < 1000) :
    Calls Tryz.prog 54 #[.pointer (some ⟨b, 0, none⟩), .int .i64 l, .int .i64 r] w fun e w' => e = .returned (.int .i64 (T.assignErr l r : Nat)) ∧ PutAt n w' a b A (T.assigned l r) ∧ Below n w w' := by
  obtain ⟨h0, OA, OT, h1, h2, h3, h4, h5⟩ := h
  have := hl.order
  refine (tr_assign b T l r w h2 (by omega)).mono ?_
  rintro e w' ⟨rfl, hn⟩
  exact ⟨rfl, PutAt.trail h0 h1 h3 h4 h5 hn⟩
end Go.Proofs.YtoojmhjagipmdaaGreat
namespace Go.Proofs.YtoojmhjagipmdaaGreat
open Go.RowKit

set_option maxRecDepth 100000 in
set_option maxHeartbeats 2000000 in
theorem put_any (n : Nat) (cv av : Value) (cs : List (List Int)) (acs : List ActP) (w : World) (hn : n ≤ 1048576) (hc : ClsAt w cv cs) (ha : ActsIn w av acs) (hcl : cs.length ≤ 1000) (hce : ∀ c ∈ cs, c.length ≤ 1000) (hal : acs.length ≤ 1000) :
    Calls Tryz.prog 48 #[.int .i64 (n : Int), cv, av] w fun e w' => ∃ a b, e = .returned (.tuple #[.pointer (some ⟨a, 0, none⟩), .pointer (some ⟨b, 0, none⟩), .bool true]) ∧ PutAt w.heap.size w' a b (addAll arn0 0 cs) (playAll (trl0 n) acs) ∧ Below w.heap.size w w' := by
  have HCC := Lib.hid hc
  have HAA := Lib.hid ha
  have HCE := Lib.hid hce
  obtain ⟨Ac, cc, rfl, _⟩ := hc
  obtain ⟨Aa, ca, rfl, _⟩ := ha
  clear hce
  go_enter Tryz.func48, Tryz.ntmps48
  go_wp2_with fail
  refine (ar_new w).mono ?_
  rintro e w1 ⟨rfl, har, hw1⟩
  have hb1 : Below w.heap.size w w1 := by rw [hw1]; exact mx_al _ _
  have HAR := Lib.hid har
  have HB1 := Lib.hid hb1
  have hz1 : w.heap.size < w1.heap.size := by rw [hw1]; simp
  clear har hw1 hb1
  go_wp2_with fail
  refine (tr_new n w1 hn).mono ?_
  rintro e w2 ⟨b, rfl, htr, hb2⟩
  have hP : PutAt w.heap.size w2 w.heap.size b arn0 (trl0 n) := ⟨Nat.le_trans (Nat.le_of_lt hz1) hb2.size, _, _, HAR.out.below hb2, htr, fun g hg => Nat.le_of_eq hg.symm, fun g hg => by have := hg.1; omega, fun g hg ht => by have := ht.1; have e : g = w.heap.size := hg; omega⟩
  have HP := Lib.hid hP
  have HB2 := Lib.hid (HB1.out.trans (hb2.mono HB1.out.size))
  clear hP htr hb2
  go_wp2_with fail
  go_loopw [34] (fun i wr => ∃ (k : Nat) (A : Arn), k ≤ cs.length ∧ i = .int .i64 k ∧ Hid (addAll arn0 0 cs = addAll A k (cs.drop k)) ∧ Hid (A.Low k) ∧ Hid (Below w.heap.size w wr) ∧ Hid (PutAt w.heap.size wr w.heap.size b A (trl0 n))) (fun i _ => cs.length - (intOf i).toNat)
  case atStart => exact ⟨0, arn0, Nat.zero_le _, rfl, Lib.hid rfl, Lib.hid ⟨by decide, by decide, by decide, by decide, by decide⟩, HB2, HP⟩
  case round =>
    obtain ⟨k, A, hk, rfl, HF, HL, HW, HPW⟩ := hrel
    by_cases hlt : k < cs.length
    · obtain ⟨c, hck⟩ := getElem_of hlt
      obtain ⟨A', c', hAc, hxs⟩ := HCC.out.below HW.out
      simp only [Value.slice.injEq, true_and] at hAc
      obtain ⟨rfl, rfl⟩ := hAc
      obtain ⟨g, o, u, rfl, hg, d0, hu⟩ := hxs k c hck
      have hdk : cs.drop k = c :: cs.drop (k + 1) := by
        rw [List.drop_eq_getElem_cons hlt]
        rw [List.getElem?_eq_getElem hlt] at hck
        rw [Option.some.inj hck]
      have hcl' := HCE.out c (List.mem_of_getElem? hck)
      have HN := Lib.hid (show addAll arn0 0 cs = addAll (A.put ((k : Int) + 1) c) (k + 1) (cs.drop (k + 1)) from by rw [HF.out, hdk]; rfl)
      have HL2 := Lib.hid (HL.out.next c hcl')
      have HCA := Lib.hid (put_add u c HPW.out HL.out (by omega) hu hcl')
      clear hck hxs hdk hu
      go_wp2_with fail
      refine HCA.out.mono ?_
      rintro e w3 ⟨⟨x, rfl⟩, hp3, hb3⟩
      have HP3 := Lib.hid hp3
      have HB3 := Lib.hid (HW.out.trans hb3)
      clear hp3 hb3 d0 HCA
      go_wp2_with fail
      go_roundw
      case rel => exact ⟨k + 1, _, by omega, by go_num, HN, HL2, HB3, HP3⟩
      case measure => simp [intOf]; omega
    · obtain rfl : k = cs.length := by omega
      have hF := HF.out
      rw [List.drop_length, show addAll A cs.length [] = A from rfl] at hF
      have HFA := Lib.hid hF
      clear hF
      go_wp2_with fail
      go_loopw [47] (fun i wr => ∃ (m : Nat) (T : Trl), m ≤ acs.length ∧ i = .int .i64 m ∧ Hid (playAll (trl0 n) acs = playAll T (acs.drop m)) ∧ Hid (T.Low m) ∧ Hid (Below w.heap.size w wr) ∧ Hid (PutAt w.heap.size wr w.heap.size b A T)) (fun i _ => acs.length - (intOf i).toNat)
      case atStart => exact ⟨0, trl0 n, Nat.zero_le _, rfl, Lib.hid rfl, Lib.hid ⟨Nat.zero_le _, Nat.le_refl _⟩, HW, HPW⟩
      case round =>
        obtain ⟨m, T, hm, rfl, HG, HLT, HW2, HPT⟩ := hrel
        by_cases hlt2 : m < acs.length
        · obtain ⟨ac, hac⟩ := getElem_of hlt2
          obtain ⟨A', c', hAc, hxs⟩ := HAA.out.below HW2.out
          simp only [Value.slice.injEq, true_and] at hAc
          obtain ⟨rfl, rfl⟩ := hAc
          obtain ⟨g, o, rfl, hg, d0, d1, d2⟩ := hxs m ac hac
          have hdk : acs.drop m = ac :: acs.drop (m + 1) := by
            rw [List.drop_eq_getElem_cons hlt2]
            rw [List.getElem?_eq_getElem hlt2] at hac
            rw [Option.some.inj hac]
          have HN := Lib.hid (show playAll (trl0 n) acs = playAll (T.play ac) (acs.drop (m + 1)) from by rw [HG.out, hdk]; rfl)
          have HL2 := Lib.hid (HLT.out.next ac)
          obtain ⟨W3, hW3⟩ : ∃ x, wr.alloc (.cells #[.bool ac.push, .int .i64 ac.l, .int .i64 ac.by_] 90) = x := ⟨_, rfl⟩
          have hb3 : Below wr.heap.size wr W3 := by rw [← hW3]; exact mx_al _ _
          have HP3 := Lib.hid (HPT.out.below hb3)
          have HB3 := Lib.hid (HW2.out.trans (hb3.mono HW2.out.size))
          have HW3 := Lib.hid hW3
          clear hac hxs hdk hW3 hb3
          cases hpu : ac.push with
          | true =>
            have HPL := Lib.hid (show T.play ac = T.push from by unfold Trl.play; rw [if_pos hpu])
            have HPU := Lib.hid (put_push HP3.out HLT.out (by omega))
            rw [hpu] at d0 HW3
            clear hpu
            go_wp2_with fail
            rw [HW3.out]
            refine HPU.out.mono ?_
            rintro e w4 ⟨rfl, hp4, hb4⟩
            have HP4 := Lib.hid hp4
            have HB4 := Lib.hid (HB3.out.trans hb4)
            clear hp4 hb4 d0 d1 d2 HPU HW3
            go_wp2_with fail
            go_roundw
            case rel => exact ⟨m + 1, _, by omega, by go_num, HN, HL2, HB4, Lib.hid (by rw [HPL.out]; exact HP4.out)⟩
            case measure => simp [intOf]; omega
          | false =>
            have HPL := Lib.hid (show T.play ac = T.assigned ac.l ac.by_ from by unfold Trl.play; rw [if_neg (by rw [hpu]; decide)])
            have HPU := Lib.hid (put_assign ac.l ac.by_ HP3.out HLT.out (by omega))
            rw [hpu] at d0 HW3
            clear hpu
            go_wp2_with fail
            rw [HW3.out]
            refine HPU.out.mono ?_
            rintro e w4 ⟨rfl, hp4, hb4⟩
            have HP4 := Lib.hid hp4
            have HB4 := Lib.hid (HB3.out.trans hb4)
            clear hp4 hb4 d0 d1 d2 HPU HW3
            go_wp2_with fail
            go_roundw
            case rel => exact ⟨m + 1, _, by omega, by go_num, HN, HL2, HB4, Lib.hid (by rw [HPL.out]; exact HP4.out)⟩
            case measure => simp [intOf]; omega
        · obtain rfl : m = acs.length := by omega
          have hG := HG.out
          rw [List.drop_length, show playAll T [] = T from rfl] at hG
          have HGA := Lib.hid hG
          clear hG
          go_wp2_with fail
          go_ret3
          exact ⟨_, _, rfl, by rw [HFA.out, HGA.out]; exact HPT.out, HW2.out⟩
end Go.Proofs.YtoojmhjagipmdaaGreat
namespace Go.Proofs.YtoojmhjagipmdaaGreat
open Go.RowKit

variable {T : Trl} {its : List RIt}
def RTr.push (t : RTr) : RTr := ⟨t.vars, t.now + 1, t.items, t.starts ++ [(t.items.length : Int)]⟩
def RTr.assignErr (t : RTr) (l r : Int) : Int := if (litV l : Int) < 1 ∨ t.vars < litV l then 40 else if r < 0 ∨ 1073741824 < r then 2 else if rVl t.items l ≠ 0 then 41 else 0
def RTr.assigned (t : RTr) (l r : Int) : RTr := if t.assignErr l r = 0 then ⟨t.vars, t.now, t.items ++ [⟨l, r, t.now⟩], t.starts⟩ else t
def RTr.play (t : RTr) (a : ActP) : RTr := if a.push = true then t.push else t.assigned a.l a.by_
def rPlayAll : RTr → List ActP → RTr
 | t, [] => t
 | t, a :: acs => rPlayAll (t.play a) acs
structure TSim (T : Trl) (t : RTr) : Prop where
 sim : Sim T t.items
 vars : (T.vars.length : Int) = t.vars + 1
 now : T.now = t.now
theorem TSim.push {t : RTr} (h : TSim T t) : TSim T.push t.push := by
 have hn : T.push.now = T.now + 1 := by simp only [Trl.push, Trl.now, List.length_append, List.length_cons, List.length_nil]; omega
 refine ⟨{ h.sim with pos := fun x hx => ?_, now := by have := h.sim.now; omega, free := h.sim.free }, h.vars, by rw [hn, h.now]; rfl⟩
 have := h.sim.pos x hx
 omega
theorem TSim.assigned {t : RTr} (h : TSim T t) (l r : Int) : TSim (T.assigned l r) (t.assigned l r) := by
 unfold Trl.assigned RTr.assigned
 have hs := h.sim
 have herr : T.assignErr l r = 0 ↔ t.assignErr l r = 0 := by
  unfold Trl.assignErr RTr.assignErr
  have hv := h.vars
  cases ha : T.at (litV l : Nat) with
  | none =>
   unfold Trl.at at ha
   split at ha
   ·
    rw [List.getElem?_eq_none_iff] at ha
    omega
   ·
    rw [if_pos (by omega)]
    exact ⟨fun h => (by cases h), fun h => by cases h⟩
  | some s =>
   have hat := ha
   unfold Trl.at at ha
   split at ha
   ·
    rename_i hlt
    rw [if_neg (by omega)]
    simp only
    by_cases hr : r < 0 ∨ 1073741824 < r
    ·
     rw [if_pos hr, if_pos hr]
     exact ⟨fun h => (by cases h), fun h => by cases h⟩
    ·
     rw [if_neg hr, if_neg hr]
     have hval := hs.val l
     unfold Trl.val at hval
     rw [hat] at hval
     simp only at hval
     by_cases h0 : s.value = 0
     ·
      rw [h0, Int.zero_mul] at hval
      rw [if_neg (fun hh => hh h0), if_neg (fun hh => hh hval.symm)]
      exact ⟨fun _ => rfl, fun _ => rfl⟩
     ·
      have : rVl t.items l ≠ 0 := fun e => by
       rw [e] at hval
       rcases Int.mul_eq_zero.1 hval with e | e
       ·
        exact h0 e
       ·
        exact litS_ne l e
      rw [if_pos h0, if_pos this]
      exact ⟨fun h => (by cases h), fun h => by cases h⟩
   ·
    cases ha
 by_cases he : T.assignErr l r = 0
 ·
  rw [if_pos he, if_pos (herr.1 he)]
  unfold Trl.assignErr at he
  cases hat : T.at (litV l : Nat) with
  | none => rw [hat] at he; cases he
  | some s =>
   rw [hat] at he
   simp only at he
   have ha := hat
   unfold Trl.at at ha
   split at ha
   ·
    rename_i hlt
    rw [Int.toNat_natCast] at ha
    have hb : litB l = true := litB_of_litV (by omega)
    have hvl : litV l < T.vars.length := by omega
    have h0 : s.value = 0 := by
     split at he
     ·
      cases he
     ·
      split at he
      ·
       cases he
      ·
       rename_i _ h2
       omega
    have hfree : ∀ x ∈ t.items, litV x.lit ≠ litV l := fun x hx e => by
     obtain ⟨p, hp, e2⟩ := List.getElem_of_mem hx
     have hx2 := (hs.at_ p x (by rw [List.getElem?_eq_getElem hp, e2])).2
     rw [e, ha] at hx2
     have h3 := congrArg TV.value (Option.some.inj hx2)
     simp only at h3
     have := litS_ne x.lit
     omega
    have hol : T.order.length = t.items.length := by rw [hs.order, List.length_map]
    refine ⟨?_, ?_, h.now⟩
    ·
     refine { order := ?_, size := ?_, at_ := fun p x hp => ?_, free := fun v s hv hf => ?_, mono := fun p q x y hpq hp hq => ?_, pos := fun x hx => ?_, now := hs.now }
     ·
      simp only [Trl.assign, hs.order, List.map_append, List.map_cons, List.map_nil]
     ·
      simp only [Trl.assign, List.length_set]
      exact hs.size
     ·
      simp only [Trl.assign]
      rw [List.getElem?_append] at hp
      split at hp
      ·
       obtain ⟨g1, g2⟩ := hs.at_ p x hp
       refine ⟨g1, ?_⟩
       rw [List.getElem?_set_ne (fun e => hfree x (List.mem_of_getElem? hp) e.symm)]
       exact g2
      ·
       rename_i hpl
       have hp0 : p = t.items.length := by
        have := (List.getElem?_eq_some_iff.1 hp).1
        simp only [List.length_cons, List.length_nil] at this
        omega
       subst hp0
       rw [Nat.sub_self] at hp
       obtain rfl := Option.some.inj hp
       refine ⟨hb, ?_⟩
       simp only
       rw [List.getElem?_set_self hvl, hol, h.now]
     ·
      simp only [Trl.assign] at hv
      have hvne : litV l ≠ v := hf ⟨l, r, t.now⟩ (List.mem_append_right _ (List.mem_singleton.2 rfl))
      rw [List.getElem?_set_ne hvne] at hv
      exact hs.free v s hv (fun x hx => hf x (List.mem_append_left _ hx))
     ·
      have hnow := h.now
      rw [List.getElem?_append] at hp hq
      split at hq
      ·
       rw [if_pos (by omega)] at hp
       exact hs.mono p q x y hpq hp hq
      ·
       have hyl : y.level = t.now := by
        have := List.mem_of_getElem? hq
        rw [List.mem_singleton.1 this]
       split at hp
       ·
        have := (hs.pos x (List.mem_of_getElem? hp)).2
        omega
       ·
        have := List.mem_of_getElem? hp
        rw [List.mem_singleton.1 this, hyl]
        exact Int.le_refl _
     ·
      have hnow := h.now
      rcases List.mem_append.1 hx with hx | hx
      ·
       exact hs.pos x hx
      ·
       rw [List.mem_singleton.1 hx]
       have := hs.now
       have e : (T.assign l r).now = T.now := rfl
       simp only
       omega
    ·
     simp only [Trl.assign, List.length_set]
     exact h.vars
   ·
    cases ha
 ·
  rw [if_neg he, if_neg (fun e => he (herr.2 e))]
  exact h
theorem TSim.play {t : RTr} (h : TSim T t) (a : ActP) : TSim (T.play a) (t.play a) := by
 unfold Trl.play RTr.play
 split
 ·
  exact h.push
 ·
  exact h.assigned _ _
theorem TSim.playAll {t : RTr} (h : TSim T t) (acs : List ActP) : TSim (playAll T acs) (rPlayAll t acs) := by
 induction acs generalizing T t with
 | nil => exact h
 | cons a acs ih => exact ih (h.play a)
/-! ### chapter 15: what is covered -/
def rest15 (v : Int) (c : List Int) : List Int := c.filter fun l => decide ((litV l : Int) ≠ v)
def why15 (A : Arn) (T : Trl) (v : Int) : Option (Int × List Int) := if rightB A T v = true then (match A.get (T.reason v) with
  | some c => some (T.reason v, rest15 v c)
  | none => none) else none
def imp15 (A : Arn) (T : Trl) (c : List Int) : Nat → Int → Bool
  | 0, _ => false
  | n + 1, v => match why15 A T v with
    | none => false
    | some r => r.2.all fun l => c.contains l || imp15 A T c n (litV l)
/-- with enough fuel -/
def impl15 (A : Arn) (T : Trl) (c : List Int) (v : Int) : Bool := imp15 A T c (T.order.length + 1) v
def cov15 (A : Arn) (T : Trl) (c : List Int) (l : Int) : Bool := c.contains l || impl15 A T c (litV l)
/-- what the map of what is known holds, below a place -/
def Kq (A : Arn) (T : Trl) (its : List RIt) (c : List Int) (f : Int → Int) (p : Nat) : Prop := ∀ q x, q < p → its[q]? = some x → f (litV x.lit : Nat) = 0 ∨ f (litV x.lit : Nat) = if cov15 A T c (-x.lit) = true then 1 else 2
/-- how many are not known -/
def zer (its : List RIt) (f : Int → Int) : Nat := its.countP fun x => decide (f (litV x.lit : Nat) = 0)
/-- shortened -/
def shor15 (A : Arn) (T : Trl) (c : List Int) : List Int → List Int → List Int
  | out, [] => out
  | out, l :: r => shor15 A T c (if out.contains l = false ∧ (c.head? = some l ∨ impl15 A T c (litV l) = false) then out ++ [l] else out) r
def short15 (A : Arn) (T : Trl) (c : List Int) : List Int := shor15 A T c [] c
/-- what is wrong with a clause that has to fail -/
def failE (T : Trl) (c : List Int) : Nat := if clauseB c = false then 20 else if c.any (fun l => decide (0 ≤ T.val l)) = true then 140 else 0
end Go.Proofs.YtoojmhjagipmdaaGreat
namespace Go.Proofs.YtoojmhjagipmdaaGreat
open Go.RowKit

def litAt (its : List RIt) (q : Nat) : Int := ((its[q]?).map RIt.lit).getD 0
def rsAt (its : List RIt) (q : Nat) : Int := ((its[q]?).map RIt.reason).getD 0
def lvAt (its : List RIt) (q : Nat) : Int := ((its[q]?).map RIt.level).getD 0
/-- decisions are the first of their levels -/
def Dcs (its : List RIt) : Prop := ∀ (p : Nat) (x : RIt), its[p]? = some x → x.reason = 0 → 1 ≤ x.level ∧ ∀ (q : Nat) (y : RIt), q < p → its[q]? = some y → y.level < x.level
section
variable {A : Arn} {C : Int → Option (List Int)} {T : Trl} {its : List RIt}
theorem litAt_eq {q : Nat} {x : RIt} (h : its[q]? = some x) : litAt its q = x.lit := by unfold litAt; rw [h]; rfl
theorem rsAt_eq {q : Nat} {x : RIt} (h : its[q]? = some x) : rsAt its q = x.reason := by unfold rsAt; rw [h]; rfl
theorem lvAt_eq {q : Nat} {x : RIt} (h : its[q]? = some x) : lvAt its q = x.level := by unfold lvAt; rw [h]; rfl
theorem Sim.rsn (h : Sim T its) {p : Nat} {x : RIt} (hp : its[p]? = some x) : T.reason (litV x.lit : Nat) = x.reason := by
  unfold Trl.reason
  rw [h.why hp]
theorem Sim.plc (h : Sim T its) {p : Nat} {x : RIt} (hp : its[p]? = some x) : T.place (litV x.lit : Nat) = p := by
  unfold Trl.place
  rw [h.why hp]
theorem before_true {l at_ : Int} : ∀ {c : List Int}, (∀ y ∈ c, y ≠ l → T.val y < 0 ∧ T.place (litV y : Nat) < at_) → T.before l at_ c = true := by
  intro c
  induction c with
  | nil => exact fun _ => rfl
  | cons x c ih =>
    intro h
    unfold Trl.before
    rw [if_neg (fun hc => by
      have := h x List.mem_cons_self hc.1
      omega)]
    exact ih fun y hy => h y (List.mem_cons_of_mem _ hy)
theorem at_fal (h : Sim T its) {q : Nat} {x : RIt} (hq : its[q]? = some x) {y : Int} (e : x.lit = -y) : litB y = true ∧ litV x.lit = litV y ∧ T.val y < 0 ∧ T.place (litV y : Nat) = q ∧ T.level (litV y : Nat) = x.level := by
  have hb := (h.at_ q x hq).1
  have hy : litB y = true := by rw [e, litB_minus] at hb; exact hb
  have hv : litV x.lit = litV y := by rw [e, litV_negate]
  refine ⟨hy, hv, ?_, ?_, ?_⟩
  · have := (h.fal_iff hy).2 ⟨q, x, hq, e⟩
    unfold Trl.fal at this
    exact of_decide_eq_true this
  · rw [← hv]
    exact h.plc hq
  · rw [← hv]
    exact h.level hq
/-- a reason is right -/
theorem right_ok (h : Sim T its) (hr : Rsn C its) (hA : ∀ j, A.get j = C j) {p : Nat} {x : RIt} (hp : its[p]? = some x) (h0 : x.reason ≠ 0) : ∃ d, C x.reason = some d ∧ rightP A T x.lit = some (x.reason, d) ∧ x.lit ∈ d ∧ ∀ y ∈ d, y ≠ x.lit → HasAt its p (-y) := by
  obtain ⟨d, hd, hm, ho⟩ := hr p x hp h0
  refine ⟨d, hd, ?_, hm, ho⟩
  rw [rightP_some (h.rsn hp) ((hA _).trans hd), if_pos]
  refine ⟨by rw [h.why hp]; rfl, List.contains_iff_mem.2 hm, before_true fun y hy hne => ?_⟩
  obtain ⟨q, z, hq, hz, e⟩ := ho y hy hne
  obtain ⟨_, _, h1, h2, _⟩ := at_fal h hz e
  rw [h2, h.plc hp]
  exact ⟨h1, by omega⟩
/-- what meet does -/
theorem meet_ok (wo lv : Int) (c : List Int) : ∀ (ms : List Int) (n : Nat), ms.Nodup → ∃ new, (T.meetGo wo lv c ms n).1 = ms ++ new ∧ (T.meetGo wo lv c ms n).2 = n + (new.filter fun v => decide (T.level v = lv)).length ∧ (ms ++ new).Nodup ∧ (∀ v ∈ new, v ≠ wo ∧ ∃ y ∈ c, v = (litV y : Nat)) ∧ ∀ y ∈ c, ((litV y : Nat) : Int) ≠ wo → ((litV y : Nat) : Int) ∈ ms ++ new := by
  induction c with
  | nil =>
    intro ms n hn
    refine ⟨[], (List.append_nil _).symm, rfl, by rwa [List.append_nil], ?_, ?_⟩
    · intro v hv
      cases hv
    · intro y hy
      cases hy
  | cons l c ih =>
    intro ms n hn
    unfold Trl.meetGo
    by_cases hc : ((litV l : Nat) : Int) ≠ wo ∧ ms.contains ((litV l : Nat) : Int) = false
    · rw [if_pos hc]
      have hnm : ((litV l : Nat) : Int) ∉ ms := fun hm => by
        have := List.contains_iff_mem.2 hm
        rw [hc.2] at this
        cases this
      have hn2 : (ms ++ [((litV l : Nat) : Int)]).Nodup := by
        rw [List.nodup_append]
        exact ⟨hn, by simp, fun a ha b hb e => by rw [List.mem_singleton.1 hb] at e; exact hnm (e ▸ ha)⟩
      obtain ⟨new, h1, h2, h3, h4, h5⟩ := ih (ms ++ [((litV l : Nat) : Int)]) (if T.level (litV l : Nat) = lv then n + 1 else n + 0) hn2
      refine ⟨((litV l : Nat) : Int) :: new, by rw [h1]; simp, ?_, by simpa using h3, fun v hv => ?_, fun y hy hne => ?_⟩
      · rw [h2, List.filter_cons]
        by_cases hl : T.level (litV l : Nat) = lv
        · rw [if_pos hl, if_pos (decide_eq_true hl), List.length_cons]
          omega
        · rw [if_neg hl, if_neg (by simpa using hl)]
          omega
      · rcases List.mem_cons.1 hv with e | hv
        · exact ⟨e ▸ hc.1, l, List.mem_cons_self, e⟩
        · obtain ⟨a1, y, a2, a3⟩ := h4 v hv
          exact ⟨a1, y, List.mem_cons_of_mem _ a2, a3⟩
      · rcases List.mem_cons.1 hy with e | hy
        · rw [e]
          simp
        · have := h5 y hy hne
          simpa using this
    · rw [if_neg hc]
      obtain ⟨new, h1, h2, h3, h4, h5⟩ := ih ms n hn
      refine ⟨new, h1, h2, h3, fun v hv => ?_, fun y hy hne => ?_⟩
      · obtain ⟨a1, y, a2, a3⟩ := h4 v hv
        exact ⟨a1, y, List.mem_cons_of_mem _ a2, a3⟩
      · rcases List.mem_cons.1 hy with e | hy
        · rw [e] at hne ⊢
          have : ms.contains ((litV l : Nat) : Int) = true := by
            cases hx : ms.contains ((litV l : Nat) : Int) with
            | true => rfl
            | false => exact absurd ⟨hne, hx⟩ hc
          exact List.mem_append_left _ (List.contains_iff_mem.1 this)
        · exact h5 y hy hne
/-- the run, from the last place down to p: R has to go, K stays -/
structure CfO (C : Int → Option (List Int)) (T : Trl) (its : List RIt) (c : List Int) (lv : Int) (p : Nat) (s : CSt) (R K : List Nat) : Prop where
  rdn : R.Pairwise (· > ·)
  kdn : K.Pairwise (· > ·)
  rge : ∀ q ∈ R, p ≤ q
  kge : ∀ q ∈ K, p ≤ q ∧ q < its.length
  ms : ∀ v ∈ s.ms, ∃ (q : Nat) (x : RIt), its[q]? = some x ∧ v = (litV x.lit : Nat)
  nd : s.ms.Nodup
  all : ∀ (q : Nat) (x : RIt), p ≤ q → its[q]? = some x → (((litV x.lit : Nat) : Int) ∈ s.ms ↔ q ∈ R ∨ q ∈ K)
  dis : ∀ q ∈ R, q ∉ K
  src : ∀ (q : Nat) (x : RIt), its[q]? = some x → ((litV x.lit : Nat) : Int) ∈ s.ms → -x.lit ∈ c ∨ ∃ (r : Nat) (z : RIt) (d : List Int), q < r ∧ r ∈ R ∧ its[r]? = some z ∧ C z.reason = some d ∧ -x.lit ∈ d
  cov : ∀ y ∈ c, ((litV y : Nat) : Int) ∈ s.ms
  covR : ∀ r ∈ R, ∃ (z : RIt) (d : List Int), its[r]? = some z ∧ C z.reason = some d ∧ z.lit ∈ d ∧ z.reason ≠ 0 ∧ ∀ y ∈ d, y ≠ z.lit → HasAt its r (-y) ∧ ((litV y : Nat) : Int) ∈ s.ms
  hints : s.hints = R.map (rsAt its)
  lits : s.lits = K.map fun q => -(litAt its q)
  met : ∀ q ∈ K, ((litV (litAt its q) : Nat) : Int) ∈ s.met
  lvl : ∀ (q : Nat) (x : RIt), its[q]? = some x → ((litV x.lit : Nat) : Int) ∈ s.ms → x.level ≤ lv
  klv : ∀ q ∈ K, 0 < lvAt its q
  op : lv ≠ 0 → s.op = ((s.ms.filter fun v => decide (T.level v = lv)).length : Int) - ((R.filter fun q => decide (lvAt its q = lv)).length : Int)
  op1 : lv ≠ 0 → 1 ≤ s.op
  kop : lv ≠ 0 → (∃ q ∈ K, lvAt its q = lv) → s.op = 1
theorem exists_notin {α : Type} [DecidableEq α] : ∀ {a b : List α}, a.Nodup → b.length < a.length → ∃ x ∈ a, x ∉ b := by
  intro a b hn hl
  refine Classical.byContradiction fun hc => ?_
  have hs : a ⊆ b := fun x hx => Classical.byContradiction fun hb => hc ⟨x, hx, hb⟩
  have := List.Nodup.length_le_of_subset hn hs
  omega
/-- one more literal of the greatest level than what went is met -/
theorem CfO.more {c : List Int} {lv : Int} {p : Nat} {s : CSt} {R K : List Nat} (o : CfO C T its c lv p s R K) (hs : Sim T its) (h0 : lv ≠ 0) (vs : List Int) (hl : (vs.length : Int) < s.op) : ∃ (q : Nat) (x : RIt), its[q]? = some x ∧ ((litV x.lit : Nat) : Int) ∈ s.ms ∧ x.level = lv ∧ q ∉ R ∧ ((litV x.lit : Nat) : Int) ∉ vs := by
  have ho := o.op h0
  obtain ⟨v, hv, hn⟩ := exists_notin (a := s.ms.filter fun v => decide (T.level v = lv)) (b := ((R.filter fun q => decide (lvAt its q = lv)).map fun q => ((litV (litAt its q) : Nat) : Int)) ++ vs) (o.nd.filter _) (by rw [List.length_append, List.length_map]; omega)
  rw [List.mem_filter] at hv
  obtain ⟨q, x, hq, e⟩ := o.ms v hv.1
  have hlv := of_decide_eq_true hv.2
  rw [e, hs.level hq] at hlv
  rw [List.mem_append] at hn
  refine ⟨q, x, hq, e ▸ hv.1, hlv, fun hr => hn (.inl ?_), fun h => hn (.inr (e ▸ h))⟩
  rw [List.mem_map]
  refine ⟨q, List.mem_filter.2 ⟨hr, decide_eq_true ((lvAt_eq hq).trans hlv)⟩, ?_⟩
  rw [litAt_eq hq, e]
end
end Go.Proofs.YtoojmhjagipmdaaGreat
