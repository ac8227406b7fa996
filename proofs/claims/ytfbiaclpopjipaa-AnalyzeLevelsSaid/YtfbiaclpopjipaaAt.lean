/- AnalyzeLevels: the walk. -/
import Derived.Test.YtfbiaclpopjipaaAs
import Derived.Test.YtfbiaclpopjipaaPl
import Derived.Test.YtfbiaclpopjipaaWc
import Derived.Test.YtfbiaclpopjipaaEw
import Derived.Test.YtfbiaclpopjipaaMs
namespace Go.Proofs.Ytfbiaclpopjipaa
open Go.RowKit

theorem put_value {n : Nat} {w : World} {a b : Nat} {A : Arn} {T : Trl} (l : Int) (h : PutAt n w a b A T) :
    Calls Try.prog 9 #[.pointer (some ⟨b, 0, none⟩), .int .i64 l] w fun e w' => e = .returned (.int .i64 (T.val l)) ∧ Below w.heap.size w w' := by
  obtain ⟨_, OA, OT, h1, h2, _⟩ := h
  exact tr_value b T l w h2
theorem put_lev {n : Nat} {w : World} {a b : Nat} {A : Arn} {T : Trl} (v : Int) (h : PutAt n w a b A T) :
    Calls Try.prog 11 #[.pointer (some ⟨b, 0, none⟩), .int .i64 v] w fun e w' => e = .returned (.tuple #[.int .i64 (T.level v), .bool (T.why v).isSome]) ∧ Below w.heap.size w w' := by
  obtain ⟨_, OA, OT, h1, h2, _⟩ := h
  exact tr_level b T v w h2
theorem put_now {n : Nat} {w : World} {a b : Nat} {A : Arn} {T : Trl} (h : PutAt n w a b A T) :
    Calls Try.prog 15 #[.pointer (some ⟨b, 0, none⟩)] w fun e w' => e = .returned (.int .i64 ((T.starts.length : Int) - 1)) ∧ w = w' := by
  obtain ⟨_, OA, OT, h1, h2, _⟩ := h
  exact tr_now b T w h2
theorem put_levels {O : Nat → Prop} {n : Nat} {w : World} {a b : Nat} {A : Arn} {T : Trl} (cv : Value) (c : List Int) (h : PutAt n w a b A T) (hc : IntsIn O w cv c) (hr : clauseB c = true) :
    Calls Try.prog 13 #[.pointer (some ⟨b, 0, none⟩), cv] w fun e w' => e = .returned (.tuple #[.int .i64 (dn (T.lvls c) : Nat), .int .i64 0]) ∧ Below w.heap.size w w' := by
  obtain ⟨_, OA, OT, h1, h2, _⟩ := h
  exact an_levels b T cv c w h2 hc hr
/-- an arena and a trail in blocks of one's own, but not in X -/
def PutX (X : Nat → Prop) (n : Nat) (w : World) (a b : Nat) (A : Arn) (T : Trl) : Prop :=
  n ≤ w.heap.size ∧ (∀ g, X g → g < w.heap.size) ∧ ∃ OA OT : Nat → Prop, ArAt OA w a A ∧ TrAt OT w b T ∧ (∀ g, OA g → n ≤ g ∧ ¬ X g) ∧ (∀ g, OT g → n ≤ g ∧ ¬ X g) ∧ ∀ g, OA g → ¬ OT g
theorem PutX.at {X : Nat → Prop} {n : Nat} {w : World} {a b : Nat} {A : Arn} {T : Trl} (h : PutX X n w a b A T) : PutAt n w a b A T := by
  obtain ⟨h0, _, OA, OT, h1, h2, h3, h4, h5⟩ := h
  exact ⟨h0, OA, OT, h1, h2, fun g hg => (h3 g hg).1, fun g hg => (h4 g hg).1, h5⟩
theorem PutX.below {X : Nat → Prop} {n : Nat} {w w' : World} {a b : Nat} {A : Arn} {T : Trl} (h : PutX X n w a b A T) (hb : Below w.heap.size w w') : PutX X n w' a b A T := by
  obtain ⟨h0, hX, OA, OT, h1, h2, h3⟩ := h
  exact ⟨Nat.le_trans h0 hb.size, fun g hg => Nat.lt_of_lt_of_le (hX g hg) hb.size, OA, OT, h1.below hb, h2.below hb, h3⟩
theorem PutX.of {n : Nat} {w w' : World} {a b : Nat} {A : Arn} {T : Trl} (h : PutAt n w a b A T) (hb : Below w.heap.size w w') : PutX (fun g => w.heap.size ≤ g ∧ g < w'.heap.size) n w' a b A T := by
  obtain ⟨h0, OA, OT, h1, h2, h3, h4, h5⟩ := h
  refine ⟨Nat.le_trans h0 hb.size, fun g hg => hg.2, OA, OT, h1.below hb, h2.below hb, fun g hg => ⟨h3 g hg, fun hx => ?_⟩, fun g hg => ⟨h4 g hg, fun hx => ?_⟩, h5⟩
  · have := h1.own g hg
    omega
  · have := h2.own g hg
    omega
theorem PutX.trail {X : Nat → Prop} {n : Nat} {w w' : World} {a b : Nat} {A : Arn} {T' : Trl} {OA OT : Nat → Prop} (h0 : n ≤ w.heap.size) (hX : ∀ g, X g → g < w.heap.size) (h2 : ArAt OA w a A) (h3 : ∀ g, OA g → n ≤ g ∧ ¬ X g) (h4 : ∀ g, OT g → n ≤ g ∧ ¬ X g) (h5 : ∀ g, OA g → ¬ OT g) (k : TrNext OT w w' b T') : PutX X n w' a b A T' ∧ Kept (fun g => n ≤ g ∧ ¬ X g) w w' := by
  obtain ⟨hT, hk⟩ := k
  have ho := h2.own
  refine ⟨⟨Nat.le_trans h0 hk.size, fun g hg => Nat.lt_of_lt_of_le (hX g hg) hk.size, OA, _, h2.kept hk h5, hT, h3, fun g hg => ?_, fun g hg ht => ?_⟩, hk.mono (fun g _ hg => h4 g hg)⟩
  · rcases hg with hg | hg
    · exact h4 g hg
    · exact ⟨by omega, fun hx => by have := hX g hx; omega⟩
  · rcases ht with ht | ht
    · exact h5 g hg ht
    · have := ho g hg
      omega
theorem putx_push {X : Nat → Prop} {n : Nat} {w : World} {a b : Nat} {A : Arn} {T : Trl} {k : Nat} (h : PutX X n w a b A T) (hl : T.Low k) (hk : k < 1000) :
    Calls Try.prog 8 #[.pointer (some ⟨b, 0, none⟩)] w fun e w' => e = .returned (.int .i64 0) ∧ PutX X n w' a b A T.push ∧ Kept (fun g => n ≤ g ∧ ¬ X g) w w' := by
  obtain ⟨h0, hX, OA, OT, h1, h2, h3, h4, h5⟩ := h
  have := hl.starts
  refine (tr_push b T w h2 (by omega)).mono ?_
  rintro e w' ⟨rfl, hn⟩
  exact ⟨rfl, PutX.trail h0 hX h1 h3 h4 h5 hn⟩
theorem putx_assign {X : Nat → Prop} {n : Nat} {w : World} {a b : Nat} {A : Arn} {T : Trl} {k : Nat} (l r : Int) (h : PutX X n w a b A T) (hl : T.Low k) (hk : k < 1000) :
    Calls Try.prog 10 #[.pointer (some ⟨b, 0, none⟩), .int .i64 l, .int .i64 r] w fun e w' => e = .returned (.int .i64 (T.assignErr l r : Nat)) ∧ PutX X n w' a b A (T.assigned l r) ∧ Kept (fun g => n ≤ g ∧ ¬ X g) w w' := by
  obtain ⟨h0, hX, OA, OT, h1, h2, h3, h4, h5⟩ := h
  have := hl.order
  refine (tr_assign b T l r w h2 (by omega)).mono ?_
  rintro e w' ⟨rfl, hn⟩
  exact ⟨rfl, PutX.trail h0 hX h1 h3 h4 h5 hn⟩
theorem PutX.keptX {X O : Nat → Prop} {n : Nat} {w w' : World} {a b : Nat} {A : Arn} {T : Trl} (h : PutX X n w a b A T) (k : Kept O w w') (hO : ∀ g, O g → X g) : PutX X n w' a b A T := by
  obtain ⟨h0, hX, OA, OT, h1, h2, h3, h4, h5⟩ := h
  exact ⟨Nat.le_trans h0 k.size, fun g hg => Nat.lt_of_lt_of_le (hX g hg) k.size, OA, OT, h1.kept k (fun g hg ho => (h3 g hg).2 (hO g ho)), h2.kept k (fun g hg ho => (h4 g hg).2 (hO g ho)), h3, h4, h5⟩
theorem SetM.len {w : World} {b n : Nat} {S : Int → Bool} {z : Nat} (h : SetM w b n S z) (ty : TypeId) : (Builtin.len_ #[31] ty #[.map (some b)]).run Try.prog w = .ok (.int .i64 z) w := by
  obtain ⟨D, ho, _, hz, _⟩ := h
  rw [ho.len Try.underlying31 ty, ← hz]
theorem clauseB_lit {a : List Int} (ha : clauseB a = true) {x : Int} (hx : x ∈ a) : x ≠ 0 ∧ -1048576 ≤ x ∧ x ≤ 1048576 := by
  unfold clauseB at ha
  rw [Bool.and_eq_true, decide_eq_true_eq] at ha
  exact (litB_iff x).1 (List.all_eq_true.1 ha.2 x hx)
theorem clauseB_neg {a : List Int} (ha : clauseB a = true) : clauseB (a.map fun x => -x) = true := by
  unfold clauseB at *
  rw [Bool.and_eq_true, decide_eq_true_eq] at *
  refine ⟨by rw [List.length_map]; exact ha.1, List.all_eq_true.2 (fun x hx => ?_)⟩
  obtain ⟨y, hy, rfl⟩ := List.mem_map.1 hx
  have := (litB_iff y).1 (List.all_eq_true.1 ha.2 y hy)
  exact (litB_iff _).2 ⟨by omega, by omega, by omega⟩
theorem clauseB_append {a b : List Int} (ha : clauseB a = true) (hb : clauseB b = true) (h : a.length + b.length ≤ 4096) : clauseB (a ++ b) = true := by
  unfold clauseB at *
  rw [Bool.and_eq_true, decide_eq_true_eq] at *
  exact ⟨by rw [List.length_append]; exact h, by rw [List.all_append, ha.2, hb.2]; rfl⟩
theorem lvls_append (T : Trl) (a b : List Int) : T.lvls (a ++ b) = T.lvls a ++ T.lvls b := by
  induction a with
  | nil => rfl
  | cons l a ih =>
    show (if 0 < T.level (litV l : Nat) then T.level (litV l : Nat) :: T.lvls (a ++ b) else T.lvls (a ++ b)) = (if 0 < T.level (litV l : Nat) then T.level (litV l : Nat) :: T.lvls a else T.lvls a) ++ T.lvls b
    rw [ih]
    split <;> rfl
theorem litV_neg (l : Int) : litV (-l) = litV l := by
  have h : litB (-l) = litB l := by
    unfold litB
    exact decide_eq_decide.2 (by omega)
  unfold litV
  rw [h, Int.natAbs_neg]
theorem lvls_neg (T : Trl) (a : List Int) : T.lvls (a.map fun x => -x) = T.lvls a := by
  induction a with
  | nil => rfl
  | cons l a ih =>
    rw [List.map_cons]
    unfold Trl.lvls
    rw [litV_neg, ih]
/-- a trail of six variables, whose levels are at most the present one -/
structure Trl.Six (T : Trl) : Prop where
  vars : T.vars.length = 7
  lev : ∀ s ∈ T.vars, s.level ≤ T.now
theorem six0 : (trl0 6).Six := ⟨rfl, fun s hs => by rw [List.eq_of_mem_replicate hs]; decide⟩
theorem Trl.Six.push {T : Trl} (h : T.Six) : T.push.Six := ⟨h.vars, fun s hs => by
  have := h.lev s hs
  unfold Trl.now Trl.push at *
  simp only [List.length_append, List.length_cons, List.length_nil]
  omega⟩
theorem Trl.Six.assigned {T : Trl} (h : T.Six) (l r : Int) : (T.assigned l r).Six := by
  unfold Trl.assigned
  split
  · refine ⟨by simp only [Trl.assign, List.length_set]; exact h.vars, fun s hs => ?_⟩
    rcases List.mem_or_eq_of_mem_set hs with hs | rfl
    · exact h.lev s hs
    · exact Int.le_refl _
  · exact h
theorem Trl.Six.level {T : Trl} (h : T.Six) (v : Int) (hn : 0 ≤ T.now) : T.level v ≤ T.now := by
  unfold Trl.level
  cases hw : T.why v with
  | none => exact hn
  | some s =>
    unfold Trl.why at hw
    cases ha : T.at v with
    | none => rw [ha] at hw; cases hw
    | some s' =>
      rw [ha] at hw
      simp only at hw
      split at hw
      · cases hw
      · cases hw
        exact h.lev s (List.mem_of_getElem? (Trl.at_get ha))
theorem lvls_rng {T : Trl} (h : T.Six) (hn : 0 ≤ T.now) (a : List Int) : ∀ x ∈ T.lvls a, 1 ≤ x ∧ x ≤ T.now := by
  induction a with
  | nil => intro x hx; cases hx
  | cons l a ih =>
    intro x hx
    unfold Trl.lvls at hx
    split at hx
    · rcases List.mem_cons.1 hx with rfl | hx
      · exact ⟨by omega, h.level _ hn⟩
      · exact ih x hx
    · exact ih x hx
theorem assign_ok {T : Trl} (h : T.Six) (y : Int) (h1 : -6 ≤ y ∧ y ≤ 6) (h0 : y ≠ 0) (hv : T.val y = 0) : T.assignErr y 0 = 0 := by
  have hb : litB y = true := (litB_iff y).2 ⟨h0, by omega, by omega⟩
  have hl : litV y = y.natAbs := by unfold litV; rw [if_pos hb]
  unfold Trl.assignErr
  unfold Trl.val at hv
  have hat : T.at (litV y) = T.vars[(litV y : Int).toNat]? := by
    unfold Trl.at
    rw [if_pos (by rw [h.vars, hl]; omega)]
  obtain ⟨s, hs⟩ := getElem_of (l := T.vars) (i := (litV y : Int).toNat) (by rw [h.vars, hl]; omega)
  rw [hat, hs] at hv ⊢
  simp only at hv ⊢
  rw [if_neg (by omega)]
  have : s.value = 0 := by
    rcases litS_abs y with e | e
    · rw [e] at hv; omega
    · rw [e] at hv; omega
  rw [if_neg (fun h => h this)]
theorem row_one (W : World) (x : Int) (hw : (Lit.int .i8 x).wf = true) : RowAt .i8 (W.alloc (.cells #[.int .i8 x] 32)) (.slice (some ⟨W.heap.size, 0, none⟩) 1 1) [x] := by
  refine ⟨_, 1, rfl, Nat.le_refl _, by decide, (fun h => by cases h), fun n hn => by rw [List.mem_singleton.1 hn]; exact hw, fun i y hi => ⟨W.heap.size, 0, rfl, by simp, ?_⟩⟩
  rw [cell_new, Nat.zero_add]
  match i, hi with
  | 0, hi => obtain rfl := Option.some.inj hi; rfl
theorem low_up {T : Trl} {k : Nat} (h : T.Low k) : T.Low (k + 1) := ⟨Nat.le_succ_of_le h.order, Nat.le_succ_of_le h.starts⟩
theorem low_push {T : Trl} {k : Nat} (h : T.Low k) (l r : Int) : (T.push.assigned l r).Low (k + 1) := by
  obtain ⟨h1, h2⟩ := h
  unfold Trl.assigned
  split
  · exact ⟨by simp only [Trl.assign, Trl.push, List.length_append, List.length_cons, List.length_nil]; omega, by simp only [Trl.assign, Trl.push, List.length_append, List.length_cons, List.length_nil]; omega⟩
  · exact ⟨by simp only [Trl.push]; omega, by simp only [Trl.push, List.length_append, List.length_cons, List.length_nil]; omega⟩
set_option maxRecDepth 100000 in
set_option maxHeartbeats 4000000 in
theorem levels_long (pv qv lv : Value) (ps qs ls : List Int) (w : World) (hp : RowAt .i8 w pv ps) (hq : RowAt .i8 w qv qs) (hl : RowAt .i8 w lv ls) (h6 : (6 : Int) < (ls.length : Int)) :
    Calls Try.prog 3 #[pv, qv, lv] w fun e w' => e = .returned (.bool true) ∧ Below w.heap.size w w' := by
  have HPR := Lib.hid hp
  have HQR := Lib.hid hq
  have HLR := Lib.hid hl
  obtain ⟨Al, cl, rfl, hcl, hmx, _, _, _⟩ := hl
  unfold maxLen at hmx
  clear hp hq
  go_enter Try.func3, Try.ntmps3
  go_wp2_with fail
  refine (awake_any w).mono ?_
  rintro e w1 ⟨rfl, hb1⟩
  have HB1 := Lib.hid hb1
  clear hb1
  go_wp2_with fail
  refine (put_any 6 _ _ [] [] w1 (by decide) (ClsAt.nil _) (ActsIn.nil _) (by decide) (by decide) (by decide)).mono ?_
  rintro e w2 ⟨a, b, rfl, hpa, hb2⟩
  have HPA := Lib.hid (show PutAt w1.heap.size w2 a b arn0 (trl0 6) from hpa)
  have HB2 := Lib.hid (HB1.out.trans (hb2.mono HB1.out.size))
  have hz12 := hb2.size
  clear hpa hb2
  go_wp2_with fail
  refine (made_any pv ps w2 (HPR.out.below HB2.out)).mono ?_
  rintro e w3 ⟨av, rfl, hoa, hb3⟩
  have HB3 := Lib.hid (HB2.out.trans (hb3.mono HB2.out.size))
  have HB23 := Lib.hid hb3
  have HOA := Lib.hid hoa
  clear hoa hb3
  go_wp2_with fail
  refine (made_any qv qs w3 (HQR.out.below HB3.out)).mono ?_
  rintro e w4 ⟨bv, rfl, hob, hb4⟩
  have HB4' := Lib.hid (HB3.out.trans (hb4.mono HB3.out.size))
  have HB34 := Lib.hid hb4
  have HOB := Lib.hid hob
  obtain ⟨Aa, ca, rfl, _⟩ := mx_slice HOA.out
  obtain ⟨Ab, cb, rfl, _⟩ := mx_slice HOB.out
  clear hob hb4
  have hmm := @run_makeMap Try.prog
  obtain ⟨wm, hwm⟩ : ∃ x, w4.alloc (.map #[] 0) = x := ⟨_, rfl⟩
  have hbm : Below w4.heap.size w4 wm := by rw [← hwm]; exact mx_al _ _
  have hSM : SetM wm w4.heap.size 0 (fun _ => false) 0 := by rw [← hwm]; exact SetM.made w4
  have HSM := Lib.hid hSM
  have HBM := Lib.hid hbm
  have HWM := Lib.hid hwm
  have hb2m : Below w2.heap.size w2 wm := (HB23.out.trans (HB34.out.mono HB23.out.size)).trans (hbm.mono (Nat.le_trans HB23.out.size HB34.out.size))
  have HPM := Lib.hid (PutX.of HPA.out hb2m)
  have HB2M := Lib.hid hb2m
  have HB0 := Lib.hid (HB4'.out.trans (hbm.mono HB4'.out.size))
  clear hwm hbm hSM hb2m
  go_wp2_with fail
  rw [HWM.out]
  clear hmm
  go_loopw [51] (fun i wr => ∃ (k : Nat) (T : Trl), k ≤ 6 ∧ i = .int .i64 k ∧ Hid (T.Low k) ∧ Hid T.Six ∧ Hid (Kept (fun g => w1.heap.size ≤ g ∧ ¬ (w2.heap.size ≤ g ∧ g < wm.heap.size)) wm wr) ∧ Hid (PutX (fun g => w2.heap.size ≤ g ∧ g < wm.heap.size) w1.heap.size wr a b arn0 T)) (fun i _ => 6 - (intOf i).toNat)
  case atStart => exact ⟨0, trl0 6, Nat.zero_le _, rfl, Lib.hid ⟨Nat.zero_le _, Nat.le_refl _⟩, Lib.hid six0, Lib.hid (Kept.refl _ _), HPM⟩
  case round =>
    obtain ⟨k, T, hk, rfl, HL, HSX, HW, HP⟩ := hrel
    have HBR := Lib.hid (below_kept HB0.out HW.out (fun g hg => Nat.le_trans HB1.out.size hg.1) HB0.out.size)
    by_cases hlt : k < 6
    · have hkl : k < ls.length := by omega
      obtain ⟨x, hx⟩ := getElem_of hkl
      obtain ⟨A', c', hAc, _, _, _, hwf, hxs⟩ := HLR.out.below HBR.out
      simp only [Value.slice.injEq, true_and] at hAc
      obtain ⟨rfl, rfl⟩ := hAc
      obtain ⟨g, o, rfl, hg, d0⟩ := hxs k x hx
      obtain ⟨wa, hwa⟩ : ∃ z, wr.alloc (.cells #[.int .i8 x] 32) = z := ⟨_, rfl⟩
      have hba : Below wr.heap.size wr wa := by rw [← hwa]; exact mx_al _ _
      have hro : RowAt .i8 wa (.slice (some ⟨wr.heap.size, 0, none⟩) 1 1) [x] := by rw [← hwa]; exact row_one wr x (hwf x (List.mem_of_getElem? hx))
      have HRO := Lib.hid hro
      have HBA := Lib.hid hba
      have HWA := Lib.hid hwa
      clear hx hwf hxs hro hba hwa
      go_wp2_with fail
      rw [HWA.out]
      refine (made_any _ [x] wa HRO.out).mono ?_
      rintro e w4 ⟨v2, rfl, hown, hb⟩
      rw [show madeL [x] = [madeLit x] from rfl] at hown
      obtain ⟨g2, c2, cs2, rfl, _, _, hg2, _, _⟩ := mx_some hown (Nat.succ_pos 0)
      have d2 : w4.cell? ⟨g2, 0, none⟩ = some (.int .i64 (madeLit x)) := mx_at hown rfl
      have hb4 : Below wr.heap.size wr w4 := HBA.out.trans (hb.mono HBA.out.size)
      have HP4 := Lib.hid (HP.out.below hb4)
      have HB4 := Lib.hid (HW.out.trans (Kept.of_below (O := fun _ => False) hb4) (fun _ _ h => h.elim))
      rw [show ([madeLit x] : List Int).length = 1 from rfl]
      clear hown hb hb4 d0 HRO HWA HP
      by_cases hod : k % 2 = 1
      · have q1 : ((k : Int) % 2 == 1) = true := by rw [beq_iff_eq]; omega
        have q2 : ((k : Int).tmod 2 == 1) = true := by rw [Int.tmod_eq_emod_of_nonneg (by omega)]; exact q1
        have q3 : (((k % 2 : Nat) : Int) == 1) = true := by rw [beq_iff_eq]; omega
        clear hod
        go_wp2_with fail
        refine (putx_push HP4.out HL.out (by omega)).mono ?_
        rintro e w5 ⟨rfl, hp, hb⟩
        have HP5 := Lib.hid hp
        have HB5 := Lib.hid (HB4.out.trans hb (fun _ _ h => h))
        have HL5 := Lib.hid (show T.push.Low (k + 1) from HL.out.next ⟨true, 0, 0⟩)
        have HS5 := Lib.hid HSX.out.push
        clear hp hb
        by_cases hz : T.push.val (madeLit x) = 0
        · have qz : (T.push.val (madeLit x) == 0) = true := by rw [beq_iff_eq]; exact hz
          have HZV := Lib.hid hz
          clear hz
          go_wp2_with fail
          refine (put_value (madeLit x) HP5.out.at).mono ?_
          rintro e w6 ⟨rfl, hb⟩
          have HP6 := Lib.hid (HP5.out.below hb)
          have HB6 := Lib.hid (HB5.out.trans (Kept.of_below (O := fun _ => False) hb) (fun _ _ h => h.elim))
          clear hb
          have hAS := putx_assign (madeLit x) 0 HP6.out HL5.out (by omega)
          rw [assign_ok HS5.out (madeLit x) (madeLit_rng x).1 (madeLit_rng x).2 HZV.out] at hAS
          have HAS := Lib.hid hAS
          clear hAS
          go_wp2_with fail
          refine HAS.out.mono ?_
          rintro e w7 ⟨rfl, hp, hb⟩
          have HP7 := Lib.hid hp
          have HB7 := Lib.hid (HB6.out.trans hb (fun _ _ h => h))
          have HL7 := Lib.hid (show (T.push.assigned (madeLit x) 0).Low (k + 1) from low_push HL.out (madeLit x) 0)
          have HS7 := Lib.hid (HS5.out.assigned (madeLit x) 0)
          clear hp hb HAS
          go_wp2_with fail
          go_roundw
          case rel => exact ⟨k + 1, _, by omega, by go_num, HL7, HS7, HB7, HP7⟩
          case measure => simp [intOf]; omega
        · have qz : (T.push.val (madeLit x) == 0) = false := by rw [beq_eq_false_iff_ne]; exact hz
          have HZV := Lib.hid hz
          clear hz
          go_wp2_with fail
          refine (put_value (madeLit x) HP5.out.at).mono ?_
          rintro e w6 ⟨rfl, hb⟩
          have HP6 := Lib.hid (HP5.out.below hb)
          have HB6 := Lib.hid (HB5.out.trans (Kept.of_below (O := fun _ => False) hb) (fun _ _ h => h.elim))
          clear hb
          go_wp2_with fail
          go_roundw
          case rel => exact ⟨k + 1, T.push, by omega, by go_num, HL5, HS5, HB6, HP6⟩
          case measure => simp [intOf]; omega
      · have q1 : ((k : Int) % 2 == 1) = false := by rw [beq_eq_false_iff_ne]; omega
        have q2 : ((k : Int).tmod 2 == 1) = false := by rw [Int.tmod_eq_emod_of_nonneg (by omega)]; exact q1
        have q3 : (((k % 2 : Nat) : Int) == 1) = false := by rw [beq_eq_false_iff_ne]; omega
        clear hod
        by_cases hz : T.val (madeLit x) = 0
        · have qz : (T.val (madeLit x) == 0) = true := by rw [beq_iff_eq]; exact hz
          have HZV := Lib.hid hz
          clear hz
          go_wp2_with fail
          refine (put_value (madeLit x) HP4.out.at).mono ?_
          rintro e w6 ⟨rfl, hb⟩
          have HP6 := Lib.hid (HP4.out.below hb)
          have HB6 := Lib.hid (HB4.out.trans (Kept.of_below (O := fun _ => False) hb) (fun _ _ h => h.elim))
          clear hb
          have hAS := putx_assign (madeLit x) 0 HP6.out HL.out (by omega)
          rw [assign_ok HSX.out (madeLit x) (madeLit_rng x).1 (madeLit_rng x).2 HZV.out] at hAS
          have HAS := Lib.hid hAS
          clear hAS
          go_wp2_with fail
          refine HAS.out.mono ?_
          rintro e w7 ⟨rfl, hp, hb⟩
          have HP7 := Lib.hid hp
          have HB7 := Lib.hid (HB6.out.trans hb (fun _ _ h => h))
          have HL7 := Lib.hid (show (T.assigned (madeLit x) 0).Low (k + 1) from HL.out.next ⟨false, madeLit x, 0⟩)
          have HS7 := Lib.hid (HSX.out.assigned (madeLit x) 0)
          clear hp hb HAS
          go_wp2_with fail
          go_roundw
          case rel => exact ⟨k + 1, _, by omega, by go_num, HL7, HS7, HB7, HP7⟩
          case measure => simp [intOf]; omega
        · have qz : (T.val (madeLit x) == 0) = false := by rw [beq_eq_false_iff_ne]; exact hz
          have HZV := Lib.hid hz
          clear hz
          go_wp2_with fail
          refine (put_value (madeLit x) HP4.out.at).mono ?_
          rintro e w6 ⟨rfl, hb⟩
          have HP6 := Lib.hid (HP4.out.below hb)
          have HB6 := Lib.hid (HB4.out.trans (Kept.of_below (O := fun _ => False) hb) (fun _ _ h => h.elim))
          clear hb
          go_wp2_with fail
          go_roundw
          case rel => exact ⟨k + 1, T, by omega, by go_num, Lib.hid (low_up HL.out), HSX, HB6, HP6⟩
          case measure => simp [intOf]; omega
    · have hkM : decide ((k : Int) < 6) = false := by simp; omega
      have hkN : decide (k < 6) = false := by simp; omega
      obtain ⟨wo, rfl⟩ : ∃ wo : World, wo = wr := ⟨_, rfl⟩
      have hnow : 0 ≤ T.now := by
        have h := HP.out.at
        obtain ⟨_, _, OT, _, h2, _⟩ := h
        have := h2.1.starts
        unfold Trl.now
        omega
      have hnow7 : T.now ≤ 1000 := by
        have := HL.out.starts
        unfold Trl.now
        omega
      have HOA2 := Lib.hid (own_kept (own_below (own_below HOA.out HB34.out) HBM.out) HW.out (fun g hg ho => ho.2 ⟨(own_lt HOA.out g hg).1, Nat.lt_of_lt_of_le (own_lt HOA.out g hg).2 (Nat.le_trans HB34.out.size HBM.out.size)⟩))
      have HOB2 := Lib.hid (own_kept (own_below HOB.out HBM.out) HW.out (fun g hg ho => ho.2 ⟨Nat.le_trans HB23.out.size (own_lt HOB.out g hg).1, Nat.lt_of_lt_of_le (own_lt HOB.out g hg).2 HBM.out.size⟩))
      have hmlt := HSM.out.lt
      have hmge : w2.heap.size ≤ w4.heap.size := Nat.le_trans HB23.out.size HB34.out.size
      have HSMo := Lib.hid (HSM.out.kept HW.out (fun ho => ho.2 ⟨hmge, hmlt⟩))
      have hal : (madeL ps).length ≤ 6 := by simp [madeL]; omega
      have hbl : (madeL qs).length ≤ 6 := by simp [madeL]; omega
      go_wp2_with fail
      go_loopw [84] (fun i wr => ∃ (m cnt : Nat) (seen : List Int), m ≤ (madeL ps).length ∧ cnt ≤ m ∧ i = .int .i64 m ∧ Hid (seen.Nodup ∧ ∀ x, x ∈ seen ↔ x ∈ T.lvls ((madeL ps).take m)) ∧ Hid (Kept (fun g => g = w4.heap.size) wo wr) ∧ Hid (SetM wr w4.heap.size cnt (fun x => seen.contains x) seen.length)) (fun i _ => (madeL ps).length - (intOf i).toNat)
      case atStart => exact ⟨0, 0, [], Nat.zero_le _, Nat.le_refl _, rfl, Lib.hid ⟨List.nodup_nil, fun x => by rw [List.take_zero]; exact Iff.rfl⟩, Lib.hid (Kept.refl _ _), Lib.hid (HSMo.out.congr (fun x => rfl) rfl)⟩
      case round =>
        obtain ⟨m, cnt, seen, hm, hcm, rfl, HSE, HKM, HSM2⟩ := hrel
        have HP5 := Lib.hid (HP.out.keptX HKM.out (fun g e => by rw [e]; exact ⟨hmge, hmlt⟩))
        have HBK := Lib.hid (below_kept HBR.out HKM.out (fun g e => by rw [e]; exact Nat.le_trans (Nat.le_trans HB1.out.size hz12) hmge) HBR.out.size)
        have HOA3 := Lib.hid (own_kept HOA2.out HKM.out (fun g hg e => by
          obtain ⟨cc, hcc⟩ := own_type HOA2.out g hg
          exact cf_mne HSMo.out.map hcc e.symm))
        have HOB3 := Lib.hid (own_kept HOB2.out HKM.out (fun g hg e => by
          obtain ⟨cc, hcc⟩ := own_type HOB2.out g hg
          exact cf_mne HSMo.out.map hcc e.symm))
        by_cases hlt3 : m < (madeL ps).length
        · obtain ⟨l, hl⟩ := getElem_of hlt3
          obtain ⟨g2, c2, cs2, hv2, _, _, _, _, _⟩ := mx_some HOA3.out (by omega)
          simp only [Value.slice.injEq, true_and] at hv2
          obtain ⟨rfl, rfl⟩ := hv2
          have d0 : wr.cell? ⟨g2, m, none⟩ = some (.int .i64 l) := mx_at HOA3.out (by rw [List.getElem?_map, hl]; rfl)
          have HTK := Lib.hid (show (madeL ps).take (m + 1) = (madeL ps).take m ++ [l] from by rw [List.take_add_one, hl]; rfl)
          obtain ⟨y, hy⟩ : ∃ y, T.level (litV l : Nat) = y := ⟨_, rfl⟩
          obtain ⟨th, hth⟩ : ∃ t, (T.why (litV l : Nat)).isSome = t := ⟨_, rfl⟩
          have hLV := put_lev (litV l : Nat) HP5.out.at
          rw [hy, hth] at hLV
          have HLV := Lib.hid hLV
          have HYV := Lib.hid hy
          clear hl hLV
          by_cases hy0 : 0 < y
          · have hth1 : th = true := by
              rw [← hth]
              cases hw : T.why (litV l : Nat) with
              | none =>
                have := Trl.level_none hw
                omega
              | some s => rfl
            clear hth hy
            subst hth1
            cases hsc : seen.contains y with
            | true =>
              have q0 : decide (0 < y) = true := by simpa using hy0
              obtain ⟨hye1, hye2⟩ := lvls_rng HSX.out hnow [l] y (by unfold Trl.lvls; rw [HYV.out, if_pos hy0]; exact List.mem_singleton.2 rfl)
              have hwfy : (Lit.int .i64 y).wf = true := wf64 (by omega) (by omega)
              have HWY := Lib.hid hwfy
              have HSC := Lib.hid hsc
              have HY0 := Lib.hid hy0
              clear hwfy hsc hy0
              go_wp2_with fail
              refine (lit_var l wr).mono ?_
              rintro e w6 ⟨rfl, rfl⟩
              go_wp2_with fail
              refine HLV.out.mono ?_
              rintro e w6 ⟨rfl, hb⟩
              have HS6 := Lib.hid (HSM2.out.below hb)
              have HK6 := Lib.hid (HKM.out.trans (Kept.of_below (O := fun _ => False) hb) (fun _ _ h => h.elim))
              clear hb HLV d0
              go_wp2_with (at_mapUpdate; refine wpList_add HS6.out rfl _ _ _ rfl rfl (by unfold maxLen; omega) y rfl rfl HWY.out ?_; intro w7 hs7 hg7)
              have HS7 := Lib.hid hs7
              have HK7 := Lib.hid (HK6.out.trans (Kept.grown hg7) (fun g _ h => Option.some.inj h))
              clear hs7 hg7
              go_roundw
              case rel => exact ⟨m + 1, cnt + 1, seen, by omega, by omega, by go_num, Lib.hid ⟨HSE.out.1, fun x => by
                rw [HTK.out, lvls_append, List.mem_append, show T.lvls [l] = [y] from by unfold Trl.lvls; rw [HYV.out, if_pos HY0.out]; rfl, HSE.out.2 x]
                refine ⟨.inl, fun h => h.elim id (fun h => ?_)⟩
                rw [List.mem_singleton.1 h]
                exact (HSE.out.2 y).1 (List.contains_iff_mem.1 HSC.out)⟩, HK7, Lib.hid (HS7.out.congr (fun x => by
                by_cases h : x = y
                · rw [h, HSC.out]; simp
                · have : (x == y) = false := by simpa using h
                  rw [this, Bool.false_or]) (by rw [HSC.out]; rfl))⟩
              case measure => simp [intOf]; omega
            | false =>
              have q0 : decide (0 < y) = true := by simpa using hy0
              obtain ⟨hye1, hye2⟩ := lvls_rng HSX.out hnow [l] y (by unfold Trl.lvls; rw [HYV.out, if_pos hy0]; exact List.mem_singleton.2 rfl)
              have hwfy : (Lit.int .i64 y).wf = true := wf64 (by omega) (by omega)
              have HWY := Lib.hid hwfy
              have HSC := Lib.hid hsc
              have HY0 := Lib.hid hy0
              clear hwfy hsc hy0
              go_wp2_with fail
              refine (lit_var l wr).mono ?_
              rintro e w6 ⟨rfl, rfl⟩
              go_wp2_with fail
              refine HLV.out.mono ?_
              rintro e w6 ⟨rfl, hb⟩
              have HS6 := Lib.hid (HSM2.out.below hb)
              have HK6 := Lib.hid (HKM.out.trans (Kept.of_below (O := fun _ => False) hb) (fun _ _ h => h.elim))
              clear hb HLV d0
              go_wp2_with (at_mapUpdate; refine wpList_add HS6.out rfl _ _ _ rfl rfl (by unfold maxLen; omega) y rfl rfl HWY.out ?_; intro w7 hs7 hg7)
              have HS7 := Lib.hid hs7
              have HK7 := Lib.hid (HK6.out.trans (Kept.grown hg7) (fun g _ h => Option.some.inj h))
              clear hs7 hg7
              go_roundw
              case rel => exact ⟨m + 1, cnt + 1, seen ++ [y], by omega, by omega, by go_num, Lib.hid ⟨List.nodup_append.2 ⟨HSE.out.1, (by simp), fun x hx z hz e => by
                rw [List.mem_singleton.1 hz] at e
                have h2 := HSC.out
                rw [← e, List.contains_iff_mem.2 hx] at h2
                cases h2⟩, fun x => by
                rw [HTK.out, lvls_append, List.mem_append, List.mem_append, show T.lvls [l] = [y] from by unfold Trl.lvls; rw [HYV.out, if_pos HY0.out]; rfl, HSE.out.2 x]⟩, HK7, Lib.hid (HS7.out.congr (fun x => by
                by_cases h : x = y
                · rw [h]; simp
                · have : (x == y) = false := by simpa using h
                  rw [this, Bool.false_or]; simp [h]) (by rw [HSC.out]; simp))⟩
              case measure => simp [intOf]; omega
          · clear hth hy
            cases th
            · have q0 : decide (0 < y) = false := by simpa using hy0
              have HY0 := Lib.hid hy0
              clear hy0
              go_wp2_with fail
              refine (lit_var l wr).mono ?_
              rintro e w6 ⟨rfl, rfl⟩
              go_wp2_with fail
              refine HLV.out.mono ?_
              rintro e w6 ⟨rfl, hb⟩
              have HS6 := Lib.hid (HSM2.out.below hb)
              have HK6 := Lib.hid (HKM.out.trans (Kept.of_below (O := fun _ => False) hb) (fun _ _ h => h.elim))
              clear hb HLV d0
              go_wp2_with fail
              go_roundw
              case rel => exact ⟨m + 1, cnt, seen, by omega, by omega, by go_num, Lib.hid ⟨HSE.out.1, fun x => by
                rw [HTK.out, lvls_append, List.mem_append, show T.lvls [l] = [] from by unfold Trl.lvls; rw [HYV.out, if_neg (Int.not_lt.2 HY0.out)]; rfl, HSE.out.2 x]
                exact ⟨.inl, fun h => h.elim id (fun h => by cases h)⟩⟩, HK6, HS6⟩
              case measure => simp [intOf]; omega
            · have q0 : decide (0 < y) = false := by simpa using hy0
              have HY0 := Lib.hid hy0
              clear hy0
              go_wp2_with fail
              refine (lit_var l wr).mono ?_
              rintro e w6 ⟨rfl, rfl⟩
              go_wp2_with fail
              refine HLV.out.mono ?_
              rintro e w6 ⟨rfl, hb⟩
              have HS6 := Lib.hid (HSM2.out.below hb)
              have HK6 := Lib.hid (HKM.out.trans (Kept.of_below (O := fun _ => False) hb) (fun _ _ h => h.elim))
              clear hb HLV d0
              go_wp2_with fail
              go_roundw
              case rel => exact ⟨m + 1, cnt, seen, by omega, by omega, by go_num, Lib.hid ⟨HSE.out.1, fun x => by
                rw [HTK.out, lvls_append, List.mem_append, show T.lvls [l] = [] from by unfold Trl.lvls; rw [HYV.out, if_neg (Int.not_lt.2 HY0.out)]; rfl, HSE.out.2 x]
                exact ⟨.inl, fun h => h.elim id (fun h => by cases h)⟩⟩, HK6, HS6⟩
              case measure => simp [intOf]; omega
        · have hm1 : decide (m < (madeL ps).length) = false := by simp; omega
          have hm2 : decide ((m : Int) < ((madeL ps).length : Int)) = false := by simp; omega
          obtain ⟨n1, hn1⟩ : ∃ n, dn (T.lvls (madeL ps)) = n := ⟨_, rfl⟩
          obtain ⟨n2, hn2⟩ : ∃ n, dn (T.lvls (madeL qs)) = n := ⟨_, rfl⟩
          obtain ⟨n3, hn3⟩ : ∃ n, dn (T.lvls (madeL ps ++ madeL qs)) = n := ⟨_, rfl⟩
          have hse : seen.length = n1 := by
            have h := HSE.out.2
            rw [List.take_of_length_le (by omega)] at h
            rw [← hn1]
            exact (dn_seen HSE.out.1 h).symm
          have h31 : n3 ≤ n1 + n2 := by
            rw [← hn1, ← hn2, ← hn3, lvls_append]
            exact dn_append _ _
          have h1le : n1 ≤ n3 := by
            rw [← hn1, ← hn3, lvls_append]
            exact dn_le (fun x hx => List.mem_append_left _ hx)
          have h2le : n2 ≤ n3 := by
            rw [← hn2, ← hn3, lvls_append]
            exact dn_le (fun x hx => List.mem_append_right _ hx)
          have hnle : (n1 : Int) ≤ (T.starts.length : Int) - 1 := by
            have := dn_bound (xs := T.lvls (madeL ps)) (n := T.now.toNat) (fun x hx => by
              have := lvls_rng HSX.out hnow _ x hx
              omega)
            rw [hn1] at this
            unfold Trl.now at this hnow
            omega
          have HN1 := Lib.hid hn1
          have HN2 := Lib.hid hn2
          have HN3 := Lib.hid hn3
          have HN4 := Lib.hid (show dn (T.lvls ((madeL ps).map fun x => -x)) = n1 from by rw [lvls_neg]; exact hn1)
          rw [hse] at HSM2
          have n1s : n1 ≤ 6 := by
            rw [← hn1]
            refine Nat.le_trans ?_ hal
            exact Nat.le_trans (dn_len _) (Trl.lvls_le T (madeL ps))
          have n2s : n2 ≤ 6 := by
            rw [← hn2]
            refine Nat.le_trans ?_ hbl
            exact Nat.le_trans (dn_len _) (Trl.lvls_le T (madeL qs))
          clear hn1 hn2 hn3 hse
          have HB5 := Lib.hid (Below.refl wr.heap.size wr)
          have hLS := put_levels (.slice Aa (madeL ps).length ca) (madeL ps) HP5.out.at (IntsIn.of_own HOA3.out) (madeL_ok ps)
          rw [HN1.out] at hLS
          have HLS := Lib.hid hLS
          clear hLS
          go_wp2_with fail
          refine HLS.out.mono ?_
          rintro e x1 ⟨rfl, hb⟩
          have HPx1 := Lib.hid (HP5.out.below hb)
          have HBx1 := Lib.hid (HB5.out.trans (hb.mono HB5.out.size))
          clear hb HLS
          have hLS := put_levels (.slice Ab (madeL qs).length cb) (madeL qs) HPx1.out.at (IntsIn.of_own (own_below HOB3.out HBx1.out)) (madeL_ok qs)
          rw [HN2.out] at hLS
          have HLS := Lib.hid hLS
          clear hLS
          go_wp2_with fail
          refine HLS.out.mono ?_
          rintro e x2 ⟨rfl, hb⟩
          have HPx2 := Lib.hid (HPx1.out.below hb)
          have HBx2 := Lib.hid (HBx1.out.trans (hb.mono HBx1.out.size))
          clear hb HLS
          obtain ⟨xc, hxc⟩ : ∃ z, x2.alloc (.cells #[(.slice Aa (madeL ps).length ca), (.slice Ab (madeL qs).length cb)] 29) = z := ⟨_, rfl⟩
          have hCls : ClsAt xc (.slice (some ⟨x2.heap.size, 0, none⟩) 2 2) [madeL ps, madeL qs] := by
            rw [← hxc]
            exact cls_new x2 [(.slice Aa (madeL ps).length ca), (.slice Ab (madeL qs).length cb)] [madeL ps, madeL qs] _ (fun i xs hi => by
              match i, hi with
              | 0, hi =>
                obtain rfl := Option.some.inj hi
                exact ⟨_, rfl, (IntsIn.of_own (own_below HOA3.out HBx2.out)).mono (fun g hg => (own_lt (own_below HOA3.out HBx2.out) g hg.2).2)⟩
              | 1, hi =>
                obtain rfl := Option.some.inj hi
                exact ⟨_, rfl, (IntsIn.of_own (own_below HOB3.out HBx2.out)).mono (fun g hg => (own_lt (own_below HOB3.out HBx2.out) g hg.2).2)⟩
              | n + 2, hi => exact absurd hi (by simp))
          have hbxc : Below x2.heap.size x2 xc := by rw [← hxc]; exact mx_al _ _
          have hfl : [madeL ps, madeL qs].flatten = madeL ps ++ madeL qs := by simp
          have hcc := concat_c _ [madeL ps, madeL qs] xc hCls (by rw [hfl, List.length_append]; omega) (by simp)
          obtain ⟨ab, hab⟩ : ∃ x, madeL ps ++ madeL qs = x := ⟨_, rfl⟩
          have HNab := Lib.hid (show dn (T.lvls ab) = n3 from by rw [← hab]; exact HN3.out)
          have HCab := Lib.hid (show clauseB ab = true from by rw [← hab]; exact clauseB_append (madeL_ok ps) (madeL_ok qs) (by omega))
          rw [hfl, hab] at hcc
          clear hab
          have HCC := Lib.hid hcc
          have HXC := Lib.hid hxc
          have HBXC := Lib.hid hbxc
          clear hCls hbxc hfl hcc hxc
          go_wp2_with fail
          rw [HXC.out]
          refine HCC.out.mono ?_
          rintro e x3 ⟨vc, rfl, hown, hb⟩
          have HPx3 := Lib.hid ((HPx2.out.below HBXC.out).below hb)
          have HBx3 := Lib.hid (HBx2.out.trans ((HBXC.out.trans (hb.mono HBXC.out.size)).mono HBx2.out.size))
          have HOC := Lib.hid hown
          clear hown hb HCC
          obtain ⟨Av3, cv3, rfl, _⟩ := mx_slice HOC.out
          have hLS := put_levels (.slice Av3 ab.length cv3) ab HPx3.out.at (IntsIn.of_own HOC.out) HCab.out
          rw [HNab.out] at hLS
          have HLS := Lib.hid hLS
          clear hLS
          go_wp2_with fail
          refine HLS.out.mono ?_
          rintro e x4 ⟨rfl, hb⟩
          have HPx4 := Lib.hid (HPx3.out.below hb)
          have HBx4 := Lib.hid (HBx3.out.trans (hb.mono HBx3.out.size))
          clear hb HLS
          go_wp2_with fail
          have HSM4 := Lib.hid (HSM2.out.below HBx4.out)
          have HOA4 := Lib.hid (own_below HOA3.out HBx4.out)
          have HBL4 := Lib.hid (HBK.out.trans (HBx4.out.mono HBK.out.size))
          obtain ⟨xo, rfl⟩ : ∃ xo : World, xo = x4 := ⟨_, rfl⟩
          obtain ⟨i0, hi0, iz0, iz1, iz2⟩ := info_parts tinfo_lit
          have I0 := Lib.hid hi0
          have I1 := Lib.hid iz0
          have I2 := Lib.hid iz1
          have I3 := Lib.hid iz2
          clear hi0 iz0 iz1 iz2
          go_loopw [26, 126] (fun tv i wr2 => ∃ (q : Nat) (v : Value), q ≤ (madeL ps).length ∧ i = .int .i64 q ∧ v = tv ∧ Hid (Below xo.heap.size xo wr2) ∧ Hid (wr2.ownsRow xo.heap.size 33 1 v q ((((madeL ps).map fun x => -x).take q).map (Value.int .i64)))) (fun _ i _ => (madeL ps).length - (intOf i).toNat)
          case atStart => exact ⟨0, .slice none 0 0, Nat.zero_le _, rfl, rfl, Lib.hid (Below.refl _ _), Lib.hid (World.ownsRow_nil _ _ _ _)⟩
          case round =>
            obtain ⟨q, v, hq, rfl, rfl, HQ, HO⟩ := hrel
            by_cases hlt4 : q < (madeL ps).length
            · obtain ⟨l, hl⟩ := getElem_of hlt4
              have HOA5 := own_below HOA4.out HQ.out
              obtain ⟨g2, c2, cs2, hv2, _, _, _, _, _⟩ := mx_some HOA5 (by omega)
              simp only [Value.slice.injEq, true_and] at hv2
              obtain ⟨rfl, rfl⟩ := hv2
              have d0 : wr.cell? ⟨g2, q, none⟩ = some (.int .i64 l) := mx_at HOA5 (by rw [List.getElem?_map, hl]; rfl)
              have hlr := clauseB_lit (madeL_ok ps) (List.mem_of_getElem? hl)
              have hl1 := hlr.2.1
              have hl2 := hlr.2.2
              have HTK := Lib.hid (show (((madeL ps).map fun x => -x).take (q + 1)) = (((madeL ps).map fun x => -x).take q) ++ [-l] from by rw [List.take_add_one, List.getElem?_map, hl]; rfl)
              have hwn : IntKind.i64.wrap (-l) = -l := IntWalk.i64_in _ (by omega)
              clear hl hlr HOA5
              go_wp2_with (at_builtin; refine wpList_append_any rfl _ _ 29 rfl xo.heap.size 33 i0 (.int .i64 0) 1 8 Try.underlying29 I0.out I1.out I2.out I3.out rfl (by decide) _ q _ rfl (own_below HO.out (mx_al wr (.cells #[.int .i64 (-l)] 33))) (.slice (some ⟨wr.heap.size, 0, none⟩) 1 1) 1 [.int .i64 (-l)] rfl (mx_src wr 33 [.int .i64 (-l)]) rfl (by simp [Value.oneCell']) (by unfold maxLen; omega) (by omega) (by have := HQ.out.size; simp; omega) ?_; intro v' w9 hown hgrow _)
              have HO9 := Lib.hid hown
              have HQ9 := Lib.hid (below_kept (HQ.out.trans ((mx_al wr (.cells #[.int .i64 (-l)] 33)).mono HQ.out.size)) (Kept.grown hgrow) (fun j hj => (own_lt HO.out j hj.symm).1) (by have := HQ.out.size; simp; omega))
              clear hown hgrow
              go_roundw
              case rel => exact ⟨q + 1, v', by omega, by go_num, rfl, HQ9, Lib.hid (by rw [HTK.out, List.map_append]; exact HO9.out)⟩
              case measure => simp [intOf]; omega
            · have hq1 : decide (q < (madeL ps).length) = false := by simp; omega
              have hq2 : decide ((q : Int) < ((madeL ps).length : Int)) = false := by simp; omega
              obtain ⟨tn, htn⟩ : ∃ x, ((madeL ps).map fun x => -x) = x := ⟨_, rfl⟩
              have htl : tn.length = (madeL ps).length := by rw [← htn, List.length_map]
              have HNt := Lib.hid (show dn (T.lvls tn) = n1 from by rw [← htn]; exact HN4.out)
              have HCt := Lib.hid (show clauseB tn = true from by rw [← htn]; exact clauseB_neg (madeL_ok ps))
              have ho := HO.out
              rw [htn, List.take_of_length_le (by omega), show q = tn.length from by omega] at ho
              have HOT := Lib.hid ho
              have htq := Nat.le_of_eq (show q = tn.length from by omega)
              have hqt := Nat.le_of_eq (show tn.length = q from by omega)
              have HPQ := Lib.hid (HPx4.out.below HQ.out)
              have HSM5 := Lib.hid (HSM4.out.below HQ.out)
              have HB6 := Lib.hid (Below.refl wr.heap.size wr)
              clear htn ho HO htl
              obtain ⟨At, ct, rfl, _⟩ := mx_slice HOT.out
              have hLS := put_levels (.slice At tn.length ct) tn HPQ.out.at (IntsIn.of_own HOT.out) HCt.out
              rw [HNt.out] at hLS
              have HLS := Lib.hid hLS
              clear hLS
              have e1 : ((n1 : Int) == (n1 : Int)) = true := by simp
              have e2 : decide ((n3 : Int) ≤ (n1 : Int) + (n2 : Int)) = true := by simp; omega
              have e3 : decide (max (n1 : Int) (n2 : Int) ≤ (n3 : Int)) = true := by simp; omega
              have e4 : decide ((n1 : Int) ≤ (T.starts.length : Int) - 1) = true := by simp; omega
              go_wp2_with fail
              refine HLS.out.mono ?_
              rintro e x6 ⟨rfl, hb⟩
              have HP6 := Lib.hid (HPQ.out.below hb)
              have HS6 := Lib.hid (HSM5.out.below hb)
              have HBE := Lib.hid (HBL4.out.trans ((HQ.out.trans (hb.mono HQ.out.size)).mono HBL4.out.size))
              have hlen := HS6.out.len 3
              clear hb HLS
              go_wp2_with fail
              refine (put_now HP6.out.at).mono ?_
              rintro e w' ⟨rfl, rfl⟩
              go_wp2_with fail
              go_ret
              exact ⟨rfl, HBE.out⟩
set_option maxRecDepth 100000 in
set_option maxHeartbeats 4000000 in
theorem levels_short (pv qv lv : Value) (ps qs ls : List Int) (w : World) (hp : RowAt .i8 w pv ps) (hq : RowAt .i8 w qv qs) (hl : RowAt .i8 w lv ls) (h6 : (ls.length : Int) ≤ 6) :
    Calls Try.prog 3 #[pv, qv, lv] w fun e w' => e = .returned (.bool true) ∧ Below w.heap.size w w' := by
  have HPR := Lib.hid hp
  have HQR := Lib.hid hq
  have HLR := Lib.hid hl
  obtain ⟨Al, cl, rfl, hcl, hmx, _, _, _⟩ := hl
  unfold maxLen at hmx
  clear hp hq
  go_enter Try.func3, Try.ntmps3
  go_wp2_with fail
  refine (awake_any w).mono ?_
  rintro e w1 ⟨rfl, hb1⟩
  have HB1 := Lib.hid hb1
  clear hb1
  go_wp2_with fail
  refine (put_any 6 _ _ [] [] w1 (by decide) (ClsAt.nil _) (ActsIn.nil _) (by decide) (by decide) (by decide)).mono ?_
  rintro e w2 ⟨a, b, rfl, hpa, hb2⟩
  have HPA := Lib.hid (show PutAt w1.heap.size w2 a b arn0 (trl0 6) from hpa)
  have HB2 := Lib.hid (HB1.out.trans (hb2.mono HB1.out.size))
  have hz12 := hb2.size
  clear hpa hb2
  go_wp2_with fail
  refine (made_any pv ps w2 (HPR.out.below HB2.out)).mono ?_
  rintro e w3 ⟨av, rfl, hoa, hb3⟩
  have HB3 := Lib.hid (HB2.out.trans (hb3.mono HB2.out.size))
  have HB23 := Lib.hid hb3
  have HOA := Lib.hid hoa
  clear hoa hb3
  go_wp2_with fail
  refine (made_any qv qs w3 (HQR.out.below HB3.out)).mono ?_
  rintro e w4 ⟨bv, rfl, hob, hb4⟩
  have HB4' := Lib.hid (HB3.out.trans (hb4.mono HB3.out.size))
  have HB34 := Lib.hid hb4
  have HOB := Lib.hid hob
  obtain ⟨Aa, ca, rfl, _⟩ := mx_slice HOA.out
  obtain ⟨Ab, cb, rfl, _⟩ := mx_slice HOB.out
  clear hob hb4
  have hmm := @run_makeMap Try.prog
  obtain ⟨wm, hwm⟩ : ∃ x, w4.alloc (.map #[] 0) = x := ⟨_, rfl⟩
  have hbm : Below w4.heap.size w4 wm := by rw [← hwm]; exact mx_al _ _
  have hSM : SetM wm w4.heap.size 0 (fun _ => false) 0 := by rw [← hwm]; exact SetM.made w4
  have HSM := Lib.hid hSM
  have HBM := Lib.hid hbm
  have HWM := Lib.hid hwm
  have hb2m : Below w2.heap.size w2 wm := (HB23.out.trans (HB34.out.mono HB23.out.size)).trans (hbm.mono (Nat.le_trans HB23.out.size HB34.out.size))
  have HPM := Lib.hid (PutX.of HPA.out hb2m)
  have HB2M := Lib.hid hb2m
  have HB0 := Lib.hid (HB4'.out.trans (hbm.mono HB4'.out.size))
  clear hwm hbm hSM hb2m
  go_wp2_with fail
  rw [HWM.out]
  clear hmm
  go_loopw [51] (fun i wr => ∃ (k : Nat) (T : Trl), k ≤ ls.length ∧ i = .int .i64 k ∧ Hid (T.Low k) ∧ Hid T.Six ∧ Hid (Kept (fun g => w1.heap.size ≤ g ∧ ¬ (w2.heap.size ≤ g ∧ g < wm.heap.size)) wm wr) ∧ Hid (PutX (fun g => w2.heap.size ≤ g ∧ g < wm.heap.size) w1.heap.size wr a b arn0 T)) (fun i _ => ls.length - (intOf i).toNat)
  case atStart => exact ⟨0, trl0 6, Nat.zero_le _, rfl, Lib.hid ⟨Nat.zero_le _, Nat.le_refl _⟩, Lib.hid six0, Lib.hid (Kept.refl _ _), HPM⟩
  case round =>
    obtain ⟨k, T, hk, rfl, HL, HSX, HW, HP⟩ := hrel
    have HBR := Lib.hid (below_kept HB0.out HW.out (fun g hg => Nat.le_trans HB1.out.size hg.1) HB0.out.size)
    by_cases hlt : k < ls.length
    · have hkl : k < ls.length := by omega
      obtain ⟨x, hx⟩ := getElem_of hkl
      obtain ⟨A', c', hAc, _, _, _, hwf, hxs⟩ := HLR.out.below HBR.out
      simp only [Value.slice.injEq, true_and] at hAc
      obtain ⟨rfl, rfl⟩ := hAc
      obtain ⟨g, o, rfl, hg, d0⟩ := hxs k x hx
      obtain ⟨wa, hwa⟩ : ∃ z, wr.alloc (.cells #[.int .i8 x] 32) = z := ⟨_, rfl⟩
      have hba : Below wr.heap.size wr wa := by rw [← hwa]; exact mx_al _ _
      have hro : RowAt .i8 wa (.slice (some ⟨wr.heap.size, 0, none⟩) 1 1) [x] := by rw [← hwa]; exact row_one wr x (hwf x (List.mem_of_getElem? hx))
      have HRO := Lib.hid hro
      have HBA := Lib.hid hba
      have HWA := Lib.hid hwa
      clear hx hwf hxs hro hba hwa
      go_wp2_with fail
      rw [HWA.out]
      refine (made_any _ [x] wa HRO.out).mono ?_
      rintro e w4 ⟨v2, rfl, hown, hb⟩
      rw [show madeL [x] = [madeLit x] from rfl] at hown
      obtain ⟨g2, c2, cs2, rfl, _, _, hg2, _, _⟩ := mx_some hown (Nat.succ_pos 0)
      have d2 : w4.cell? ⟨g2, 0, none⟩ = some (.int .i64 (madeLit x)) := mx_at hown rfl
      have hb4 : Below wr.heap.size wr w4 := HBA.out.trans (hb.mono HBA.out.size)
      have HP4 := Lib.hid (HP.out.below hb4)
      have HB4 := Lib.hid (HW.out.trans (Kept.of_below (O := fun _ => False) hb4) (fun _ _ h => h.elim))
      rw [show ([madeLit x] : List Int).length = 1 from rfl]
      clear hown hb hb4 d0 HRO HWA HP
      by_cases hod : k % 2 = 1
      · have q1 : ((k : Int) % 2 == 1) = true := by rw [beq_iff_eq]; omega
        have q2 : ((k : Int).tmod 2 == 1) = true := by rw [Int.tmod_eq_emod_of_nonneg (by omega)]; exact q1
        have q3 : (((k % 2 : Nat) : Int) == 1) = true := by rw [beq_iff_eq]; omega
        clear hod
        go_wp2_with fail
        refine (putx_push HP4.out HL.out (by omega)).mono ?_
        rintro e w5 ⟨rfl, hp, hb⟩
        have HP5 := Lib.hid hp
        have HB5 := Lib.hid (HB4.out.trans hb (fun _ _ h => h))
        have HL5 := Lib.hid (show T.push.Low (k + 1) from HL.out.next ⟨true, 0, 0⟩)
        have HS5 := Lib.hid HSX.out.push
        clear hp hb
        by_cases hz : T.push.val (madeLit x) = 0
        · have qz : (T.push.val (madeLit x) == 0) = true := by rw [beq_iff_eq]; exact hz
          have HZV := Lib.hid hz
          clear hz
          go_wp2_with fail
          refine (put_value (madeLit x) HP5.out.at).mono ?_
          rintro e w6 ⟨rfl, hb⟩
          have HP6 := Lib.hid (HP5.out.below hb)
          have HB6 := Lib.hid (HB5.out.trans (Kept.of_below (O := fun _ => False) hb) (fun _ _ h => h.elim))
          clear hb
          have hAS := putx_assign (madeLit x) 0 HP6.out HL5.out (by omega)
          rw [assign_ok HS5.out (madeLit x) (madeLit_rng x).1 (madeLit_rng x).2 HZV.out] at hAS
          have HAS := Lib.hid hAS
          clear hAS
          go_wp2_with fail
          refine HAS.out.mono ?_
          rintro e w7 ⟨rfl, hp, hb⟩
          have HP7 := Lib.hid hp
          have HB7 := Lib.hid (HB6.out.trans hb (fun _ _ h => h))
          have HL7 := Lib.hid (show (T.push.assigned (madeLit x) 0).Low (k + 1) from low_push HL.out (madeLit x) 0)
          have HS7 := Lib.hid (HS5.out.assigned (madeLit x) 0)
          clear hp hb HAS
          go_wp2_with fail
          go_roundw
          case rel => exact ⟨k + 1, _, by omega, by go_num, HL7, HS7, HB7, HP7⟩
          case measure => simp [intOf]; omega
        · have qz : (T.push.val (madeLit x) == 0) = false := by rw [beq_eq_false_iff_ne]; exact hz
          have HZV := Lib.hid hz
          clear hz
          go_wp2_with fail
          refine (put_value (madeLit x) HP5.out.at).mono ?_
          rintro e w6 ⟨rfl, hb⟩
          have HP6 := Lib.hid (HP5.out.below hb)
          have HB6 := Lib.hid (HB5.out.trans (Kept.of_below (O := fun _ => False) hb) (fun _ _ h => h.elim))
          clear hb
          go_wp2_with fail
          go_roundw
          case rel => exact ⟨k + 1, T.push, by omega, by go_num, HL5, HS5, HB6, HP6⟩
          case measure => simp [intOf]; omega
      · have q1 : ((k : Int) % 2 == 1) = false := by rw [beq_eq_false_iff_ne]; omega
        have q2 : ((k : Int).tmod 2 == 1) = false := by rw [Int.tmod_eq_emod_of_nonneg (by omega)]; exact q1
        have q3 : (((k % 2 : Nat) : Int) == 1) = false := by rw [beq_eq_false_iff_ne]; omega
        clear hod
        by_cases hz : T.val (madeLit x) = 0
        · have qz : (T.val (madeLit x) == 0) = true := by rw [beq_iff_eq]; exact hz
          have HZV := Lib.hid hz
          clear hz
          go_wp2_with fail
          refine (put_value (madeLit x) HP4.out.at).mono ?_
          rintro e w6 ⟨rfl, hb⟩
          have HP6 := Lib.hid (HP4.out.below hb)
          have HB6 := Lib.hid (HB4.out.trans (Kept.of_below (O := fun _ => False) hb) (fun _ _ h => h.elim))
          clear hb
          have hAS := putx_assign (madeLit x) 0 HP6.out HL.out (by omega)
          rw [assign_ok HSX.out (madeLit x) (madeLit_rng x).1 (madeLit_rng x).2 HZV.out] at hAS
          have HAS := Lib.hid hAS
          clear hAS
          go_wp2_with fail
          refine HAS.out.mono ?_
          rintro e w7 ⟨rfl, hp, hb⟩
          have HP7 := Lib.hid hp
          have HB7 := Lib.hid (HB6.out.trans hb (fun _ _ h => h))
          have HL7 := Lib.hid (show (T.assigned (madeLit x) 0).Low (k + 1) from HL.out.next ⟨false, madeLit x, 0⟩)
          have HS7 := Lib.hid (HSX.out.assigned (madeLit x) 0)
          clear hp hb HAS
          go_wp2_with fail
          go_roundw
          case rel => exact ⟨k + 1, _, by omega, by go_num, HL7, HS7, HB7, HP7⟩
          case measure => simp [intOf]; omega
        · have qz : (T.val (madeLit x) == 0) = false := by rw [beq_eq_false_iff_ne]; exact hz
          have HZV := Lib.hid hz
          clear hz
          go_wp2_with fail
          refine (put_value (madeLit x) HP4.out.at).mono ?_
          rintro e w6 ⟨rfl, hb⟩
          have HP6 := Lib.hid (HP4.out.below hb)
          have HB6 := Lib.hid (HB4.out.trans (Kept.of_below (O := fun _ => False) hb) (fun _ _ h => h.elim))
          clear hb
          go_wp2_with fail
          go_roundw
          case rel => exact ⟨k + 1, T, by omega, by go_num, Lib.hid (low_up HL.out), HSX, HB6, HP6⟩
          case measure => simp [intOf]; omega
    · have hkM : decide ((k : Int) < (ls.length : Int)) = false := by simp; omega
      have hkN : decide (k < ls.length) = false := by simp; omega
      obtain ⟨wo, rfl⟩ : ∃ wo : World, wo = wr := ⟨_, rfl⟩
      have hnow : 0 ≤ T.now := by
        have h := HP.out.at
        obtain ⟨_, _, OT, _, h2, _⟩ := h
        have := h2.1.starts
        unfold Trl.now
        omega
      have hnow7 : T.now ≤ 1000 := by
        have := HL.out.starts
        unfold Trl.now
        omega
      have HOA2 := Lib.hid (own_kept (own_below (own_below HOA.out HB34.out) HBM.out) HW.out (fun g hg ho => ho.2 ⟨(own_lt HOA.out g hg).1, Nat.lt_of_lt_of_le (own_lt HOA.out g hg).2 (Nat.le_trans HB34.out.size HBM.out.size)⟩))
      have HOB2 := Lib.hid (own_kept (own_below HOB.out HBM.out) HW.out (fun g hg ho => ho.2 ⟨Nat.le_trans HB23.out.size (own_lt HOB.out g hg).1, Nat.lt_of_lt_of_le (own_lt HOB.out g hg).2 HBM.out.size⟩))
      have hmlt := HSM.out.lt
      have hmge : w2.heap.size ≤ w4.heap.size := Nat.le_trans HB23.out.size HB34.out.size
      have HSMo := Lib.hid (HSM.out.kept HW.out (fun ho => ho.2 ⟨hmge, hmlt⟩))
      have hal : (madeL ps).length ≤ 6 := by simp [madeL]; omega
      have hbl : (madeL qs).length ≤ 6 := by simp [madeL]; omega
      go_wp2_with fail
      go_loopw [84] (fun i wr => ∃ (m cnt : Nat) (seen : List Int), m ≤ (madeL ps).length ∧ cnt ≤ m ∧ i = .int .i64 m ∧ Hid (seen.Nodup ∧ ∀ x, x ∈ seen ↔ x ∈ T.lvls ((madeL ps).take m)) ∧ Hid (Kept (fun g => g = w4.heap.size) wo wr) ∧ Hid (SetM wr w4.heap.size cnt (fun x => seen.contains x) seen.length)) (fun i _ => (madeL ps).length - (intOf i).toNat)
      case atStart => exact ⟨0, 0, [], Nat.zero_le _, Nat.le_refl _, rfl, Lib.hid ⟨List.nodup_nil, fun x => by rw [List.take_zero]; exact Iff.rfl⟩, Lib.hid (Kept.refl _ _), Lib.hid (HSMo.out.congr (fun x => rfl) rfl)⟩
      case round =>
        obtain ⟨m, cnt, seen, hm, hcm, rfl, HSE, HKM, HSM2⟩ := hrel
        have HP5 := Lib.hid (HP.out.keptX HKM.out (fun g e => by rw [e]; exact ⟨hmge, hmlt⟩))
        have HBK := Lib.hid (below_kept HBR.out HKM.out (fun g e => by rw [e]; exact Nat.le_trans (Nat.le_trans HB1.out.size hz12) hmge) HBR.out.size)
        have HOA3 := Lib.hid (own_kept HOA2.out HKM.out (fun g hg e => by
          obtain ⟨cc, hcc⟩ := own_type HOA2.out g hg
          exact cf_mne HSMo.out.map hcc e.symm))
        have HOB3 := Lib.hid (own_kept HOB2.out HKM.out (fun g hg e => by
          obtain ⟨cc, hcc⟩ := own_type HOB2.out g hg
          exact cf_mne HSMo.out.map hcc e.symm))
        by_cases hlt3 : m < (madeL ps).length
        · obtain ⟨l, hl⟩ := getElem_of hlt3
          obtain ⟨g2, c2, cs2, hv2, _, _, _, _, _⟩ := mx_some HOA3.out (by omega)
          simp only [Value.slice.injEq, true_and] at hv2
          obtain ⟨rfl, rfl⟩ := hv2
          have d0 : wr.cell? ⟨g2, m, none⟩ = some (.int .i64 l) := mx_at HOA3.out (by rw [List.getElem?_map, hl]; rfl)
          have HTK := Lib.hid (show (madeL ps).take (m + 1) = (madeL ps).take m ++ [l] from by rw [List.take_add_one, hl]; rfl)
          obtain ⟨y, hy⟩ : ∃ y, T.level (litV l : Nat) = y := ⟨_, rfl⟩
          obtain ⟨th, hth⟩ : ∃ t, (T.why (litV l : Nat)).isSome = t := ⟨_, rfl⟩
          have hLV := put_lev (litV l : Nat) HP5.out.at
          rw [hy, hth] at hLV
          have HLV := Lib.hid hLV
          have HYV := Lib.hid hy
          clear hl hLV
          by_cases hy0 : 0 < y
          · have hth1 : th = true := by
              rw [← hth]
              cases hw : T.why (litV l : Nat) with
              | none =>
                have := Trl.level_none hw
                omega
              | some s => rfl
            clear hth hy
            subst hth1
            cases hsc : seen.contains y with
            | true =>
              have q0 : decide (0 < y) = true := by simpa using hy0
              obtain ⟨hye1, hye2⟩ := lvls_rng HSX.out hnow [l] y (by unfold Trl.lvls; rw [HYV.out, if_pos hy0]; exact List.mem_singleton.2 rfl)
              have hwfy : (Lit.int .i64 y).wf = true := wf64 (by omega) (by omega)
              have HWY := Lib.hid hwfy
              have HSC := Lib.hid hsc
              have HY0 := Lib.hid hy0
              clear hwfy hsc hy0
              go_wp2_with fail
              refine (lit_var l wr).mono ?_
              rintro e w6 ⟨rfl, rfl⟩
              go_wp2_with fail
              refine HLV.out.mono ?_
              rintro e w6 ⟨rfl, hb⟩
              have HS6 := Lib.hid (HSM2.out.below hb)
              have HK6 := Lib.hid (HKM.out.trans (Kept.of_below (O := fun _ => False) hb) (fun _ _ h => h.elim))
              clear hb HLV d0
              go_wp2_with (at_mapUpdate; refine wpList_add HS6.out rfl _ _ _ rfl rfl (by unfold maxLen; omega) y rfl rfl HWY.out ?_; intro w7 hs7 hg7)
              have HS7 := Lib.hid hs7
              have HK7 := Lib.hid (HK6.out.trans (Kept.grown hg7) (fun g _ h => Option.some.inj h))
              clear hs7 hg7
              go_roundw
              case rel => exact ⟨m + 1, cnt + 1, seen, by omega, by omega, by go_num, Lib.hid ⟨HSE.out.1, fun x => by
                rw [HTK.out, lvls_append, List.mem_append, show T.lvls [l] = [y] from by unfold Trl.lvls; rw [HYV.out, if_pos HY0.out]; rfl, HSE.out.2 x]
                refine ⟨.inl, fun h => h.elim id (fun h => ?_)⟩
                rw [List.mem_singleton.1 h]
                exact (HSE.out.2 y).1 (List.contains_iff_mem.1 HSC.out)⟩, HK7, Lib.hid (HS7.out.congr (fun x => by
                by_cases h : x = y
                · rw [h, HSC.out]; simp
                · have : (x == y) = false := by simpa using h
                  rw [this, Bool.false_or]) (by rw [HSC.out]; rfl))⟩
              case measure => simp [intOf]; omega
            | false =>
              have q0 : decide (0 < y) = true := by simpa using hy0
              obtain ⟨hye1, hye2⟩ := lvls_rng HSX.out hnow [l] y (by unfold Trl.lvls; rw [HYV.out, if_pos hy0]; exact List.mem_singleton.2 rfl)
              have hwfy : (Lit.int .i64 y).wf = true := wf64 (by omega) (by omega)
              have HWY := Lib.hid hwfy
              have HSC := Lib.hid hsc
              have HY0 := Lib.hid hy0
              clear hwfy hsc hy0
              go_wp2_with fail
              refine (lit_var l wr).mono ?_
              rintro e w6 ⟨rfl, rfl⟩
              go_wp2_with fail
              refine HLV.out.mono ?_
              rintro e w6 ⟨rfl, hb⟩
              have HS6 := Lib.hid (HSM2.out.below hb)
              have HK6 := Lib.hid (HKM.out.trans (Kept.of_below (O := fun _ => False) hb) (fun _ _ h => h.elim))
              clear hb HLV d0
              go_wp2_with (at_mapUpdate; refine wpList_add HS6.out rfl _ _ _ rfl rfl (by unfold maxLen; omega) y rfl rfl HWY.out ?_; intro w7 hs7 hg7)
              have HS7 := Lib.hid hs7
              have HK7 := Lib.hid (HK6.out.trans (Kept.grown hg7) (fun g _ h => Option.some.inj h))
              clear hs7 hg7
              go_roundw
              case rel => exact ⟨m + 1, cnt + 1, seen ++ [y], by omega, by omega, by go_num, Lib.hid ⟨List.nodup_append.2 ⟨HSE.out.1, (by simp), fun x hx z hz e => by
                rw [List.mem_singleton.1 hz] at e
                have h2 := HSC.out
                rw [← e, List.contains_iff_mem.2 hx] at h2
                cases h2⟩, fun x => by
                rw [HTK.out, lvls_append, List.mem_append, List.mem_append, show T.lvls [l] = [y] from by unfold Trl.lvls; rw [HYV.out, if_pos HY0.out]; rfl, HSE.out.2 x]⟩, HK7, Lib.hid (HS7.out.congr (fun x => by
                by_cases h : x = y
                · rw [h]; simp
                · have : (x == y) = false := by simpa using h
                  rw [this, Bool.false_or]; simp [h]) (by rw [HSC.out]; simp))⟩
              case measure => simp [intOf]; omega
          · clear hth hy
            cases th
            · have q0 : decide (0 < y) = false := by simpa using hy0
              have HY0 := Lib.hid hy0
              clear hy0
              go_wp2_with fail
              refine (lit_var l wr).mono ?_
              rintro e w6 ⟨rfl, rfl⟩
              go_wp2_with fail
              refine HLV.out.mono ?_
              rintro e w6 ⟨rfl, hb⟩
              have HS6 := Lib.hid (HSM2.out.below hb)
              have HK6 := Lib.hid (HKM.out.trans (Kept.of_below (O := fun _ => False) hb) (fun _ _ h => h.elim))
              clear hb HLV d0
              go_wp2_with fail
              go_roundw
              case rel => exact ⟨m + 1, cnt, seen, by omega, by omega, by go_num, Lib.hid ⟨HSE.out.1, fun x => by
                rw [HTK.out, lvls_append, List.mem_append, show T.lvls [l] = [] from by unfold Trl.lvls; rw [HYV.out, if_neg (Int.not_lt.2 HY0.out)]; rfl, HSE.out.2 x]
                exact ⟨.inl, fun h => h.elim id (fun h => by cases h)⟩⟩, HK6, HS6⟩
              case measure => simp [intOf]; omega
            · have q0 : decide (0 < y) = false := by simpa using hy0
              have HY0 := Lib.hid hy0
              clear hy0
              go_wp2_with fail
              refine (lit_var l wr).mono ?_
              rintro e w6 ⟨rfl, rfl⟩
              go_wp2_with fail
              refine HLV.out.mono ?_
              rintro e w6 ⟨rfl, hb⟩
              have HS6 := Lib.hid (HSM2.out.below hb)
              have HK6 := Lib.hid (HKM.out.trans (Kept.of_below (O := fun _ => False) hb) (fun _ _ h => h.elim))
              clear hb HLV d0
              go_wp2_with fail
              go_roundw
              case rel => exact ⟨m + 1, cnt, seen, by omega, by omega, by go_num, Lib.hid ⟨HSE.out.1, fun x => by
                rw [HTK.out, lvls_append, List.mem_append, show T.lvls [l] = [] from by unfold Trl.lvls; rw [HYV.out, if_neg (Int.not_lt.2 HY0.out)]; rfl, HSE.out.2 x]
                exact ⟨.inl, fun h => h.elim id (fun h => by cases h)⟩⟩, HK6, HS6⟩
              case measure => simp [intOf]; omega
        · have hm1 : decide (m < (madeL ps).length) = false := by simp; omega
          have hm2 : decide ((m : Int) < ((madeL ps).length : Int)) = false := by simp; omega
          obtain ⟨n1, hn1⟩ : ∃ n, dn (T.lvls (madeL ps)) = n := ⟨_, rfl⟩
          obtain ⟨n2, hn2⟩ : ∃ n, dn (T.lvls (madeL qs)) = n := ⟨_, rfl⟩
          obtain ⟨n3, hn3⟩ : ∃ n, dn (T.lvls (madeL ps ++ madeL qs)) = n := ⟨_, rfl⟩
          have hse : seen.length = n1 := by
            have h := HSE.out.2
            rw [List.take_of_length_le (by omega)] at h
            rw [← hn1]
            exact (dn_seen HSE.out.1 h).symm
          have h31 : n3 ≤ n1 + n2 := by
            rw [← hn1, ← hn2, ← hn3, lvls_append]
            exact dn_append _ _
          have h1le : n1 ≤ n3 := by
            rw [← hn1, ← hn3, lvls_append]
            exact dn_le (fun x hx => List.mem_append_left _ hx)
          have h2le : n2 ≤ n3 := by
            rw [← hn2, ← hn3, lvls_append]
            exact dn_le (fun x hx => List.mem_append_right _ hx)
          have hnle : (n1 : Int) ≤ (T.starts.length : Int) - 1 := by
            have := dn_bound (xs := T.lvls (madeL ps)) (n := T.now.toNat) (fun x hx => by
              have := lvls_rng HSX.out hnow _ x hx
              omega)
            rw [hn1] at this
            unfold Trl.now at this hnow
            omega
          have HN1 := Lib.hid hn1
          have HN2 := Lib.hid hn2
          have HN3 := Lib.hid hn3
          have HN4 := Lib.hid (show dn (T.lvls ((madeL ps).map fun x => -x)) = n1 from by rw [lvls_neg]; exact hn1)
          rw [hse] at HSM2
          have n1s : n1 ≤ 6 := by
            rw [← hn1]
            refine Nat.le_trans ?_ hal
            exact Nat.le_trans (dn_len _) (Trl.lvls_le T (madeL ps))
          have n2s : n2 ≤ 6 := by
            rw [← hn2]
            refine Nat.le_trans ?_ hbl
            exact Nat.le_trans (dn_len _) (Trl.lvls_le T (madeL qs))
          clear hn1 hn2 hn3 hse
          have HB5 := Lib.hid (Below.refl wr.heap.size wr)
          have hLS := put_levels (.slice Aa (madeL ps).length ca) (madeL ps) HP5.out.at (IntsIn.of_own HOA3.out) (madeL_ok ps)
          rw [HN1.out] at hLS
          have HLS := Lib.hid hLS
          clear hLS
          go_wp2_with fail
          refine HLS.out.mono ?_
          rintro e x1 ⟨rfl, hb⟩
          have HPx1 := Lib.hid (HP5.out.below hb)
          have HBx1 := Lib.hid (HB5.out.trans (hb.mono HB5.out.size))
          clear hb HLS
          have hLS := put_levels (.slice Ab (madeL qs).length cb) (madeL qs) HPx1.out.at (IntsIn.of_own (own_below HOB3.out HBx1.out)) (madeL_ok qs)
          rw [HN2.out] at hLS
          have HLS := Lib.hid hLS
          clear hLS
          go_wp2_with fail
          refine HLS.out.mono ?_
          rintro e x2 ⟨rfl, hb⟩
          have HPx2 := Lib.hid (HPx1.out.below hb)
          have HBx2 := Lib.hid (HBx1.out.trans (hb.mono HBx1.out.size))
          clear hb HLS
          obtain ⟨xc, hxc⟩ : ∃ z, x2.alloc (.cells #[(.slice Aa (madeL ps).length ca), (.slice Ab (madeL qs).length cb)] 29) = z := ⟨_, rfl⟩
          have hCls : ClsAt xc (.slice (some ⟨x2.heap.size, 0, none⟩) 2 2) [madeL ps, madeL qs] := by
            rw [← hxc]
            exact cls_new x2 [(.slice Aa (madeL ps).length ca), (.slice Ab (madeL qs).length cb)] [madeL ps, madeL qs] _ (fun i xs hi => by
              match i, hi with
              | 0, hi =>
                obtain rfl := Option.some.inj hi
                exact ⟨_, rfl, (IntsIn.of_own (own_below HOA3.out HBx2.out)).mono (fun g hg => (own_lt (own_below HOA3.out HBx2.out) g hg.2).2)⟩
              | 1, hi =>
                obtain rfl := Option.some.inj hi
                exact ⟨_, rfl, (IntsIn.of_own (own_below HOB3.out HBx2.out)).mono (fun g hg => (own_lt (own_below HOB3.out HBx2.out) g hg.2).2)⟩
              | n + 2, hi => exact absurd hi (by simp))
          have hbxc : Below x2.heap.size x2 xc := by rw [← hxc]; exact mx_al _ _
          have hfl : [madeL ps, madeL qs].flatten = madeL ps ++ madeL qs := by simp
          have hcc := concat_c _ [madeL ps, madeL qs] xc hCls (by rw [hfl, List.length_append]; omega) (by simp)
          obtain ⟨ab, hab⟩ : ∃ x, madeL ps ++ madeL qs = x := ⟨_, rfl⟩
          have HNab := Lib.hid (show dn (T.lvls ab) = n3 from by rw [← hab]; exact HN3.out)
          have HCab := Lib.hid (show clauseB ab = true from by rw [← hab]; exact clauseB_append (madeL_ok ps) (madeL_ok qs) (by omega))
          rw [hfl, hab] at hcc
          clear hab
          have HCC := Lib.hid hcc
          have HXC := Lib.hid hxc
          have HBXC := Lib.hid hbxc
          clear hCls hbxc hfl hcc hxc
          go_wp2_with fail
          rw [HXC.out]
          refine HCC.out.mono ?_
          rintro e x3 ⟨vc, rfl, hown, hb⟩
          have HPx3 := Lib.hid ((HPx2.out.below HBXC.out).below hb)
          have HBx3 := Lib.hid (HBx2.out.trans ((HBXC.out.trans (hb.mono HBXC.out.size)).mono HBx2.out.size))
          have HOC := Lib.hid hown
          clear hown hb HCC
          obtain ⟨Av3, cv3, rfl, _⟩ := mx_slice HOC.out
          have hLS := put_levels (.slice Av3 ab.length cv3) ab HPx3.out.at (IntsIn.of_own HOC.out) HCab.out
          rw [HNab.out] at hLS
          have HLS := Lib.hid hLS
          clear hLS
          go_wp2_with fail
          refine HLS.out.mono ?_
          rintro e x4 ⟨rfl, hb⟩
          have HPx4 := Lib.hid (HPx3.out.below hb)
          have HBx4 := Lib.hid (HBx3.out.trans (hb.mono HBx3.out.size))
          clear hb HLS
          go_wp2_with fail
          have HSM4 := Lib.hid (HSM2.out.below HBx4.out)
          have HOA4 := Lib.hid (own_below HOA3.out HBx4.out)
          have HBL4 := Lib.hid (HBK.out.trans (HBx4.out.mono HBK.out.size))
          obtain ⟨xo, rfl⟩ : ∃ xo : World, xo = x4 := ⟨_, rfl⟩
          obtain ⟨i0, hi0, iz0, iz1, iz2⟩ := info_parts tinfo_lit
          have I0 := Lib.hid hi0
          have I1 := Lib.hid iz0
          have I2 := Lib.hid iz1
          have I3 := Lib.hid iz2
          clear hi0 iz0 iz1 iz2
          go_loopw [26, 126] (fun tv i wr2 => ∃ (q : Nat) (v : Value), q ≤ (madeL ps).length ∧ i = .int .i64 q ∧ v = tv ∧ Hid (Below xo.heap.size xo wr2) ∧ Hid (wr2.ownsRow xo.heap.size 33 1 v q ((((madeL ps).map fun x => -x).take q).map (Value.int .i64)))) (fun _ i _ => (madeL ps).length - (intOf i).toNat)
          case atStart => exact ⟨0, .slice none 0 0, Nat.zero_le _, rfl, rfl, Lib.hid (Below.refl _ _), Lib.hid (World.ownsRow_nil _ _ _ _)⟩
          case round =>
            obtain ⟨q, v, hq, rfl, rfl, HQ, HO⟩ := hrel
            by_cases hlt4 : q < (madeL ps).length
            · obtain ⟨l, hl⟩ := getElem_of hlt4
              have HOA5 := own_below HOA4.out HQ.out
              obtain ⟨g2, c2, cs2, hv2, _, _, _, _, _⟩ := mx_some HOA5 (by omega)
              simp only [Value.slice.injEq, true_and] at hv2
              obtain ⟨rfl, rfl⟩ := hv2
              have d0 : wr.cell? ⟨g2, q, none⟩ = some (.int .i64 l) := mx_at HOA5 (by rw [List.getElem?_map, hl]; rfl)
              have hlr := clauseB_lit (madeL_ok ps) (List.mem_of_getElem? hl)
              have hl1 := hlr.2.1
              have hl2 := hlr.2.2
              have HTK := Lib.hid (show (((madeL ps).map fun x => -x).take (q + 1)) = (((madeL ps).map fun x => -x).take q) ++ [-l] from by rw [List.take_add_one, List.getElem?_map, hl]; rfl)
              have hwn : IntKind.i64.wrap (-l) = -l := IntWalk.i64_in _ (by omega)
              clear hl hlr HOA5
              go_wp2_with (at_builtin; refine wpList_append_any rfl _ _ 29 rfl xo.heap.size 33 i0 (.int .i64 0) 1 8 Try.underlying29 I0.out I1.out I2.out I3.out rfl (by decide) _ q _ rfl (own_below HO.out (mx_al wr (.cells #[.int .i64 (-l)] 33))) (.slice (some ⟨wr.heap.size, 0, none⟩) 1 1) 1 [.int .i64 (-l)] rfl (mx_src wr 33 [.int .i64 (-l)]) rfl (by simp [Value.oneCell']) (by unfold maxLen; omega) (by omega) (by have := HQ.out.size; simp; omega) ?_; intro v' w9 hown hgrow _)
              have HO9 := Lib.hid hown
              have HQ9 := Lib.hid (below_kept (HQ.out.trans ((mx_al wr (.cells #[.int .i64 (-l)] 33)).mono HQ.out.size)) (Kept.grown hgrow) (fun j hj => (own_lt HO.out j hj.symm).1) (by have := HQ.out.size; simp; omega))
              clear hown hgrow
              go_roundw
              case rel => exact ⟨q + 1, v', by omega, by go_num, rfl, HQ9, Lib.hid (by rw [HTK.out, List.map_append]; exact HO9.out)⟩
              case measure => simp [intOf]; omega
            · have hq1 : decide (q < (madeL ps).length) = false := by simp; omega
              have hq2 : decide ((q : Int) < ((madeL ps).length : Int)) = false := by simp; omega
              obtain ⟨tn, htn⟩ : ∃ x, ((madeL ps).map fun x => -x) = x := ⟨_, rfl⟩
              have htl : tn.length = (madeL ps).length := by rw [← htn, List.length_map]
              have HNt := Lib.hid (show dn (T.lvls tn) = n1 from by rw [← htn]; exact HN4.out)
              have HCt := Lib.hid (show clauseB tn = true from by rw [← htn]; exact clauseB_neg (madeL_ok ps))
              have ho := HO.out
              rw [htn, List.take_of_length_le (by omega), show q = tn.length from by omega] at ho
              have HOT := Lib.hid ho
              have htq := Nat.le_of_eq (show q = tn.length from by omega)
              have hqt := Nat.le_of_eq (show tn.length = q from by omega)
              have HPQ := Lib.hid (HPx4.out.below HQ.out)
              have HSM5 := Lib.hid (HSM4.out.below HQ.out)
              have HB6 := Lib.hid (Below.refl wr.heap.size wr)
              clear htn ho HO htl
              obtain ⟨At, ct, rfl, _⟩ := mx_slice HOT.out
              have hLS := put_levels (.slice At tn.length ct) tn HPQ.out.at (IntsIn.of_own HOT.out) HCt.out
              rw [HNt.out] at hLS
              have HLS := Lib.hid hLS
              clear hLS
              have e1 : ((n1 : Int) == (n1 : Int)) = true := by simp
              have e2 : decide ((n3 : Int) ≤ (n1 : Int) + (n2 : Int)) = true := by simp; omega
              have e3 : decide (max (n1 : Int) (n2 : Int) ≤ (n3 : Int)) = true := by simp; omega
              have e4 : decide ((n1 : Int) ≤ (T.starts.length : Int) - 1) = true := by simp; omega
              go_wp2_with fail
              refine HLS.out.mono ?_
              rintro e x6 ⟨rfl, hb⟩
              have HP6 := Lib.hid (HPQ.out.below hb)
              have HS6 := Lib.hid (HSM5.out.below hb)
              have HBE := Lib.hid (HBL4.out.trans ((HQ.out.trans (hb.mono HQ.out.size)).mono HBL4.out.size))
              have hlen := HS6.out.len 3
              clear hb HLS
              go_wp2_with fail
              refine (put_now HP6.out.at).mono ?_
              rintro e w' ⟨rfl, rfl⟩
              go_wp2_with fail
              go_ret
              exact ⟨rfl, HBE.out⟩
theorem analyzeLevels_any (pv qv lv : Value) (ps qs ls : List Int) (w : World) (hp : RowAt .i8 w pv ps) (hq : RowAt .i8 w qv qs) (hl : RowAt .i8 w lv ls) :
    Calls Try.prog 3 #[pv, qv, lv] w fun e w' => e = .returned (.bool true) ∧ Below w.heap.size w w' := by
  by_cases h : (6 : Int) < (ls.length : Int)
  · exact levels_long pv qv lv ps qs ls w hp hq hl h
  · exact levels_short pv qv lv ps qs ls w hp hq hl (by omega)
end Go.Proofs.Ytfbiaclpopjipaa
