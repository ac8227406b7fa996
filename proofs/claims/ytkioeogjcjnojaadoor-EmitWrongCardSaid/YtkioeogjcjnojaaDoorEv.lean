/- EmitWrong: the walk. -/
import Derived.Test.YtkioeogjcjnojaaDoorEu
namespace Go.Proofs.YtkioeogjcjnojaaDoor
open Go.RowKit

theorem new_has (m : Nat) (x : Int) : (newLog m).has x = decide (1 ≤ x ∧ x ≤ (m : Int)) := by
  unfold ELog.has newLog
  simp
/-- what EmitWrong meets: a number that is no literal, an ID of no clause -/
structure WrongFacts (m : Nat) (nn id : Int) : Prop where
  e1 : learnErr (newLog m) [nn] [id] = 20
  n1 : learnNum (newLog m) [nn] [id] = 0
  l1 : learnLog (newLog m) [nn] [id] = newLog m
  e2 : learnErr (newLog m) [1] [1, id] = 170
  n2 : learnNum (newLog m) [1] [1, id] = 0
  l2 : learnLog (newLog m) [1] [1, id] = newLog m
  e3 : forgetErr (newLog m) [1, id] = 170
  n3 : forgetNum (newLog m) [1, id] = id
  l3 : forgetLog (newLog m) [1, id] = newLog m
  e4 : forgetErr (newLog m) [(m : Int), (m : Int)] = 170
  n4 : forgetNum (newLog m) [(m : Int), (m : Int)] = (m : Int)
  l4 : forgetLog (newLog m) [(m : Int), (m : Int)] = newLog m
  e5 : learnErr (newLog m) [] [] = 0
  n5 : learnNum (newLog m) [] [] = (m : Int) + 1
  l5 : learnLog (newLog m) [] [] = (newLog m).learn [] []
  e6 : learnErr ((newLog m).learn [] []) [nn] [id] = 171
  n6 : learnNum ((newLog m).learn [] []) [nn] [id] = 0
  l6 : learnLog ((newLog m).learn [] []) [nn] [id] = (newLog m).learn [] []
  e7 : forgetErr ((newLog m).learn [] []) [id] = 171
  n7 : forgetNum ((newLog m).learn [] []) [id] = 0
  l7 : forgetLog ((newLog m).learn [] []) [id] = (newLog m).learn [] []
theorem learn_fails {L : ELog} {c h : List Int} {n : Nat} (he : learnErr L c h = n) (hn : n ≠ 0) : learnNum L c h = 0 ∧ learnLog L c h = L := by
  unfold learnNum learnLog
  rw [he, if_neg hn, if_neg hn]
  exact ⟨rfl, rfl⟩
theorem forget_fails {L : ELog} {ids : List Int} {n : Nat} (he : forgetErr L ids = n) (hn : n ≠ 0) : forgetLog L ids = L := by
  unfold forgetLog
  rw [he, if_neg (fun h => hn h.1)]
theorem wrongFacts (m : Nat) (nn id : Int) (hm : 1 ≤ m) (hm2 : m ≤ 20) (hl : litB nn = false) (hid : id < 1 ∨ (m : Int) < id) : WrongFacts m nn id := by
  have hd : (newLog m).done = false := rfl
  have h1 : (newLog m).has 1 = true := by rw [new_has]; simp; omega
  have h2 : (newLog m).has id = false := by rw [new_has]; simp; omega
  have h3 : (newLog m).has (m : Int) = true := by rw [new_has]; simp; omega
  have e1 : learnErr (newLog m) [nn] [id] = 20 := by
    unfold learnErr
    rw [if_neg (by rw [hd]; decide), if_pos (by simp [clauseB, hl])]
  have e2 : learnErr (newLog m) [1] [1, id] = 170 := by
    unfold learnErr
    rw [if_neg (by rw [hd]; decide), if_neg (by decide), if_neg (by simp), if_pos (by simp [h1, h2])]
  have b3 : badGo (newLog m) [] [1, id] = [id] := by simp [badGo, h1, h2]
  have b4 : badGo (newLog m) [] [(m : Int), (m : Int)] = [(m : Int)] := by simp [badGo, h3]
  have e3 : forgetErr (newLog m) [1, id] = 170 := by
    unfold forgetErr
    rw [if_neg (by rw [hd]; decide), if_pos (by rw [b3]; simp)]
  have e4 : forgetErr (newLog m) [(m : Int), (m : Int)] = 170 := by
    unfold forgetErr
    rw [if_neg (by rw [hd]; decide), if_pos (by rw [b4]; simp)]
  have e5 : learnErr (newLog m) [] [] = 0 := by
    unfold learnErr
    rw [if_neg (by rw [hd]; decide), if_neg (by decide), if_neg (by simp), if_neg (by simp), if_neg]
    unfold ELog.full newLog
    simp
    omega
  have hd2 : ((newLog m).learn [] []).done = true := rfl
  have e6 : learnErr ((newLog m).learn [] []) [nn] [id] = 171 := by unfold learnErr; rw [if_pos hd2]
  have e7 : forgetErr ((newLog m).learn [] []) [id] = 171 := by unfold forgetErr; rw [if_pos hd2]
  refine ⟨e1, (learn_fails e1 (by decide)).1, (learn_fails e1 (by decide)).2, e2, (learn_fails e2 (by decide)).1, (learn_fails e2 (by decide)).2, e3, ?_, forget_fails e3 (by decide), e4, ?_, forget_fails e4 (by decide), e5, ?_, ?_, e6, (learn_fails e6 (by decide)).1, (learn_fails e6 (by decide)).2, e7, ?_, forget_fails e7 (by decide)⟩
  · unfold forgetNum; rw [if_neg (by rw [hd]; decide), b3]
  · unfold forgetNum; rw [if_neg (by rw [hd]; decide), b4]
  · unfold learnNum; rw [if_pos e5]; rfl
  · unfold learnLog; rw [if_pos e5]
  · unfold forgetNum; rw [if_pos hd2]
set_option maxRecDepth 100000 in
set_option maxHeartbeats 4000000 in
theorem emitWrong1 (n : Int) (f : Int) (w : World) (ht : TabW w) (hn : Rng n) (hf0 : 0 ≤ f) (hf1 : f ≤ 255) (hl : litB n = true) (ho : n < 1) : Calls Tryd.prog 3 #[.int .i64 n, .int .u8 f] w fun e w' => e = .returned (.bool true) ∧ Below w.heap.size w w' := by
  have HA := Lib.hid (awake_any w ht)
  obtain ⟨hn1, hn2⟩ := hn
  have HR := fun w => right_lit n w
  rw [hl] at HR
  have HR := Lib.hid HR
  obtain ⟨m, hm, hm1, hm2⟩ : ∃ m : Nat, 1 + f % 20 = (m : Int) ∧ 1 ≤ m ∧ m ≤ 20 := ⟨(1 + f % 20).toNat, by omega, by omega, by omega⟩
  have HMM := Lib.hid hm
  have HF := Lib.hid (wrongFacts m (0 : Int) n hm1 hm2 rfl (by omega))
  have hwf : (Lit.int .i64 n).wf = true := wf64 (by omega) (by omega)
  have hwm : (Lit.int .i64 (m : Int)).wf = true := wf64 (by omega) (by omega)
  have hw1 : (Lit.int .i64 1).wf = true := by decide
  have HW1 := Lib.hid (show ∀ x ∈ [n], (Lit.int .i64 x).wf = true from fun x hx => by
    obtain rfl := List.mem_singleton.1 hx
    exact hwf)
  have HW2 := Lib.hid (show ∀ x ∈ [1, n], (Lit.int .i64 x).wf = true from fun x hx => by
    rcases List.mem_cons.1 hx with rfl | hx
    · exact hw1
    · obtain rfl := List.mem_singleton.1 hx
      exact hwf)
  have HW3 := Lib.hid (show ∀ x ∈ [(m : Int), (m : Int)], (Lit.int .i64 x).wf = true from fun x hx => by
    rcases List.mem_cons.1 hx with rfl | hx
    · exact hwm
    · obtain rfl := List.mem_singleton.1 hx
      exact hwm)
  have hmle : m ≤ 1048576 := by omega
  clear ht hl hm hwf hwm hw1
  go_enter Tryd.func3, Tryd.ntmps3
  go_wp2_with fail
  refine HA.out.mono ?_
  rintro e w0 ⟨rfl, hb0⟩
  have HB0 := Lib.hid hb0
  have hz0 := hb0.size
  clear hb0
  go_wp2_with fail
  refine (new_bad _ _ (.inl (by omega))).mono ?_
  rintro e w' ⟨rfl, rfl⟩
  go_wp2_with fail
  refine (new_bad _ _ (.inr (by omega))).mono ?_
  rintro e w' ⟨rfl, rfl⟩
  go_wp2_with fail
  rw [HMM.out]
  refine (new_in m _ hmle).mono ?_
  rintro e w1 ⟨rfl, hl, hb⟩
  have HL1 := Lib.hid hl
  have HB1 := Lib.hid (HB0.out.trans (hb.mono hz0))
  have hz1 := hb.size
  clear hl hb
  go_wp2_with fail
  refine (HR.out _).mono ?_
  rintro e w' ⟨rfl, rfl⟩
  go_wp2_with fail
  have hb := below_alloc2 w1 (.cells #[.int .i64 (0 : Int)] 27) (.cells #[.int .i64 n] 3)
  have i1 := ((ints_new w1 [(0 : Int)] 27).below (below_alloc _ (.cells #[.int .i64 n] 3))).mono (O' := fun g => w1.heap.size ≤ g ∨ g < w0.heap.size ∨ False) (fun _ h => .inl h)
  have i2 := (ints_new (w1.alloc (.cells #[.int .i64 (0 : Int)] 27)) [n] 3).mono (O' := fun g => w1.heap.size ≤ g ∨ g < w0.heap.size ∨ False) (fun g h => .inl (Nat.le_trans (by simp) h))
  rw [World.size_alloc] at i2
  have hc := learn_in w0.heap.size (w0.heap.size + 1) _ _ _ [(0 : Int)] [n] w1 _ HL1.out hb (fun _ h => h.elim) i1 i2 (by simp) (by simp) HW1.out
  rw [HF.out.n1, HF.out.e1, HF.out.l1] at hc
  have HC := Lib.hid hc
  have HBB := Lib.hid hb
  clear hc i1 i2 hb
  refine HC.out.mono ?_
  rintro e w2 ⟨rfl, hl, hk⟩
  have HL2 := Lib.hid hl
  have hzz := HL1.out.size
  have HB2 := Lib.hid ((HB1.out.trans (HBB.out.mono (Nat.le_trans hz0 hz1))).trans ((hk.toBelow (Nat.le_trans hzz HBB.out.size)).mono hz0))
  have hz2 : w0.heap.size ≤ w2.heap.size := Nat.le_trans hz1 (Nat.le_trans HBB.out.size hk.size)
  clear HC HBB hl hk hzz HL1 HB1 hz1
  go_wp2_with fail
  have hb := below_alloc2 w2 (.cells #[.int .i64 1] 27) (.cells #[.int .i64 1, .int .i64 n] 3)
  have i1 := ((ints_new w2 [1] 27).below (below_alloc _ (.cells #[.int .i64 1, .int .i64 n] 3))).mono (O' := fun g => w2.heap.size ≤ g ∨ g < w0.heap.size ∨ False) (fun _ h => .inl h)
  have i2 := (ints_new (w2.alloc (.cells #[.int .i64 1] 27)) [1, n] 3).mono (O' := fun g => w2.heap.size ≤ g ∨ g < w0.heap.size ∨ False) (fun g h => .inl (Nat.le_trans (by simp) h))
  rw [World.size_alloc] at i2
  have hc := learn_in w0.heap.size (w0.heap.size + 1) _ _ _ [1] [1, n] w2 _ HL2.out hb (fun _ h => h.elim) i1 i2 (by simp) (by simp) HW2.out
  rw [HF.out.n2, HF.out.e2, HF.out.l2] at hc
  have HC := Lib.hid hc
  have HBB := Lib.hid hb
  clear hc i1 i2 hb
  refine HC.out.mono ?_
  rintro e w3 ⟨rfl, hl, hk⟩
  have HL3 := Lib.hid hl
  have hzz := HL2.out.size
  have HB3 := Lib.hid ((HB2.out.trans (HBB.out.mono (Nat.le_trans hz0 hz2))).trans ((hk.toBelow (Nat.le_trans hzz HBB.out.size)).mono hz0))
  have hz3 : w0.heap.size ≤ w3.heap.size := Nat.le_trans hz2 (Nat.le_trans HBB.out.size hk.size)
  clear HC HBB hl hk hzz HL2 HB2 hz2
  go_wp2_with fail
  have hb := below_alloc w3 (.cells #[.int .i64 1, .int .i64 n] 3)
  have i1 := (ints_new w3 [1, n] 3).mono (O' := fun g => w3.heap.size ≤ g ∨ g < w0.heap.size ∨ False) (fun _ h => .inl h)
  have i2 := True.intro
  have hc := forget_in w0.heap.size (w0.heap.size + 1) _ _ [1, n] w3 _ HL3.out hb (fun _ h => h.elim) i1 (by simp) HW2.out
  rw [HF.out.n3, HF.out.e3, HF.out.l3] at hc
  have HC := Lib.hid hc
  have HBB := Lib.hid hb
  clear hc i1 i2 hb
  refine HC.out.mono ?_
  rintro e w4 ⟨rfl, hl, hk⟩
  have HL4 := Lib.hid hl
  have hzz := HL3.out.size
  have HB4 := Lib.hid ((HB3.out.trans (HBB.out.mono (Nat.le_trans hz0 hz3))).trans ((hk.toBelow (Nat.le_trans hzz HBB.out.size)).mono hz0))
  have hz4 : w0.heap.size ≤ w4.heap.size := Nat.le_trans hz3 (Nat.le_trans HBB.out.size hk.size)
  clear HC HBB hl hk hzz HL3 HB3 hz3
  go_wp2_with fail
  have hb := below_alloc w4 (.cells #[.int .i64 (m : Int), .int .i64 (m : Int)] 3)
  have i1 := (ints_new w4 [(m : Int), (m : Int)] 3).mono (O' := fun g => w4.heap.size ≤ g ∨ g < w0.heap.size ∨ False) (fun _ h => .inl h)
  have i2 := True.intro
  have hc := forget_in w0.heap.size (w0.heap.size + 1) _ _ [(m : Int), (m : Int)] w4 _ HL4.out hb (fun _ h => h.elim) i1 (by simp) HW3.out
  rw [HF.out.n4, HF.out.e4, HF.out.l4] at hc
  have HC := Lib.hid hc
  have HBB := Lib.hid hb
  clear hc i1 i2 hb
  refine HC.out.mono ?_
  rintro e w5 ⟨rfl, hl, hk⟩
  have HL5 := Lib.hid hl
  have hzz := HL4.out.size
  have HB5 := Lib.hid ((HB4.out.trans (HBB.out.mono (Nat.le_trans hz0 hz4))).trans ((hk.toBelow (Nat.le_trans hzz HBB.out.size)).mono hz0))
  have hz5 : w0.heap.size ≤ w5.heap.size := Nat.le_trans hz4 (Nat.le_trans HBB.out.size hk.size)
  clear HC HBB hl hk hzz HL4 HB4 hz4
  go_wp2_with fail
  refine (log_count _ _ _ HL5.out.1).mono ?_
  rintro e w' ⟨rfl, rfl⟩
  rw [show (newLog m).count = m from rfl]
  go_wp2_with fail
  refine (log_last _ _ _ HL5.out.1).mono ?_
  rintro e w' ⟨rfl, rfl⟩
  rw [show (newLog m).last = m from rfl]
  go_wp2_with fail
  refine (log_steps _ _ _ HL5.out.1 HL5.out.2.1.ok).mono ?_
  rintro e w6 ⟨v, ms, rfl, hst, _, hb⟩
  obtain ⟨As, cs, rfl, _⟩ := own_slice hst.row
  have hms : ms.length = 0 := by
    have := congrArg List.length hst.steps
    simpa [newLog] using this
  have HL6 := Lib.hid (HL5.out.below hb)
  have HB6 := Lib.hid (HB5.out.trans (hb.mono (Nat.le_trans hz0 hz5)))
  have hz6 := Nat.le_trans hz5 hb.size
  rw [hms]
  clear hst hb hms HL5 HB5 hz5
  go_wp2_with fail
  have hb := Below.refl w6.heap.size w6
  have i1 := IntsIn.nil (fun g => w6.heap.size ≤ g ∨ g < w0.heap.size ∨ False) w6
  have i2 := i1
  have hc := learn_in w0.heap.size (w0.heap.size + 1) _ _ _ [] [] w6 _ HL6.out hb (fun _ h => h.elim) i1 i2 (by simp) (by simp) (fun _ h => by cases h)
  rw [HF.out.n5, HF.out.e5, HF.out.l5] at hc
  have HC := Lib.hid hc
  have HBB := Lib.hid hb
  clear hc i1 i2 hb
  refine HC.out.mono ?_
  rintro e w7 ⟨rfl, hl, hk⟩
  have HL7 := Lib.hid hl
  have hzz := HL6.out.size
  have HB7 := Lib.hid ((HB6.out.trans (HBB.out.mono (Nat.le_trans hz0 hz6))).trans ((hk.toBelow (Nat.le_trans hzz HBB.out.size)).mono hz0))
  have hz7 : w0.heap.size ≤ w7.heap.size := Nat.le_trans hz6 (Nat.le_trans HBB.out.size hk.size)
  clear HC HBB hl hk hzz HL6 HB6 hz6
  go_wp2_with fail
  have hb := below_alloc2 w7 (.cells #[.int .i64 (0 : Int)] 27) (.cells #[.int .i64 n] 3)
  have i1 := ((ints_new w7 [(0 : Int)] 27).below (below_alloc _ (.cells #[.int .i64 n] 3))).mono (O' := fun g => w7.heap.size ≤ g ∨ g < w0.heap.size ∨ False) (fun _ h => .inl h)
  have i2 := (ints_new (w7.alloc (.cells #[.int .i64 (0 : Int)] 27)) [n] 3).mono (O' := fun g => w7.heap.size ≤ g ∨ g < w0.heap.size ∨ False) (fun g h => .inl (Nat.le_trans (by simp) h))
  rw [World.size_alloc] at i2
  have hc := learn_in w0.heap.size (w0.heap.size + 1) _ _ _ [(0 : Int)] [n] w7 _ HL7.out hb (fun _ h => h.elim) i1 i2 (by simp) (by simp) HW1.out
  rw [HF.out.n6, HF.out.e6, HF.out.l6] at hc
  have HC := Lib.hid hc
  have HBB := Lib.hid hb
  clear hc i1 i2 hb
  refine HC.out.mono ?_
  rintro e w8 ⟨rfl, hl, hk⟩
  have HL8 := Lib.hid hl
  have hzz := HL7.out.size
  have HB8 := Lib.hid ((HB7.out.trans (HBB.out.mono (Nat.le_trans hz0 hz7))).trans ((hk.toBelow (Nat.le_trans hzz HBB.out.size)).mono hz0))
  have hz8 : w0.heap.size ≤ w8.heap.size := Nat.le_trans hz7 (Nat.le_trans HBB.out.size hk.size)
  clear HC HBB hl hk hzz HL7 HB7 hz7
  go_wp2_with fail
  have hb := below_alloc w8 (.cells #[.int .i64 n] 3)
  have i1 := (ints_new w8 [n] 3).mono (O' := fun g => w8.heap.size ≤ g ∨ g < w0.heap.size ∨ False) (fun _ h => .inl h)
  have i2 := True.intro
  have hc := forget_in w0.heap.size (w0.heap.size + 1) _ _ [n] w8 _ HL8.out hb (fun _ h => h.elim) i1 (by simp) HW1.out
  rw [HF.out.n7, HF.out.e7, HF.out.l7] at hc
  have HC := Lib.hid hc
  have HBB := Lib.hid hb
  clear hc i1 i2 hb
  refine HC.out.mono ?_
  rintro e w9 ⟨rfl, hl, hk⟩
  have HL9 := Lib.hid hl
  have hzz := HL8.out.size
  have HB9 := Lib.hid ((HB8.out.trans (HBB.out.mono (Nat.le_trans hz0 hz8))).trans ((hk.toBelow (Nat.le_trans hzz HBB.out.size)).mono hz0))
  have hz9 : w0.heap.size ≤ w9.heap.size := Nat.le_trans hz8 (Nat.le_trans HBB.out.size hk.size)
  clear HC HBB hl hk hzz HL8 HB8 hz8
  go_wp2_with fail
  refine (log_count _ _ _ HL9.out.1).mono ?_
  rintro e w' ⟨rfl, rfl⟩
  rw [show ((((newLog m).learn [] []).count : Nat) : Int) = (m : Int) + 1 from rfl]
  go_wp2_with fail
  go_ret
  exact ⟨rfl, HB9.out⟩
set_option maxRecDepth 100000 in
set_option maxHeartbeats 4000000 in
theorem emitWrong2 (n : Int) (f : Int) (w : World) (ht : TabW w) (hn : Rng n) (hf0 : 0 ≤ f) (hf1 : f ≤ 255) (hl : litB n = true) (ho : ¬ n < 1) : Calls Tryd.prog 3 #[.int .i64 n, .int .u8 f] w fun e w' => e = .returned (.bool true) ∧ Below w.heap.size w w' := by
  have HA := Lib.hid (awake_any w ht)
  obtain ⟨hn1, hn2⟩ := hn
  have HR := fun w => right_lit n w
  rw [hl] at HR
  have HR := Lib.hid HR
  obtain ⟨m, hm, hm1, hm2⟩ : ∃ m : Nat, 1 + f % 20 = (m : Int) ∧ 1 ≤ m ∧ m ≤ 20 := ⟨(1 + f % 20).toNat, by omega, by omega, by omega⟩
  have HMM := Lib.hid hm
  have HF := Lib.hid (wrongFacts m (0 : Int) (max n ((m : Int) + 1)) hm1 hm2 rfl (by omega))
  have hwf : (Lit.int .i64 (max n ((m : Int) + 1))).wf = true := wf64 (by omega) (by omega)
  have hwm : (Lit.int .i64 (m : Int)).wf = true := wf64 (by omega) (by omega)
  have hw1 : (Lit.int .i64 1).wf = true := by decide
  have HW1 := Lib.hid (show ∀ x ∈ [(max n ((m : Int) + 1))], (Lit.int .i64 x).wf = true from fun x hx => by
    obtain rfl := List.mem_singleton.1 hx
    exact hwf)
  have HW2 := Lib.hid (show ∀ x ∈ [1, (max n ((m : Int) + 1))], (Lit.int .i64 x).wf = true from fun x hx => by
    rcases List.mem_cons.1 hx with rfl | hx
    · exact hw1
    · obtain rfl := List.mem_singleton.1 hx
      exact hwf)
  have HW3 := Lib.hid (show ∀ x ∈ [(m : Int), (m : Int)], (Lit.int .i64 x).wf = true from fun x hx => by
    rcases List.mem_cons.1 hx with rfl | hx
    · exact hwm
    · obtain rfl := List.mem_singleton.1 hx
      exact hwm)
  have hmle : m ≤ 1048576 := by omega
  clear ht hl hm hwf hwm hw1
  go_enter Tryd.func3, Tryd.ntmps3
  go_wp2_with fail
  refine HA.out.mono ?_
  rintro e w0 ⟨rfl, hb0⟩
  have HB0 := Lib.hid hb0
  have hz0 := hb0.size
  clear hb0
  go_wp2_with fail
  refine (new_bad _ _ (.inl (by omega))).mono ?_
  rintro e w' ⟨rfl, rfl⟩
  go_wp2_with fail
  refine (new_bad _ _ (.inr (by omega))).mono ?_
  rintro e w' ⟨rfl, rfl⟩
  go_wp2_with fail
  rw [HMM.out]
  refine (new_in m _ hmle).mono ?_
  rintro e w1 ⟨rfl, hl, hb⟩
  have HL1 := Lib.hid hl
  have HB1 := Lib.hid (HB0.out.trans (hb.mono hz0))
  have hz1 := hb.size
  clear hl hb
  go_wp2_with fail
  refine (HR.out _).mono ?_
  rintro e w' ⟨rfl, rfl⟩
  go_wp2_with fail
  have hb := below_alloc2 w1 (.cells #[.int .i64 (0 : Int)] 27) (.cells #[.int .i64 (max n ((m : Int) + 1))] 3)
  have i1 := ((ints_new w1 [(0 : Int)] 27).below (below_alloc _ (.cells #[.int .i64 (max n ((m : Int) + 1))] 3))).mono (O' := fun g => w1.heap.size ≤ g ∨ g < w0.heap.size ∨ False) (fun _ h => .inl h)
  have i2 := (ints_new (w1.alloc (.cells #[.int .i64 (0 : Int)] 27)) [(max n ((m : Int) + 1))] 3).mono (O' := fun g => w1.heap.size ≤ g ∨ g < w0.heap.size ∨ False) (fun g h => .inl (Nat.le_trans (by simp) h))
  rw [World.size_alloc] at i2
  have hc := learn_in w0.heap.size (w0.heap.size + 1) _ _ _ [(0 : Int)] [(max n ((m : Int) + 1))] w1 _ HL1.out hb (fun _ h => h.elim) i1 i2 (by simp) (by simp) HW1.out
  rw [HF.out.n1, HF.out.e1, HF.out.l1] at hc
  have HC := Lib.hid hc
  have HBB := Lib.hid hb
  clear hc i1 i2 hb
  refine HC.out.mono ?_
  rintro e w2 ⟨rfl, hl, hk⟩
  have HL2 := Lib.hid hl
  have hzz := HL1.out.size
  have HB2 := Lib.hid ((HB1.out.trans (HBB.out.mono (Nat.le_trans hz0 hz1))).trans ((hk.toBelow (Nat.le_trans hzz HBB.out.size)).mono hz0))
  have hz2 : w0.heap.size ≤ w2.heap.size := Nat.le_trans hz1 (Nat.le_trans HBB.out.size hk.size)
  clear HC HBB hl hk hzz HL1 HB1 hz1
  go_wp2_with fail
  have hb := below_alloc2 w2 (.cells #[.int .i64 1] 27) (.cells #[.int .i64 1, .int .i64 (max n ((m : Int) + 1))] 3)
  have i1 := ((ints_new w2 [1] 27).below (below_alloc _ (.cells #[.int .i64 1, .int .i64 (max n ((m : Int) + 1))] 3))).mono (O' := fun g => w2.heap.size ≤ g ∨ g < w0.heap.size ∨ False) (fun _ h => .inl h)
  have i2 := (ints_new (w2.alloc (.cells #[.int .i64 1] 27)) [1, (max n ((m : Int) + 1))] 3).mono (O' := fun g => w2.heap.size ≤ g ∨ g < w0.heap.size ∨ False) (fun g h => .inl (Nat.le_trans (by simp) h))
  rw [World.size_alloc] at i2
  have hc := learn_in w0.heap.size (w0.heap.size + 1) _ _ _ [1] [1, (max n ((m : Int) + 1))] w2 _ HL2.out hb (fun _ h => h.elim) i1 i2 (by simp) (by simp) HW2.out
  rw [HF.out.n2, HF.out.e2, HF.out.l2] at hc
  have HC := Lib.hid hc
  have HBB := Lib.hid hb
  clear hc i1 i2 hb
  refine HC.out.mono ?_
  rintro e w3 ⟨rfl, hl, hk⟩
  have HL3 := Lib.hid hl
  have hzz := HL2.out.size
  have HB3 := Lib.hid ((HB2.out.trans (HBB.out.mono (Nat.le_trans hz0 hz2))).trans ((hk.toBelow (Nat.le_trans hzz HBB.out.size)).mono hz0))
  have hz3 : w0.heap.size ≤ w3.heap.size := Nat.le_trans hz2 (Nat.le_trans HBB.out.size hk.size)
  clear HC HBB hl hk hzz HL2 HB2 hz2
  go_wp2_with fail
  have hb := below_alloc w3 (.cells #[.int .i64 1, .int .i64 (max n ((m : Int) + 1))] 3)
  have i1 := (ints_new w3 [1, (max n ((m : Int) + 1))] 3).mono (O' := fun g => w3.heap.size ≤ g ∨ g < w0.heap.size ∨ False) (fun _ h => .inl h)
  have i2 := True.intro
  have hc := forget_in w0.heap.size (w0.heap.size + 1) _ _ [1, (max n ((m : Int) + 1))] w3 _ HL3.out hb (fun _ h => h.elim) i1 (by simp) HW2.out
  rw [HF.out.n3, HF.out.e3, HF.out.l3] at hc
  have HC := Lib.hid hc
  have HBB := Lib.hid hb
  clear hc i1 i2 hb
  refine HC.out.mono ?_
  rintro e w4 ⟨rfl, hl, hk⟩
  have HL4 := Lib.hid hl
  have hzz := HL3.out.size
  have HB4 := Lib.hid ((HB3.out.trans (HBB.out.mono (Nat.le_trans hz0 hz3))).trans ((hk.toBelow (Nat.le_trans hzz HBB.out.size)).mono hz0))
  have hz4 : w0.heap.size ≤ w4.heap.size := Nat.le_trans hz3 (Nat.le_trans HBB.out.size hk.size)
  clear HC HBB hl hk hzz HL3 HB3 hz3
  go_wp2_with fail
  have hb := below_alloc w4 (.cells #[.int .i64 (m : Int), .int .i64 (m : Int)] 3)
  have i1 := (ints_new w4 [(m : Int), (m : Int)] 3).mono (O' := fun g => w4.heap.size ≤ g ∨ g < w0.heap.size ∨ False) (fun _ h => .inl h)
  have i2 := True.intro
  have hc := forget_in w0.heap.size (w0.heap.size + 1) _ _ [(m : Int), (m : Int)] w4 _ HL4.out hb (fun _ h => h.elim) i1 (by simp) HW3.out
  rw [HF.out.n4, HF.out.e4, HF.out.l4] at hc
  have HC := Lib.hid hc
  have HBB := Lib.hid hb
  clear hc i1 i2 hb
  refine HC.out.mono ?_
  rintro e w5 ⟨rfl, hl, hk⟩
  have HL5 := Lib.hid hl
  have hzz := HL4.out.size
  have HB5 := Lib.hid ((HB4.out.trans (HBB.out.mono (Nat.le_trans hz0 hz4))).trans ((hk.toBelow (Nat.le_trans hzz HBB.out.size)).mono hz0))
  have hz5 : w0.heap.size ≤ w5.heap.size := Nat.le_trans hz4 (Nat.le_trans HBB.out.size hk.size)
  clear HC HBB hl hk hzz HL4 HB4 hz4
  go_wp2_with fail
  refine (log_count _ _ _ HL5.out.1).mono ?_
  rintro e w' ⟨rfl, rfl⟩
  rw [show (newLog m).count = m from rfl]
  go_wp2_with fail
  refine (log_last _ _ _ HL5.out.1).mono ?_
  rintro e w' ⟨rfl, rfl⟩
  rw [show (newLog m).last = m from rfl]
  go_wp2_with fail
  refine (log_steps _ _ _ HL5.out.1 HL5.out.2.1.ok).mono ?_
  rintro e w6 ⟨v, ms, rfl, hst, _, hb⟩
  obtain ⟨As, cs, rfl, _⟩ := own_slice hst.row
  have hms : ms.length = 0 := by
    have := congrArg List.length hst.steps
    simpa [newLog] using this
  have HL6 := Lib.hid (HL5.out.below hb)
  have HB6 := Lib.hid (HB5.out.trans (hb.mono (Nat.le_trans hz0 hz5)))
  have hz6 := Nat.le_trans hz5 hb.size
  rw [hms]
  clear hst hb hms HL5 HB5 hz5
  go_wp2_with fail
  have hb := Below.refl w6.heap.size w6
  have i1 := IntsIn.nil (fun g => w6.heap.size ≤ g ∨ g < w0.heap.size ∨ False) w6
  have i2 := i1
  have hc := learn_in w0.heap.size (w0.heap.size + 1) _ _ _ [] [] w6 _ HL6.out hb (fun _ h => h.elim) i1 i2 (by simp) (by simp) (fun _ h => by cases h)
  rw [HF.out.n5, HF.out.e5, HF.out.l5] at hc
  have HC := Lib.hid hc
  have HBB := Lib.hid hb
  clear hc i1 i2 hb
  refine HC.out.mono ?_
  rintro e w7 ⟨rfl, hl, hk⟩
  have HL7 := Lib.hid hl
  have hzz := HL6.out.size
  have HB7 := Lib.hid ((HB6.out.trans (HBB.out.mono (Nat.le_trans hz0 hz6))).trans ((hk.toBelow (Nat.le_trans hzz HBB.out.size)).mono hz0))
  have hz7 : w0.heap.size ≤ w7.heap.size := Nat.le_trans hz6 (Nat.le_trans HBB.out.size hk.size)
  clear HC HBB hl hk hzz HL6 HB6 hz6
  go_wp2_with fail
  have hb := below_alloc2 w7 (.cells #[.int .i64 (0 : Int)] 27) (.cells #[.int .i64 (max n ((m : Int) + 1))] 3)
  have i1 := ((ints_new w7 [(0 : Int)] 27).below (below_alloc _ (.cells #[.int .i64 (max n ((m : Int) + 1))] 3))).mono (O' := fun g => w7.heap.size ≤ g ∨ g < w0.heap.size ∨ False) (fun _ h => .inl h)
  have i2 := (ints_new (w7.alloc (.cells #[.int .i64 (0 : Int)] 27)) [(max n ((m : Int) + 1))] 3).mono (O' := fun g => w7.heap.size ≤ g ∨ g < w0.heap.size ∨ False) (fun g h => .inl (Nat.le_trans (by simp) h))
  rw [World.size_alloc] at i2
  have hc := learn_in w0.heap.size (w0.heap.size + 1) _ _ _ [(0 : Int)] [(max n ((m : Int) + 1))] w7 _ HL7.out hb (fun _ h => h.elim) i1 i2 (by simp) (by simp) HW1.out
  rw [HF.out.n6, HF.out.e6, HF.out.l6] at hc
  have HC := Lib.hid hc
  have HBB := Lib.hid hb
  clear hc i1 i2 hb
  refine HC.out.mono ?_
  rintro e w8 ⟨rfl, hl, hk⟩
  have HL8 := Lib.hid hl
  have hzz := HL7.out.size
  have HB8 := Lib.hid ((HB7.out.trans (HBB.out.mono (Nat.le_trans hz0 hz7))).trans ((hk.toBelow (Nat.le_trans hzz HBB.out.size)).mono hz0))
  have hz8 : w0.heap.size ≤ w8.heap.size := Nat.le_trans hz7 (Nat.le_trans HBB.out.size hk.size)
  clear HC HBB hl hk hzz HL7 HB7 hz7
  go_wp2_with fail
  have hb := below_alloc w8 (.cells #[.int .i64 (max n ((m : Int) + 1))] 3)
  have i1 := (ints_new w8 [(max n ((m : Int) + 1))] 3).mono (O' := fun g => w8.heap.size ≤ g ∨ g < w0.heap.size ∨ False) (fun _ h => .inl h)
  have i2 := True.intro
  have hc := forget_in w0.heap.size (w0.heap.size + 1) _ _ [(max n ((m : Int) + 1))] w8 _ HL8.out hb (fun _ h => h.elim) i1 (by simp) HW1.out
  rw [HF.out.n7, HF.out.e7, HF.out.l7] at hc
  have HC := Lib.hid hc
  have HBB := Lib.hid hb
  clear hc i1 i2 hb
  refine HC.out.mono ?_
  rintro e w9 ⟨rfl, hl, hk⟩
  have HL9 := Lib.hid hl
  have hzz := HL8.out.size
  have HB9 := Lib.hid ((HB8.out.trans (HBB.out.mono (Nat.le_trans hz0 hz8))).trans ((hk.toBelow (Nat.le_trans hzz HBB.out.size)).mono hz0))
  have hz9 : w0.heap.size ≤ w9.heap.size := Nat.le_trans hz8 (Nat.le_trans HBB.out.size hk.size)
  clear HC HBB hl hk hzz HL8 HB8 hz8
  go_wp2_with fail
  refine (log_count _ _ _ HL9.out.1).mono ?_
  rintro e w' ⟨rfl, rfl⟩
  rw [show ((((newLog m).learn [] []).count : Nat) : Int) = (m : Int) + 1 from rfl]
  go_wp2_with fail
  go_ret
  exact ⟨rfl, HB9.out⟩
set_option maxRecDepth 100000 in
set_option maxHeartbeats 4000000 in
theorem emitWrong3 (n : Int) (f : Int) (w : World) (ht : TabW w) (hn : Rng n) (hf0 : 0 ≤ f) (hf1 : f ≤ 255) (hl : litB n = false) (ho : n < 1) : Calls Tryd.prog 3 #[.int .i64 n, .int .u8 f] w fun e w' => e = .returned (.bool true) ∧ Below w.heap.size w w' := by
  have HA := Lib.hid (awake_any w ht)
  obtain ⟨hn1, hn2⟩ := hn
  have HR := fun w => right_lit n w
  rw [hl] at HR
  have HR := Lib.hid HR
  obtain ⟨m, hm, hm1, hm2⟩ : ∃ m : Nat, 1 + f % 20 = (m : Int) ∧ 1 ≤ m ∧ m ≤ 20 := ⟨(1 + f % 20).toNat, by omega, by omega, by omega⟩
  have HMM := Lib.hid hm
  have HF := Lib.hid (wrongFacts m n n hm1 hm2 hl (by omega))
  have hwf : (Lit.int .i64 n).wf = true := wf64 (by omega) (by omega)
  have hwm : (Lit.int .i64 (m : Int)).wf = true := wf64 (by omega) (by omega)
  have hw1 : (Lit.int .i64 1).wf = true := by decide
  have HW1 := Lib.hid (show ∀ x ∈ [n], (Lit.int .i64 x).wf = true from fun x hx => by
    obtain rfl := List.mem_singleton.1 hx
    exact hwf)
  have HW2 := Lib.hid (show ∀ x ∈ [1, n], (Lit.int .i64 x).wf = true from fun x hx => by
    rcases List.mem_cons.1 hx with rfl | hx
    · exact hw1
    · obtain rfl := List.mem_singleton.1 hx
      exact hwf)
  have HW3 := Lib.hid (show ∀ x ∈ [(m : Int), (m : Int)], (Lit.int .i64 x).wf = true from fun x hx => by
    rcases List.mem_cons.1 hx with rfl | hx
    · exact hwm
    · obtain rfl := List.mem_singleton.1 hx
      exact hwm)
  have hmle : m ≤ 1048576 := by omega
  clear ht hl hm hwf hwm hw1
  go_enter Tryd.func3, Tryd.ntmps3
  go_wp2_with fail
  refine HA.out.mono ?_
  rintro e w0 ⟨rfl, hb0⟩
  have HB0 := Lib.hid hb0
  have hz0 := hb0.size
  clear hb0
  go_wp2_with fail
  refine (new_bad _ _ (.inl (by omega))).mono ?_
  rintro e w' ⟨rfl, rfl⟩
  go_wp2_with fail
  refine (new_bad _ _ (.inr (by omega))).mono ?_
  rintro e w' ⟨rfl, rfl⟩
  go_wp2_with fail
  rw [HMM.out]
  refine (new_in m _ hmle).mono ?_
  rintro e w1 ⟨rfl, hl, hb⟩
  have HL1 := Lib.hid hl
  have HB1 := Lib.hid (HB0.out.trans (hb.mono hz0))
  have hz1 := hb.size
  clear hl hb
  go_wp2_with fail
  refine (HR.out _).mono ?_
  rintro e w' ⟨rfl, rfl⟩
  go_wp2_with fail
  have hb := below_alloc2 w1 (.cells #[.int .i64 n] 27) (.cells #[.int .i64 n] 3)
  have i1 := ((ints_new w1 [n] 27).below (below_alloc _ (.cells #[.int .i64 n] 3))).mono (O' := fun g => w1.heap.size ≤ g ∨ g < w0.heap.size ∨ False) (fun _ h => .inl h)
  have i2 := (ints_new (w1.alloc (.cells #[.int .i64 n] 27)) [n] 3).mono (O' := fun g => w1.heap.size ≤ g ∨ g < w0.heap.size ∨ False) (fun g h => .inl (Nat.le_trans (by simp) h))
  rw [World.size_alloc] at i2
  have hc := learn_in w0.heap.size (w0.heap.size + 1) _ _ _ [n] [n] w1 _ HL1.out hb (fun _ h => h.elim) i1 i2 (by simp) (by simp) HW1.out
  rw [HF.out.n1, HF.out.e1, HF.out.l1] at hc
  have HC := Lib.hid hc
  have HBB := Lib.hid hb
  clear hc i1 i2 hb
  refine HC.out.mono ?_
  rintro e w2 ⟨rfl, hl, hk⟩
  have HL2 := Lib.hid hl
  have hzz := HL1.out.size
  have HB2 := Lib.hid ((HB1.out.trans (HBB.out.mono (Nat.le_trans hz0 hz1))).trans ((hk.toBelow (Nat.le_trans hzz HBB.out.size)).mono hz0))
  have hz2 : w0.heap.size ≤ w2.heap.size := Nat.le_trans hz1 (Nat.le_trans HBB.out.size hk.size)
  clear HC HBB hl hk hzz HL1 HB1 hz1
  go_wp2_with fail
  have hb := below_alloc2 w2 (.cells #[.int .i64 1] 27) (.cells #[.int .i64 1, .int .i64 n] 3)
  have i1 := ((ints_new w2 [1] 27).below (below_alloc _ (.cells #[.int .i64 1, .int .i64 n] 3))).mono (O' := fun g => w2.heap.size ≤ g ∨ g < w0.heap.size ∨ False) (fun _ h => .inl h)
  have i2 := (ints_new (w2.alloc (.cells #[.int .i64 1] 27)) [1, n] 3).mono (O' := fun g => w2.heap.size ≤ g ∨ g < w0.heap.size ∨ False) (fun g h => .inl (Nat.le_trans (by simp) h))
  rw [World.size_alloc] at i2
  have hc := learn_in w0.heap.size (w0.heap.size + 1) _ _ _ [1] [1, n] w2 _ HL2.out hb (fun _ h => h.elim) i1 i2 (by simp) (by simp) HW2.out
  rw [HF.out.n2, HF.out.e2, HF.out.l2] at hc
  have HC := Lib.hid hc
  have HBB := Lib.hid hb
  clear hc i1 i2 hb
  refine HC.out.mono ?_
  rintro e w3 ⟨rfl, hl, hk⟩
  have HL3 := Lib.hid hl
  have hzz := HL2.out.size
  have HB3 := Lib.hid ((HB2.out.trans (HBB.out.mono (Nat.le_trans hz0 hz2))).trans ((hk.toBelow (Nat.le_trans hzz HBB.out.size)).mono hz0))
  have hz3 : w0.heap.size ≤ w3.heap.size := Nat.le_trans hz2 (Nat.le_trans HBB.out.size hk.size)
  clear HC HBB hl hk hzz HL2 HB2 hz2
  go_wp2_with fail
  have hb := below_alloc w3 (.cells #[.int .i64 1, .int .i64 n] 3)
  have i1 := (ints_new w3 [1, n] 3).mono (O' := fun g => w3.heap.size ≤ g ∨ g < w0.heap.size ∨ False) (fun _ h => .inl h)
  have i2 := True.intro
  have hc := forget_in w0.heap.size (w0.heap.size + 1) _ _ [1, n] w3 _ HL3.out hb (fun _ h => h.elim) i1 (by simp) HW2.out
  rw [HF.out.n3, HF.out.e3, HF.out.l3] at hc
  have HC := Lib.hid hc
  have HBB := Lib.hid hb
  clear hc i1 i2 hb
  refine HC.out.mono ?_
  rintro e w4 ⟨rfl, hl, hk⟩
  have HL4 := Lib.hid hl
  have hzz := HL3.out.size
  have HB4 := Lib.hid ((HB3.out.trans (HBB.out.mono (Nat.le_trans hz0 hz3))).trans ((hk.toBelow (Nat.le_trans hzz HBB.out.size)).mono hz0))
  have hz4 : w0.heap.size ≤ w4.heap.size := Nat.le_trans hz3 (Nat.le_trans HBB.out.size hk.size)
  clear HC HBB hl hk hzz HL3 HB3 hz3
  go_wp2_with fail
  have hb := below_alloc w4 (.cells #[.int .i64 (m : Int), .int .i64 (m : Int)] 3)
  have i1 := (ints_new w4 [(m : Int), (m : Int)] 3).mono (O' := fun g => w4.heap.size ≤ g ∨ g < w0.heap.size ∨ False) (fun _ h => .inl h)
  have i2 := True.intro
  have hc := forget_in w0.heap.size (w0.heap.size + 1) _ _ [(m : Int), (m : Int)] w4 _ HL4.out hb (fun _ h => h.elim) i1 (by simp) HW3.out
  rw [HF.out.n4, HF.out.e4, HF.out.l4] at hc
  have HC := Lib.hid hc
  have HBB := Lib.hid hb
  clear hc i1 i2 hb
  refine HC.out.mono ?_
  rintro e w5 ⟨rfl, hl, hk⟩
  have HL5 := Lib.hid hl
  have hzz := HL4.out.size
  have HB5 := Lib.hid ((HB4.out.trans (HBB.out.mono (Nat.le_trans hz0 hz4))).trans ((hk.toBelow (Nat.le_trans hzz HBB.out.size)).mono hz0))
  have hz5 : w0.heap.size ≤ w5.heap.size := Nat.le_trans hz4 (Nat.le_trans HBB.out.size hk.size)
  clear HC HBB hl hk hzz HL4 HB4 hz4
  go_wp2_with fail
  refine (log_count _ _ _ HL5.out.1).mono ?_
  rintro e w' ⟨rfl, rfl⟩
  rw [show (newLog m).count = m from rfl]
  go_wp2_with fail
  refine (log_last _ _ _ HL5.out.1).mono ?_
  rintro e w' ⟨rfl, rfl⟩
  rw [show (newLog m).last = m from rfl]
  go_wp2_with fail
  refine (log_steps _ _ _ HL5.out.1 HL5.out.2.1.ok).mono ?_
  rintro e w6 ⟨v, ms, rfl, hst, _, hb⟩
  obtain ⟨As, cs, rfl, _⟩ := own_slice hst.row
  have hms : ms.length = 0 := by
    have := congrArg List.length hst.steps
    simpa [newLog] using this
  have HL6 := Lib.hid (HL5.out.below hb)
  have HB6 := Lib.hid (HB5.out.trans (hb.mono (Nat.le_trans hz0 hz5)))
  have hz6 := Nat.le_trans hz5 hb.size
  rw [hms]
  clear hst hb hms HL5 HB5 hz5
  go_wp2_with fail
  have hb := Below.refl w6.heap.size w6
  have i1 := IntsIn.nil (fun g => w6.heap.size ≤ g ∨ g < w0.heap.size ∨ False) w6
  have i2 := i1
  have hc := learn_in w0.heap.size (w0.heap.size + 1) _ _ _ [] [] w6 _ HL6.out hb (fun _ h => h.elim) i1 i2 (by simp) (by simp) (fun _ h => by cases h)
  rw [HF.out.n5, HF.out.e5, HF.out.l5] at hc
  have HC := Lib.hid hc
  have HBB := Lib.hid hb
  clear hc i1 i2 hb
  refine HC.out.mono ?_
  rintro e w7 ⟨rfl, hl, hk⟩
  have HL7 := Lib.hid hl
  have hzz := HL6.out.size
  have HB7 := Lib.hid ((HB6.out.trans (HBB.out.mono (Nat.le_trans hz0 hz6))).trans ((hk.toBelow (Nat.le_trans hzz HBB.out.size)).mono hz0))
  have hz7 : w0.heap.size ≤ w7.heap.size := Nat.le_trans hz6 (Nat.le_trans HBB.out.size hk.size)
  clear HC HBB hl hk hzz HL6 HB6 hz6
  go_wp2_with fail
  have hb := below_alloc2 w7 (.cells #[.int .i64 n] 27) (.cells #[.int .i64 n] 3)
  have i1 := ((ints_new w7 [n] 27).below (below_alloc _ (.cells #[.int .i64 n] 3))).mono (O' := fun g => w7.heap.size ≤ g ∨ g < w0.heap.size ∨ False) (fun _ h => .inl h)
  have i2 := (ints_new (w7.alloc (.cells #[.int .i64 n] 27)) [n] 3).mono (O' := fun g => w7.heap.size ≤ g ∨ g < w0.heap.size ∨ False) (fun g h => .inl (Nat.le_trans (by simp) h))
  rw [World.size_alloc] at i2
  have hc := learn_in w0.heap.size (w0.heap.size + 1) _ _ _ [n] [n] w7 _ HL7.out hb (fun _ h => h.elim) i1 i2 (by simp) (by simp) HW1.out
  rw [HF.out.n6, HF.out.e6, HF.out.l6] at hc
  have HC := Lib.hid hc
  have HBB := Lib.hid hb
  clear hc i1 i2 hb
  refine HC.out.mono ?_
  rintro e w8 ⟨rfl, hl, hk⟩
  have HL8 := Lib.hid hl
  have hzz := HL7.out.size
  have HB8 := Lib.hid ((HB7.out.trans (HBB.out.mono (Nat.le_trans hz0 hz7))).trans ((hk.toBelow (Nat.le_trans hzz HBB.out.size)).mono hz0))
  have hz8 : w0.heap.size ≤ w8.heap.size := Nat.le_trans hz7 (Nat.le_trans HBB.out.size hk.size)
  clear HC HBB hl hk hzz HL7 HB7 hz7
  go_wp2_with fail
  have hb := below_alloc w8 (.cells #[.int .i64 n] 3)
  have i1 := (ints_new w8 [n] 3).mono (O' := fun g => w8.heap.size ≤ g ∨ g < w0.heap.size ∨ False) (fun _ h => .inl h)
  have i2 := True.intro
  have hc := forget_in w0.heap.size (w0.heap.size + 1) _ _ [n] w8 _ HL8.out hb (fun _ h => h.elim) i1 (by simp) HW1.out
  rw [HF.out.n7, HF.out.e7, HF.out.l7] at hc
  have HC := Lib.hid hc
  have HBB := Lib.hid hb
  clear hc i1 i2 hb
  refine HC.out.mono ?_
  rintro e w9 ⟨rfl, hl, hk⟩
  have HL9 := Lib.hid hl
  have hzz := HL8.out.size
  have HB9 := Lib.hid ((HB8.out.trans (HBB.out.mono (Nat.le_trans hz0 hz8))).trans ((hk.toBelow (Nat.le_trans hzz HBB.out.size)).mono hz0))
  have hz9 : w0.heap.size ≤ w9.heap.size := Nat.le_trans hz8 (Nat.le_trans HBB.out.size hk.size)
  clear HC HBB hl hk hzz HL8 HB8 hz8
  go_wp2_with fail
  refine (log_count _ _ _ HL9.out.1).mono ?_
  rintro e w' ⟨rfl, rfl⟩
  rw [show ((((newLog m).learn [] []).count : Nat) : Int) = (m : Int) + 1 from rfl]
  go_wp2_with fail
  go_ret
  exact ⟨rfl, HB9.out⟩
set_option maxRecDepth 100000 in
set_option maxHeartbeats 4000000 in
theorem emitWrong4 (n : Int) (f : Int) (w : World) (ht : TabW w) (hn : Rng n) (hf0 : 0 ≤ f) (hf1 : f ≤ 255) (hl : litB n = false) (ho : ¬ n < 1) : Calls Tryd.prog 3 #[.int .i64 n, .int .u8 f] w fun e w' => e = .returned (.bool true) ∧ Below w.heap.size w w' := by
  have HA := Lib.hid (awake_any w ht)
  obtain ⟨hn1, hn2⟩ := hn
  have HR := fun w => right_lit n w
  rw [hl] at HR
  have HR := Lib.hid HR
  obtain ⟨m, hm, hm1, hm2⟩ : ∃ m : Nat, 1 + f % 20 = (m : Int) ∧ 1 ≤ m ∧ m ≤ 20 := ⟨(1 + f % 20).toNat, by omega, by omega, by omega⟩
  have HMM := Lib.hid hm
  have HF := Lib.hid (wrongFacts m n (max n ((m : Int) + 1)) hm1 hm2 hl (by omega))
  have hwf : (Lit.int .i64 (max n ((m : Int) + 1))).wf = true := wf64 (by omega) (by omega)
  have hwm : (Lit.int .i64 (m : Int)).wf = true := wf64 (by omega) (by omega)
  have hw1 : (Lit.int .i64 1).wf = true := by decide
  have HW1 := Lib.hid (show ∀ x ∈ [(max n ((m : Int) + 1))], (Lit.int .i64 x).wf = true from fun x hx => by
    obtain rfl := List.mem_singleton.1 hx
    exact hwf)
  have HW2 := Lib.hid (show ∀ x ∈ [1, (max n ((m : Int) + 1))], (Lit.int .i64 x).wf = true from fun x hx => by
    rcases List.mem_cons.1 hx with rfl | hx
    · exact hw1
    · obtain rfl := List.mem_singleton.1 hx
      exact hwf)
  have HW3 := Lib.hid (show ∀ x ∈ [(m : Int), (m : Int)], (Lit.int .i64 x).wf = true from fun x hx => by
    rcases List.mem_cons.1 hx with rfl | hx
    · exact hwm
    · obtain rfl := List.mem_singleton.1 hx
      exact hwm)
  have hmle : m ≤ 1048576 := by omega
  clear ht hl hm hwf hwm hw1
  go_enter Tryd.func3, Tryd.ntmps3
  go_wp2_with fail
  refine HA.out.mono ?_
  rintro e w0 ⟨rfl, hb0⟩
  have HB0 := Lib.hid hb0
  have hz0 := hb0.size
  clear hb0
  go_wp2_with fail
  refine (new_bad _ _ (.inl (by omega))).mono ?_
  rintro e w' ⟨rfl, rfl⟩
  go_wp2_with fail
  refine (new_bad _ _ (.inr (by omega))).mono ?_
  rintro e w' ⟨rfl, rfl⟩
  go_wp2_with fail
  rw [HMM.out]
  refine (new_in m _ hmle).mono ?_
  rintro e w1 ⟨rfl, hl, hb⟩
  have HL1 := Lib.hid hl
  have HB1 := Lib.hid (HB0.out.trans (hb.mono hz0))
  have hz1 := hb.size
  clear hl hb
  go_wp2_with fail
  refine (HR.out _).mono ?_
  rintro e w' ⟨rfl, rfl⟩
  go_wp2_with fail
  have hb := below_alloc2 w1 (.cells #[.int .i64 n] 27) (.cells #[.int .i64 (max n ((m : Int) + 1))] 3)
  have i1 := ((ints_new w1 [n] 27).below (below_alloc _ (.cells #[.int .i64 (max n ((m : Int) + 1))] 3))).mono (O' := fun g => w1.heap.size ≤ g ∨ g < w0.heap.size ∨ False) (fun _ h => .inl h)
  have i2 := (ints_new (w1.alloc (.cells #[.int .i64 n] 27)) [(max n ((m : Int) + 1))] 3).mono (O' := fun g => w1.heap.size ≤ g ∨ g < w0.heap.size ∨ False) (fun g h => .inl (Nat.le_trans (by simp) h))
  rw [World.size_alloc] at i2
  have hc := learn_in w0.heap.size (w0.heap.size + 1) _ _ _ [n] [(max n ((m : Int) + 1))] w1 _ HL1.out hb (fun _ h => h.elim) i1 i2 (by simp) (by simp) HW1.out
  rw [HF.out.n1, HF.out.e1, HF.out.l1] at hc
  have HC := Lib.hid hc
  have HBB := Lib.hid hb
  clear hc i1 i2 hb
  refine HC.out.mono ?_
  rintro e w2 ⟨rfl, hl, hk⟩
  have HL2 := Lib.hid hl
  have hzz := HL1.out.size
  have HB2 := Lib.hid ((HB1.out.trans (HBB.out.mono (Nat.le_trans hz0 hz1))).trans ((hk.toBelow (Nat.le_trans hzz HBB.out.size)).mono hz0))
  have hz2 : w0.heap.size ≤ w2.heap.size := Nat.le_trans hz1 (Nat.le_trans HBB.out.size hk.size)
  clear HC HBB hl hk hzz HL1 HB1 hz1
  go_wp2_with fail
  have hb := below_alloc2 w2 (.cells #[.int .i64 1] 27) (.cells #[.int .i64 1, .int .i64 (max n ((m : Int) + 1))] 3)
  have i1 := ((ints_new w2 [1] 27).below (below_alloc _ (.cells #[.int .i64 1, .int .i64 (max n ((m : Int) + 1))] 3))).mono (O' := fun g => w2.heap.size ≤ g ∨ g < w0.heap.size ∨ False) (fun _ h => .inl h)
  have i2 := (ints_new (w2.alloc (.cells #[.int .i64 1] 27)) [1, (max n ((m : Int) + 1))] 3).mono (O' := fun g => w2.heap.size ≤ g ∨ g < w0.heap.size ∨ False) (fun g h => .inl (Nat.le_trans (by simp) h))
  rw [World.size_alloc] at i2
  have hc := learn_in w0.heap.size (w0.heap.size + 1) _ _ _ [1] [1, (max n ((m : Int) + 1))] w2 _ HL2.out hb (fun _ h => h.elim) i1 i2 (by simp) (by simp) HW2.out
  rw [HF.out.n2, HF.out.e2, HF.out.l2] at hc
  have HC := Lib.hid hc
  have HBB := Lib.hid hb
  clear hc i1 i2 hb
  refine HC.out.mono ?_
  rintro e w3 ⟨rfl, hl, hk⟩
  have HL3 := Lib.hid hl
  have hzz := HL2.out.size
  have HB3 := Lib.hid ((HB2.out.trans (HBB.out.mono (Nat.le_trans hz0 hz2))).trans ((hk.toBelow (Nat.le_trans hzz HBB.out.size)).mono hz0))
  have hz3 : w0.heap.size ≤ w3.heap.size := Nat.le_trans hz2 (Nat.le_trans HBB.out.size hk.size)
  clear HC HBB hl hk hzz HL2 HB2 hz2
  go_wp2_with fail
  have hb := below_alloc w3 (.cells #[.int .i64 1, .int .i64 (max n ((m : Int) + 1))] 3)
  have i1 := (ints_new w3 [1, (max n ((m : Int) + 1))] 3).mono (O' := fun g => w3.heap.size ≤ g ∨ g < w0.heap.size ∨ False) (fun _ h => .inl h)
  have i2 := True.intro
  have hc := forget_in w0.heap.size (w0.heap.size + 1) _ _ [1, (max n ((m : Int) + 1))] w3 _ HL3.out hb (fun _ h => h.elim) i1 (by simp) HW2.out
  rw [HF.out.n3, HF.out.e3, HF.out.l3] at hc
  have HC := Lib.hid hc
  have HBB := Lib.hid hb
  clear hc i1 i2 hb
  refine HC.out.mono ?_
  rintro e w4 ⟨rfl, hl, hk⟩
  have HL4 := Lib.hid hl
  have hzz := HL3.out.size
  have HB4 := Lib.hid ((HB3.out.trans (HBB.out.mono (Nat.le_trans hz0 hz3))).trans ((hk.toBelow (Nat.le_trans hzz HBB.out.size)).mono hz0))
  have hz4 : w0.heap.size ≤ w4.heap.size := Nat.le_trans hz3 (Nat.le_trans HBB.out.size hk.size)
  clear HC HBB hl hk hzz HL3 HB3 hz3
  go_wp2_with fail
  have hb := below_alloc w4 (.cells #[.int .i64 (m : Int), .int .i64 (m : Int)] 3)
  have i1 := (ints_new w4 [(m : Int), (m : Int)] 3).mono (O' := fun g => w4.heap.size ≤ g ∨ g < w0.heap.size ∨ False) (fun _ h => .inl h)
  have i2 := True.intro
  have hc := forget_in w0.heap.size (w0.heap.size + 1) _ _ [(m : Int), (m : Int)] w4 _ HL4.out hb (fun _ h => h.elim) i1 (by simp) HW3.out
  rw [HF.out.n4, HF.out.e4, HF.out.l4] at hc
  have HC := Lib.hid hc
  have HBB := Lib.hid hb
  clear hc i1 i2 hb
  refine HC.out.mono ?_
  rintro e w5 ⟨rfl, hl, hk⟩
  have HL5 := Lib.hid hl
  have hzz := HL4.out.size
  have HB5 := Lib.hid ((HB4.out.trans (HBB.out.mono (Nat.le_trans hz0 hz4))).trans ((hk.toBelow (Nat.le_trans hzz HBB.out.size)).mono hz0))
  have hz5 : w0.heap.size ≤ w5.heap.size := Nat.le_trans hz4 (Nat.le_trans HBB.out.size hk.size)
  clear HC HBB hl hk hzz HL4 HB4 hz4
  go_wp2_with fail
  refine (log_count _ _ _ HL5.out.1).mono ?_
  rintro e w' ⟨rfl, rfl⟩
  rw [show (newLog m).count = m from rfl]
  go_wp2_with fail
  refine (log_last _ _ _ HL5.out.1).mono ?_
  rintro e w' ⟨rfl, rfl⟩
  rw [show (newLog m).last = m from rfl]
  go_wp2_with fail
  refine (log_steps _ _ _ HL5.out.1 HL5.out.2.1.ok).mono ?_
  rintro e w6 ⟨v, ms, rfl, hst, _, hb⟩
  obtain ⟨As, cs, rfl, _⟩ := own_slice hst.row
  have hms : ms.length = 0 := by
    have := congrArg List.length hst.steps
    simpa [newLog] using this
  have HL6 := Lib.hid (HL5.out.below hb)
  have HB6 := Lib.hid (HB5.out.trans (hb.mono (Nat.le_trans hz0 hz5)))
  have hz6 := Nat.le_trans hz5 hb.size
  rw [hms]
  clear hst hb hms HL5 HB5 hz5
  go_wp2_with fail
  have hb := Below.refl w6.heap.size w6
  have i1 := IntsIn.nil (fun g => w6.heap.size ≤ g ∨ g < w0.heap.size ∨ False) w6
  have i2 := i1
  have hc := learn_in w0.heap.size (w0.heap.size + 1) _ _ _ [] [] w6 _ HL6.out hb (fun _ h => h.elim) i1 i2 (by simp) (by simp) (fun _ h => by cases h)
  rw [HF.out.n5, HF.out.e5, HF.out.l5] at hc
  have HC := Lib.hid hc
  have HBB := Lib.hid hb
  clear hc i1 i2 hb
  refine HC.out.mono ?_
  rintro e w7 ⟨rfl, hl, hk⟩
  have HL7 := Lib.hid hl
  have hzz := HL6.out.size
  have HB7 := Lib.hid ((HB6.out.trans (HBB.out.mono (Nat.le_trans hz0 hz6))).trans ((hk.toBelow (Nat.le_trans hzz HBB.out.size)).mono hz0))
  have hz7 : w0.heap.size ≤ w7.heap.size := Nat.le_trans hz6 (Nat.le_trans HBB.out.size hk.size)
  clear HC HBB hl hk hzz HL6 HB6 hz6
  go_wp2_with fail
  have hb := below_alloc2 w7 (.cells #[.int .i64 n] 27) (.cells #[.int .i64 (max n ((m : Int) + 1))] 3)
  have i1 := ((ints_new w7 [n] 27).below (below_alloc _ (.cells #[.int .i64 (max n ((m : Int) + 1))] 3))).mono (O' := fun g => w7.heap.size ≤ g ∨ g < w0.heap.size ∨ False) (fun _ h => .inl h)
  have i2 := (ints_new (w7.alloc (.cells #[.int .i64 n] 27)) [(max n ((m : Int) + 1))] 3).mono (O' := fun g => w7.heap.size ≤ g ∨ g < w0.heap.size ∨ False) (fun g h => .inl (Nat.le_trans (by simp) h))
  rw [World.size_alloc] at i2
  have hc := learn_in w0.heap.size (w0.heap.size + 1) _ _ _ [n] [(max n ((m : Int) + 1))] w7 _ HL7.out hb (fun _ h => h.elim) i1 i2 (by simp) (by simp) HW1.out
  rw [HF.out.n6, HF.out.e6, HF.out.l6] at hc
  have HC := Lib.hid hc
  have HBB := Lib.hid hb
  clear hc i1 i2 hb
  refine HC.out.mono ?_
  rintro e w8 ⟨rfl, hl, hk⟩
  have HL8 := Lib.hid hl
  have hzz := HL7.out.size
  have HB8 := Lib.hid ((HB7.out.trans (HBB.out.mono (Nat.le_trans hz0 hz7))).trans ((hk.toBelow (Nat.le_trans hzz HBB.out.size)).mono hz0))
  have hz8 : w0.heap.size ≤ w8.heap.size := Nat.le_trans hz7 (Nat.le_trans HBB.out.size hk.size)
  clear HC HBB hl hk hzz HL7 HB7 hz7
  go_wp2_with fail
  have hb := below_alloc w8 (.cells #[.int .i64 (max n ((m : Int) + 1))] 3)
  have i1 := (ints_new w8 [(max n ((m : Int) + 1))] 3).mono (O' := fun g => w8.heap.size ≤ g ∨ g < w0.heap.size ∨ False) (fun _ h => .inl h)
  have i2 := True.intro
  have hc := forget_in w0.heap.size (w0.heap.size + 1) _ _ [(max n ((m : Int) + 1))] w8 _ HL8.out hb (fun _ h => h.elim) i1 (by simp) HW1.out
  rw [HF.out.n7, HF.out.e7, HF.out.l7] at hc
  have HC := Lib.hid hc
  have HBB := Lib.hid hb
  clear hc i1 i2 hb
  refine HC.out.mono ?_
  rintro e w9 ⟨rfl, hl, hk⟩
  have HL9 := Lib.hid hl
  have hzz := HL8.out.size
  have HB9 := Lib.hid ((HB8.out.trans (HBB.out.mono (Nat.le_trans hz0 hz8))).trans ((hk.toBelow (Nat.le_trans hzz HBB.out.size)).mono hz0))
  have hz9 : w0.heap.size ≤ w9.heap.size := Nat.le_trans hz8 (Nat.le_trans HBB.out.size hk.size)
  clear HC HBB hl hk hzz HL8 HB8 hz8
  go_wp2_with fail
  refine (log_count _ _ _ HL9.out.1).mono ?_
  rintro e w' ⟨rfl, rfl⟩
  rw [show ((((newLog m).learn [] []).count : Nat) : Int) = (m : Int) + 1 from rfl]
  go_wp2_with fail
  go_ret
  exact ⟨rfl, HB9.out⟩
theorem emitWrong_any (n : Int) (f : Int) (w : World) (ht : TabW w) (hn : Rng n) (hf0 : 0 ≤ f) (hf1 : f ≤ 255) : Calls Tryd.prog 3 #[.int .i64 n, .int .u8 f] w fun e w' => e = .returned (.bool true) ∧ Below w.heap.size w w' := by
  cases hl : litB n
  · by_cases ho : n < 1
    · exact emitWrong3 n f w ht hn hf0 hf1 hl ho
    · exact emitWrong4 n f w ht hn hf0 hf1 hl ho
  · by_cases ho : n < 1
    · exact emitWrong1 n f w ht hn hf0 hf1 hl ho
    · exact emitWrong2 n f w ht hn hf0 hf1 hl ho
end Go.Proofs.YtkioeogjcjnojaaDoor
