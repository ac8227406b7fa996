/- EmitThere: the walk, where there are at most 30 rows. -/
import Derived.Test.YtkioeogjcjnojaaDoorEx
namespace Go.Proofs.YtkioeogjcjnojaaDoor
open Go.RowKit

set_option maxRecDepth 100000 in
set_option maxHeartbeats 8000000 in
theorem there_short (f : Int) (lv iv : Value) (xss : List (List Int)) (ids : List Int) (w : World) (ht : TabW w) (hf0 : 0 ≤ f) (hf1 : f ≤ 255) (hl : RowsAt .i8 w lv xss) (hi : RowAt .u8 w iv ids) (h30 : (xss.length : Int) ≤ 30) :
    Calls Tryd.prog 4 #[.int .u8 f, lv, iv] w fun e w' => e = .returned (.bool true) ∧ Below w.heap.size w w' := by
  have hmm := @run_makeMap Tryd.prog
  have HA := Lib.hid (awake_any w ht)
  have HLV := Lib.hid hl
  have HIV := Lib.hid hi
  obtain ⟨A, c, rfl, hc, hmx, _, _⟩ := hl
  obtain ⟨A', c', rfl, hc', hmx', _, _, _⟩ := hi
  unfold maxLen at hmx hmx'
  obtain ⟨m, hm, hm2⟩ : ∃ m : Nat, f % 20 = (m : Int) ∧ m ≤ 19 := ⟨(f % 20).toNat, by omega, by omega⟩
  have HMM := Lib.hid hm
  have hmle : m ≤ 1048576 := by omega
  clear ht hm
  go_enter Tryd.func4, Tryd.ntmps4
  go_wp2_with fail
  refine HA.out.mono ?_
  rintro e w0 ⟨rfl, hb0⟩
  have HB0 := Lib.hid hb0
  have hz0 := hb0.size
  clear hb0
  go_wp2_with fail
  rw [HMM.out]
  refine (new_in m _ hmle).mono ?_
  rintro e w1 ⟨rfl, hl, hb⟩
  have HL1 := Lib.hid hl
  have HB1 := Lib.hid hb
  have hz1 := hb.size
  clear hl hb
  go_wp2_with fail
  obtain ⟨W0, hW0⟩ : ∃ W0, w1.alloc (.map #[] 0) = W0 := ⟨_, rfl⟩
  have HMB := Lib.hid (show SetM W0 w1.heap.size 0 (fun _ => false) 0 by rw [← hW0]; exact SetM.made w1)
  have HBW := Lib.hid (show Below w1.heap.size w1 W0 by rw [← hW0]; exact below_alloc _ _)
  have HZW := Lib.hid (show W0.heap.size = w1.heap.size + 1 by rw [← hW0]; simp)
  rw [hW0]
  clear hW0
  go_loopw [11] (fun t wr => ∃ k : Nat, k ≤ m ∧ t = .int .i64 ((k : Int) + 1) ∧ Hid (SetM wr w1.heap.size k (fun x => decide (1 ≤ x ∧ x ≤ (k : Int))) k) ∧ Hid (Kept (fun g => g = w1.heap.size) W0 wr)) (fun t _ => m + 1 - (intOf t).toNat)
  case atStart => exact ⟨0, Nat.zero_le _, by go_num, Lib.hid (HMB.out.congr (fun x => by simp; omega) rfl), Lib.hid (Kept.refl _ _)⟩
  case round =>
    obtain ⟨k, hk, rfl, HS, HK⟩ := hrel
    by_cases hlt : k < m
    · have hle : decide ((k : Int) + 1 ≤ (m : Int)) = true := by simp; omega
      have HWK := Lib.hid (show (Lit.int .i64 ((k : Int) + 1)).wf = true from wf64 (by omega) (by omega))
      have HLT := Lib.hid hlt
      clear hlt
      go_wp2_with (at_mapUpdate; refine wpList_add HS.out rfl _ _ _ rfl rfl (by unfold maxLen; omega) ((k : Int) + 1) rfl rfl HWK.out ?_; intro w4 hs4 hg4)
      have hs5 : SetM w4 w1.heap.size (k + 1) (fun x => decide (1 ≤ x ∧ x ≤ ((k + 1 : Nat) : Int))) (k + 1) := hs4.congr (fun x => by
        by_cases hx : x = (k : Int) + 1
        · subst hx; simp; omega
        · rw [show (x == (k : Int) + 1) = false by simpa using hx, Bool.false_or]
          apply decide_eq_decide.2
          omega) (by rw [if_neg (by simp; omega)])
      have HS5 := Lib.hid hs5
      have HK5 := Lib.hid (HK.out.trans (Kept.grown hg4) (fun g _ h => by cases h; rfl))
      clear hs4 hs5 hg4
      go_wp2
      have hlt := HLT.out
      go_roundw
      case rel => exact ⟨k + 1, by omega, by go_num, HS5, HK5⟩
      case measure => simp [intOf]; omega
    · obtain rfl : k = m := by omega
      have hzk := HK.out.size
      have hzW := HZW.out
      have hL0 : LogIn (fun g => g = w1.heap.size) w0.heap.size wr (w0.heap.size + 1) (newLog k) := by
        refine ⟨((HL1.out.1.below HBW.out).kept HK.out (fun g hg e => by have := hg.2.1; omega)).mono (fun g hg => ⟨hg.1, by have := hg.2.1; omega, by have := hg.2.1; omega⟩) (fun g hg => hg.2.1), HL1.out.2.1, by omega⟩
      have hS0 : SetM wr w1.heap.size k (newLog k).has (newLog k).count := HS.out.congr (fun x => by unfold ELog.has newLog; simp) rfl
      have hB0 : Below w0.heap.size w0 wr := (HB1.out.trans (HBW.out.mono hz1)).trans (HK.out.below (fun g hg => by omega) (by omega))
      have HL0 := Lib.hid hL0
      have HS0 := Lib.hid hS0
      have HBB := Lib.hid hB0
      have hmb : w1.heap.size < wr.heap.size := by omega
      have hmb0 : w0.heap.size ≤ w1.heap.size := hz1
      clear hL0 hS0 hB0 HS HK
      obtain ⟨mb, hmbe⟩ : ∃ mb, w1.heap.size = mb := ⟨_, rfl⟩
      rw [hmbe] at HL0 HS0 hmb hmb0 ⊢
      clear hmbe HL1 HB1 HMB HBW hzW HZW hzk hz1
      go_wp2_with fail
      go_loopw [12, 52] (fun t i wr => ∃ (j : Nat) (L : ELog) (nn : Nat), j ≤ xss.length ∧ j ≤ 30 ∧ i = .int .i64 j ∧ t = .int .i64 L.last ∧ Hid (LogIn (fun g => g = mb) w0.heap.size wr (w0.heap.size + 1) L) ∧ Hid (ThereOk j L) ∧ Hid (SetM wr mb nn L.has L.count) ∧ nn ≤ 20 + j ∧ Hid (Below w0.heap.size w0 wr) ∧ mb < wr.heap.size) (fun _ i _ => xss.length - (intOf i).toNat)
      case atStart => exact ⟨0, newLog k, k, Nat.zero_le _, Nat.zero_le _, rfl, rfl, HL0, Lib.hid ⟨inv_new k (by omega), Nat.zero_le _, (fun s hs => by cases hs), by show k ≤ _; omega⟩, HS0, by omega, HBB, hmb⟩
      case round =>
        clear HL0 HS0 HBB hmb
        rename_i wr0 _ _ _ _
        obtain ⟨j, L, nn, hj, hj30, rfl, rfl, HL, HO, HS, hnn, HBr, hmb⟩ := hrel
        have hBw : Below w.heap.size w wr := HB0.out.trans (HBr.out.mono hz0)
        by_cases hlt : j < xss.length
        · obtain ⟨x, hxj⟩ := getElem_of (show j < xss.length by omega)
          obtain ⟨A1, c1, hAc, _, _, _, hxs⟩ := HLV.out
          simp only [Value.slice.injEq, true_and] at hAc
          obtain ⟨rfl, rfl⟩ := hAc
          obtain ⟨g, o, u, rfl, hg, d0, hrow⟩ := hxs j x hxj
          have d1 := (hBw.cell (p := ⟨g, o + j, none⟩) hg).trans d0
          have hrow1 := hrow.below hBw
          obtain ⟨Ax, cx, hux, _⟩ := id hrow1
          rw [hux] at d1 hrow1
          rw [hux] at hrow
          have HROW := Lib.hid hrow
          have HBW := Lib.hid hBw
          have HHJ := Lib.hid (show j < xss.length from hlt)
          have hjm : decide ((j : Int) < (xss.length : Int)) = true := by simp; omega
          clear hxs d0 hrow hrow1 hux hxj hBw
          go_upto_if 60 with fail
          go_cut [15] (fun s15 wx => ∃ old : Int, 0 ≤ old ∧ old ≤ 39 ∧ s15 = .int .i64 old ∧ Hid (wx = wr))
          case first =>
            by_cases hki : j < ids.length
            · obtain ⟨y, hyj⟩ := getElem_of hki
              obtain ⟨A2, c2, hAc, _, _, _, hwy, hys⟩ := HIV.out.below HBW.out
              simp only [Value.slice.injEq, true_and] at hAc
              obtain ⟨rfl, rfl⟩ := hAc
              obtain ⟨g2, o2, rfl, hg2, e0⟩ := hys j y hyj
              have hy8 := u8_rng (hwy y (List.mem_of_getElem? hyj))
              obtain ⟨hy1, hy2⟩ := hy8
              clear hwy hys hyj
              go_wp2_with fail
              go_meet
              exact ⟨y % 40, by omega, by omega, rfl, Lib.hid rfl⟩
            · go_wp2_with fail
              go_meet
              exact ⟨0, by omega, by omega, rfl, Lib.hid rfl⟩
          case rest =>
            obtain ⟨old, ho1, ho2, rfl, HWX⟩ := hcut
            have hwx := HWX.out
            subst hwx
            have HWO := Lib.hid (show (Lit.int .i64 old).wf = true from wf64 (by omega) (by omega))
            have hb := below_alloc wc (.cells #[.int .i64 old] 3)
            have i1 := (ints_new wc [old] 3).mono (O' := fun g => wc.heap.size ≤ g ∨ g < w0.heap.size ∨ g = mb) (fun _ h => .inl h)
            have hc := forget_in (X := fun g => g = mb) w0.heap.size (w0.heap.size + 1) _ _ [old] wc _ HL.out hb (fun g e => by rw [e]; exact hmb) i1 (by simp) (fun y hy => by
              obtain rfl := List.mem_singleton.1 hy
              exact HWO.out)
            have HC := Lib.hid hc
            have HAB := Lib.hid hb
            clear hc i1 hb d1
            go_wp2_with fail
            refine HC.out.mono ?_
            rintro e w3 ⟨rfl, hl3, hk3⟩
            have hz3 := HAB.out.size
            have hz4 := hk3.size
            have hzr := HBr.out.size
            have HB3 := Lib.hid ((HBr.out.trans (HAB.out.mono hzr)).trans (hk3.toBelow (by omega)))
            have HS3 := Lib.hid ((HS.out.below HAB.out).kept hk3 (fun h => h.2.2 rfl))
            have HL3 := Lib.hid hl3
            have hmb3 : mb < w3.heap.size := by omega
            have HD3 := Lib.hid (log_done (w0.heap.size + 1) (forgetLog L [old]) w3 hl3.1)
            clear HC HAB hl3 hk3 hz3 hz4 hzr
            go_upto_block 4 with fail
            go_cut [16, 17] (fun _ _ wx => ∃ (L1 : ELog), Hid (LogIn (fun g => g = mb) w0.heap.size wx (w0.heap.size + 1) L1) ∧ Hid (SetM wx mb nn L1.has L1.count) ∧ Hid (Below w0.heap.size w0 wx) ∧ mb < wx.heap.size ∧ Hid (AfterForget j L L1))
            case first =>
              cases hd : L.done with
              | true =>
                obtain ⟨f1, f2, f3⟩ := done_forget (ids := [old]) hd
                have q1 : (forgetLog L [old]).done = true := by rw [f3]; exact hd
                have q2 : (((forgetErr L [old] : Nat) : Int) != 171) = false := by rw [f1]; rfl
                rw [f3] at HL3
                have HAF := Lib.hid (show AfterForget j L L from ⟨HO.out.inv, by have := HO.out.steps; omega, fun s hs => by have := HO.out.hints s hs; omega, rfl, HO.out.last⟩)
                clear f1 f2 f3 hd
                go_wp2_with fail
                refine HD3.out.mono ?_
                rintro e w' ⟨rfl, rfl⟩
                clear HD3
                go_wp2_with fail
                go_meet
                exact ⟨L, HL3, HS3, HB3, hmb3, HAF⟩
              | false =>
                cases hh : L.has old with
                | true =>
                  obtain ⟨f1, f2, f3, f4, f5, f6⟩ := there_hit HO.out hj30 hd hh
                  obtain ⟨g1, g2, g3, g4⟩ := forget_has L [old] 0
                  have q1 : (forgetLog L [old]).done = false := by rw [f3, g4]; exact hd
                  have q2 : (forgetNum L [old] != 1) = false := by rw [f2]; rfl
                  have q3 : (((forgetErr L [old] : Nat) : Int) != 0) = false := by rw [f1]; rfl
                  have hlk := HS3.out.map.lookup HWO.out
                  simp only [hh, if_true] at hlk
                  rw [f3] at HL3
                  have HAF := Lib.hid (show AfterForget j L (L.forget [old]) from ⟨f4, f5, f6, g2, by rw [g2]; exact HO.out.last⟩)
                  have HHH := Lib.hid hh
                  have HCN := Lib.hid g3
                  clear f1 f2 f3 f4 f5 f6 g1 g2 g3 g4 hd hh
                  go_wp2_with fail
                  refine HD3.out.mono ?_
                  rintro e w' ⟨rfl, rfl⟩
                  clear HD3
                  go_wp2_with (at_delete; refine wpList_remove HS3.out rfl _ _ rfl rfl old rfl HWO.out ?_; intro w4 hs4 hg4)
                  go_meet
                  have hs5 : SetM w4 mb nn (L.forget [old]).has (L.forget [old]).count := hs4.congr (fun y => by
                    rw [(forget_has L [old] y).1]
                    by_cases hy : y = old
                    · subst hy; simp
                    · simp [hy]) (by rw [HCN.out, HHH.out]; rfl)
                  have hk4 : Kept (fun g => g = mb) w3 w4 := (Kept.grown hg4).mono (fun g _ h => by cases h; rfl)
                  have hzk := hk4.size
                  exact ⟨L.forget [old], Lib.hid ⟨(HL3.out.1.kept hk4 (fun g hg e => hg.2.2 e)).mono (fun g hg => ⟨hg.1, Nat.lt_of_lt_of_le hg.2.1 hzk, hg.2.2⟩) (fun g hg => hg.2.1), HL3.out.2.1, Nat.le_trans HL3.out.2.2 hzk⟩, Lib.hid hs5, Lib.hid (HB3.out.trans (hk4.below (fun g hg => by omega) HB3.out.size)), by omega, HAF⟩
                | false =>
                  obtain ⟨f1, f2, f3⟩ := there_miss hd hh
                  have q1 : (forgetLog L [old]).done = false := by rw [f3]; exact hd
                  have q2 : (forgetNum L [old] != old) = false := by rw [f2]; simp
                  have q3 : (((forgetErr L [old] : Nat) : Int) != 170) = false := by rw [f1]; rfl
                  have hlk := HS3.out.map.lookup HWO.out
                  simp only [hh] at hlk
                  rw [f3] at HL3
                  have HAF := Lib.hid (show AfterForget j L L from ⟨HO.out.inv, by have := HO.out.steps; omega, fun s hs => by have := HO.out.hints s hs; omega, rfl, HO.out.last⟩)
                  clear f1 f2 f3 hd hh
                  go_wp2_with fail
                  refine HD3.out.mono ?_
                  rintro e w' ⟨rfl, rfl⟩
                  clear HD3
                  go_wp2_with fail
                  go_meet
                  exact ⟨L, HL3, HS3, HB3, hmb3, HAF⟩
            case rest =>
              obtain ⟨L1, HL1, HS1, HB1, hmb1, HAF⟩ := hcut
              have hBw1 : Below w.heap.size w wc := HB0.out.trans (HB1.out.mono hz0)
              have hz1c := HB1.out.size
              have HMD := Lib.hid (made_any _ x wc (HROW.out.below hBw1))
              have HBW1 := Lib.hid hBw1
              clear HL HS HBr hmb HBW HL3 HS3 HB3 hmb3 HD3 HWX hBw1
              go_wp2_with fail
              refine HMD.out.mono ?_
              rintro e w5 ⟨v5, rfl, hown5, hb5⟩
              have hi5 : IntsIn (fun g => wc.heap.size ≤ g ∨ g < w0.heap.size ∨ g = mb) w5 v5 (madeL x) := (IntsIn.of_own hown5).mono (fun g hg => .inl hg.1)
              have hlen5 : (madeL x).length ≤ 140737488355328 := by have := madeL_len x; omega
              have hc := learn_in (X := fun g => g = mb) w0.heap.size (w0.heap.size + 1) _ _ _ (madeL x) [] wc w5 HL1.out hb5 (fun g e => by rw [e]; exact hmb1) hi5 (IntsIn.nil _ _) hlen5 (by simp) (fun y hy => by cases hy)
              have HS5 := Lib.hid (HS1.out.below hb5)
              have HB5 := Lib.hid hb5
              have hz5 := hb5.size
              clear HMD hown5 hb5 hi5 hlen5
              cases hd1 : L1.done with
              | true =>
                obtain ⟨f1, f2, f3⟩ := done_learn (c := madeL x) (h := []) hd1
                rw [f1, f2, f3] at hc
                have HC := Lib.hid hc
                clear hc f1 f2 f3 hd1
                go_wp2_with fail
                refine HC.out.mono ?_
                rintro e w6 ⟨rfl, hl6, hk6⟩
                have hz6 := hk6.size
                have HL6 := Lib.hid hl6
                have HS6 := Lib.hid (HS5.out.kept hk6 (fun h => h.2.2 rfl))
                have HB6 := Lib.hid ((HB1.out.trans (HB5.out.mono hz1c)).trans (hk6.toBelow (by omega)))
                clear hl6 hk6 HC
                go_wp2_with fail
                go_roundw
                case rel => exact ⟨j + 1, L1, nn, by omega, by omega, by go_num, by rw [HAF.out.eq], HL6, Lib.hid ⟨HAF.out.inv, by have := HAF.out.steps; omega, fun s hs => by have := HAF.out.hints s hs; omega, by have := HAF.out.last; omega⟩, HS6, by omega, HB6, by omega⟩
                case measure => simp [intOf]; omega
              | false =>
                obtain ⟨f1, f2, f3, f4⟩ := there_learn (x := x) HAF.out.inv HAF.out.steps HAF.out.hints HAF.out.last (by omega) hd1
                rw [f1, f2, f3, HAF.out.eq] at hc
                have HC := Lib.hid hc
                have HTO := Lib.hid f4
                clear hc f1 f2 f3 f4 hd1
                go_wp2_with fail
                refine HC.out.mono ?_
                rintro e w6 ⟨rfl, hl6, hk6⟩
                have hz6 := hk6.size
                have HL6 := Lib.hid hl6
                have HS6 := Lib.hid (HS5.out.kept hk6 (fun h => h.2.2 rfl))
                have HB6 := Lib.hid ((HB1.out.trans (HB5.out.mono hz1c)).trans (hk6.toBelow (by omega)))
                have hll := HAF.out.last
                have hle := HAF.out.eq
                have HWL := Lib.hid (show (Lit.int .i64 ((L.last : Int) + 1)).wf = true from wf64 (by omega) (by omega))
                have HLE := Lib.hid hle
                have hlast : L.last ≤ 50 := by omega
                clear hl6 hk6 HC hll hle
                go_wp2_with (at_mapUpdate; refine wpList_add HS6.out rfl _ _ _ rfl rfl (by unfold maxLen; omega) ((L.last : Int) + 1) rfl rfl HWL.out ?_; intro w7 hs7 hg7)
                have hs8 : SetM w7 mb (nn + 1) (L1.learn (madeL x) []).has (L1.learn (madeL x) []).count := hs7.congr (fun y => by
                  rw [learn_has L1 _ _ y (fun z hz => (HAF.out.inv.rng z hz).2), HLE.out]) (by
                  have : L1.has ((L.last : Int) + 1) = false := by
                    cases hh : L1.has ((L.last : Int) + 1)
                    · rfl
                    · have := (has_rng hh).2.1
                      rw [HLE.out] at this
                      omega
                  rw [this]; rfl)
                have hk7 : Kept (fun g => g = mb) w6 w7 := (Kept.grown hg7).mono (fun g _ h => by cases h; rfl)
                have hz7 := hk7.size
                have hL7 : LogIn (fun g => g = mb) w0.heap.size w7 (w0.heap.size + 1) (L1.learn (madeL x) []) := ⟨(HL6.out.1.kept hk7 (fun g hg e => hg.2.2 e)).mono (fun g hg => ⟨hg.1, Nat.lt_of_lt_of_le hg.2.1 hz7, hg.2.2⟩) (fun g hg => hg.2.1), HL6.out.2.1, Nat.le_trans HL6.out.2.2 hz7⟩
                have HS7 := Lib.hid hs8
                have HL7 := Lib.hid hL7
                have HB7 := Lib.hid (HB6.out.trans (hk7.below (fun g hg => by omega) HB6.out.size))
                have HST := Lib.hid (log_steps (w0.heap.size + 1) (L1.learn (madeL x) []) w7 hL7.1 hL7.2.1.ok)
                clear hs7 hg7 hs8 hk7 hL7 HS6 HL6 HB6
                go_wp2_with fail
                refine HST.out.mono ?_
                rintro e w8 ⟨v8, ms8, rfl, hst, _, hb8⟩
                obtain ⟨m8, g8, c8, rfl, hg8, e1, e2, hat8, hms8⟩ := steps_last hst
                obtain ⟨Al, cl, hlv, hcl⟩ := own_slice hat8.lits
                have hlits := IntsIn.of_own hat8.lits
                rw [hms8] at hlits hlv
                rw [hlv] at e2 hlits
                have hid8 : w8.cell? ⟨g8, L1.steps.length * 4 + 1, none⟩ = some (.int .i64 ((L.last : Int) + 1)) := by rw [e1, ← HLE.out]
                have HLT := Lib.hid (show IntsIn (fun _ => True) w8 (.slice Al (madeL x).length cl) (madeL x) from hlits.mono (fun _ _ => trivial))
                have hz8 := hb8.size
                have HL8 := Lib.hid (HL7.out.below hb8)
                have HS8 := Lib.hid (HS7.out.below hb8)
                have HB8 := Lib.hid (HB7.out.trans (hb8.mono (Nat.le_trans (Nat.le_trans hz1c (by omega)) hz7)))
                have e2' : w8.cell? ⟨g8, L1.steps.length * 4 + 2, none⟩ = some (.slice Al (madeL x).length cl) := e2
                have hst60 : L1.steps.length ≤ 61 := by have := HAF.out.steps; omega
                have HRW := Lib.hid (HROW.out.below (HB0.out.trans (HB8.out.mono hz0)))
                have HM8 := Lib.hid (fun w' (hb : Below w8.heap.size w8 w') => made_any (.slice Ax x.length cx) x w' (HRW.out.below hb))
                have hw9 : IntKind.i64.wrap (L1.steps.length : Int) = (L1.steps.length : Int) := IntWalk.i64_in _ (by omega)
                have hlt9 : (L1.steps.length : Int) < (L1.steps.length : Int) + 1 := by omega
                have hge9 : (0 : Int) ≤ (L1.steps.length : Int) := by omega
                have hne9 : ((L1.steps.length : Int) + 1 == 0) = false := by rw [beq_eq_false_iff_ne]; omega
                have hle6 := madeL_len x
                have hdone : (L1.learn (madeL x) []).done = (((madeL x).length : Int) == 0) := by
                  show (madeL x).isEmpty = _
                  cases madeL x with
                  | nil => rfl
                  | cons y l => simp; omega
                obtain ⟨dn, hdn⟩ : ∃ dn, (L1.learn (madeL x) []).done = dn := ⟨_, rfl⟩
                have hdn2 : (((madeL x).length : Int) == 0) = dn := by rw [← hdone, hdn]
                have HDN := Lib.hid hdn
                clear HST hst hb8 hms8 hat8 e1 e2 hlits hlv hdn hdone HS7 HL7 HB7
                go_wp2_with fail
                refine wp_region_held_drew (S := fun w' => w'.cell? ⟨g8, L1.steps.length * 4 + 1, none⟩ = some (.int .i64 ((L.last : Int) + 1)) ∧ w'.cell? ⟨g8, L1.steps.length * 4 + 2, none⟩ = some (.slice Al (madeL x).length cl) ∧ Below w8.heap.size w8 w') (by kernel_rfl) ⟨hid8, e2', (Below.refl _ _).drew⟩ (fun hHeld => ?_)
                refine takeD 0 115 (v := ?_) rfl (by rfl) (by kernel_rfl) (by kernel_rfl) (by kernel_rfl) (fun _ _ _ h => h) (Or.inl ⟨by rfl, ?_⟩) (by assumption) ?_
                rotate_left
                · intro w hSw
                  obtain ⟨_, _, _⟩ := hSw
                  go_simp
                  try with_reducible rfl
                simp only [Act.put, List.setIfInBounds_toArray, List.set_cons_zero, List.set_cons_succ]
                refine takeD 1 116 (v := ?_) rfl (by rfl) (by kernel_rfl) (by kernel_rfl) (by kernel_rfl) (fun _ _ _ h => h) (Or.inl ⟨by rfl, ?_⟩) (by assumption) ?_
                rotate_left
                · intro w hSw
                  obtain ⟨_, _, _⟩ := hSw
                  go_simp
                  try with_reducible rfl
                simp only [Act.put, List.setIfInBounds_toArray, List.set_cons_zero, List.set_cons_succ]
                refine takeD 2 117 (v := ?_) rfl (by rfl) (by kernel_rfl) (by kernel_rfl) (by kernel_rfl) (fun _ _ _ h => h) (Or.inl ⟨by rfl, ?_⟩) (by assumption) ?_
                rotate_left
                · intro w hSw
                  obtain ⟨_, _, _⟩ := hSw
                  go_simp
                  try with_reducible rfl
                simp only [Act.put, List.setIfInBounds_toArray, List.set_cons_zero, List.set_cons_succ]
                refine takeD 3 118 (v := ?_) rfl (by rfl) (by kernel_rfl) (by kernel_rfl) (by kernel_rfl) (fun _ _ _ h => h) (Or.inl ⟨by rfl, ?_⟩) (by assumption) ?_
                rotate_left
                · intro w hSw
                  obtain ⟨_, _, _⟩ := hSw
                  go_simp
                  try with_reducible rfl
                simp only [Act.put, List.setIfInBounds_toArray, List.set_cons_zero, List.set_cons_succ]
                refine takeD 4 119 (v := ?_) rfl (by rfl) (by kernel_rfl) (by kernel_rfl) (by kernel_rfl) (fun _ _ _ h => h) (Or.inl ⟨by rfl, ?_⟩) (by assumption) ?_
                rotate_left
                · intro w hSw
                  obtain ⟨_, _, _⟩ := hSw
                  go_simp
                  try with_reducible rfl
                simp only [Act.put, List.setIfInBounds_toArray, List.set_cons_zero, List.set_cons_succ]
                refine takeD 5 120 (v := ?_) rfl (by rfl) (by kernel_rfl) (by kernel_rfl) (by kernel_rfl) (fun _ _ _ h => h) (Or.inl ⟨by rfl, ?_⟩) (by assumption) ?_
                rotate_left
                · intro w hSw
                  obtain ⟨_, _, _⟩ := hSw
                  go_simp
                  try with_reducible rfl
                simp only [Act.put, List.setIfInBounds_toArray, List.set_cons_zero, List.set_cons_succ]
                refine takeD 6 121 (v := ?_) rfl (by rfl) (by kernel_rfl) (by kernel_rfl) (by kernel_rfl) (fun _ _ _ h => h) (Or.inl ⟨by rfl, ?_⟩) (by assumption) ?_
                rotate_left
                · intro w hSw
                  obtain ⟨_, _, _⟩ := hSw
                  go_simp
                  try with_reducible rfl
                simp only [Act.put, List.setIfInBounds_toArray, List.set_cons_zero, List.set_cons_succ]
                refine takeD 7 122 (v := ?_) rfl (by rfl) (by kernel_rfl) (by kernel_rfl) (by kernel_rfl) (fun _ _ _ h => h) (Or.inl ⟨by rfl, ?_⟩) (by assumption) ?_
                rotate_left
                · intro w hSw
                  obtain ⟨_, _, _⟩ := hSw
                  go_simp
                  try with_reducible rfl
                simp only [Act.put, List.setIfInBounds_toArray, List.set_cons_zero, List.set_cons_succ]
                refine takeD 8 123 (v := ?_) rfl (by rfl) (by kernel_rfl) (by kernel_rfl) (by kernel_rfl) (fun _ _ _ h => h) (Or.inl ⟨by rfl, ?_⟩) (by assumption) ?_
                rotate_left
                · intro w hSw
                  obtain ⟨_, _, _⟩ := hSw
                  go_simp
                  try with_reducible rfl
                simp only [Act.put, List.setIfInBounds_toArray, List.set_cons_zero, List.set_cons_succ]
                refine takeD 9 124 (v := ?_) rfl (by rfl) (by kernel_rfl) (by kernel_rfl) (by kernel_rfl) (fun _ _ _ h => h) (Or.inl ⟨by rfl, ?_⟩) (by assumption) ?_
                rotate_left
                · intro w hSw
                  obtain ⟨_, _, _⟩ := hSw
                  go_simp
                  try with_reducible rfl
                simp only [Act.put, List.setIfInBounds_toArray, List.set_cons_zero, List.set_cons_succ]
                refine takeD 10 125 (v := ?_) rfl (by rfl) (by kernel_rfl) (by kernel_rfl) (by kernel_rfl) (fun _ _ _ h => h) (Or.inl ⟨by rfl, ?_⟩) (by assumption) ?_
                rotate_left
                · intro w hSw
                  obtain ⟨_, _, _⟩ := hSw
                  go_simp
                  try with_reducible rfl
                simp only [Act.put, List.setIfInBounds_toArray, List.set_cons_zero, List.set_cons_succ]
                refine takeD 11 126 (v := ?_) rfl (by rfl) (by kernel_rfl) (by kernel_rfl) (by kernel_rfl) (fun _ _ _ h => h) (Or.inl ⟨by rfl, ?_⟩) (by assumption) ?_
                rotate_left
                · intro w hSw
                  obtain ⟨_, _, _⟩ := hSw
                  go_simp
                  try with_reducible rfl
                simp only [Act.put, List.setIfInBounds_toArray, List.set_cons_zero, List.set_cons_succ]
                refine takeD 12 127 (v := ?_) rfl (by rfl) (by kernel_rfl) (by kernel_rfl) (by kernel_rfl) (fun _ _ _ h => h) (Or.inl ⟨by rfl, ?_⟩) (by assumption) ?_
                rotate_left
                · intro w hSw
                  obtain ⟨_, _, _⟩ := hSw
                  go_simp
                  try with_reducible rfl
                simp only [Act.put, List.setIfInBounds_toArray, List.set_cons_zero, List.set_cons_succ]
                refine takeD 13 128 (v := ?_) rfl (by rfl) (by kernel_rfl) (by kernel_rfl) (by kernel_rfl) (fun _ _ _ h => h) (Or.inl ⟨by rfl, ?_⟩) (by assumption) ?_
                rotate_left
                · intro w hSw
                  obtain ⟨_, _, _⟩ := hSw
                  go_simp
                  try with_reducible rfl
                simp only [Act.put, List.setIfInBounds_toArray, List.set_cons_zero, List.set_cons_succ]
                refine takeD 14 129 (v := ?_) rfl (by rfl) (by kernel_rfl) (by kernel_rfl) (by kernel_rfl) (fun _ _ _ h => h) (Or.inl ⟨by rfl, ?_⟩) (by assumption) ?_
                rotate_left
                · intro w hSw
                  obtain ⟨_, _, _⟩ := hSw
                  go_simp
                  try with_reducible rfl
                simp only [Act.put, List.setIfInBounds_toArray, List.set_cons_zero, List.set_cons_succ]
                refine takeD 15 130 (v := ?_) rfl (by rfl) (by kernel_rfl) (by kernel_rfl) (by kernel_rfl) (fun _ _ _ h => h) (Or.inl ⟨by rfl, ?_⟩) (by assumption) ?_
                rotate_left
                · intro w hSw
                  obtain ⟨_, _, _⟩ := hSw
                  go_simp
                  try with_reducible rfl
                simp only [Act.put, List.setIfInBounds_toArray, List.set_cons_zero, List.set_cons_succ]
                refine takeD 16 131 (v := ?_) rfl (by rfl) (by kernel_rfl) (by kernel_rfl) (by kernel_rfl) (fun _ _ _ h => h) (Or.inl ⟨by rfl, ?_⟩) (by assumption) ?_
                rotate_left
                · intro w hSw
                  obtain ⟨_, _, _⟩ := hSw
                  go_simp
                  try with_reducible rfl
                simp only [Act.put, List.setIfInBounds_toArray, List.set_cons_zero, List.set_cons_succ]
                refine takeD 17 132 (v := ?_) rfl (by rfl) (by kernel_rfl) (by kernel_rfl) (by kernel_rfl) (fun _ _ _ h => h) (Or.inl ⟨by rfl, ?_⟩) (by assumption) ?_
                rotate_left
                · intro w hSw
                  obtain ⟨_, _, _⟩ := hSw
                  go_simp
                  try with_reducible rfl
                simp only [Act.put, List.setIfInBounds_toArray, List.set_cons_zero, List.set_cons_succ]
                refine takeD 18 133 (v := ?_) rfl (by rfl) (by kernel_rfl) (by kernel_rfl) (by kernel_rfl) (fun _ _ _ h => h) (Or.inl ⟨by rfl, ?_⟩) (by assumption) ?_
                rotate_left
                · intro w hSw
                  obtain ⟨_, _, _⟩ := hSw
                  go_simp
                  try with_reducible rfl
                simp only [Act.put, List.setIfInBounds_toArray, List.set_cons_zero, List.set_cons_succ]
                refine takeD 19 134 (v := ?_) rfl (by rfl) (by kernel_rfl) (by kernel_rfl) (by kernel_rfl) (fun _ _ _ h => h) (Or.inl ⟨by rfl, ?_⟩) (by assumption) ?_
                rotate_left
                · intro w hSw
                  obtain ⟨_, _, _⟩ := hSw
                  go_simp
                  try with_reducible rfl
                simp only [Act.put, List.setIfInBounds_toArray, List.set_cons_zero, List.set_cons_succ]
                refine takeD 20 135 (v := ?_) rfl (by rfl) (by kernel_rfl) (by kernel_rfl) (by kernel_rfl) (fun _ _ _ h => h) (Or.inl ⟨by rfl, ?_⟩) (by assumption) ?_
                rotate_left
                · intro w hSw
                  obtain ⟨_, _, _⟩ := hSw
                  go_simp
                  try with_reducible rfl
                simp only [Act.put, List.setIfInBounds_toArray, List.set_cons_zero, List.set_cons_succ]
                refine takeD 21 136 (v := ?_) rfl (by rfl) (by kernel_rfl) (by kernel_rfl) (by kernel_rfl) (fun _ _ _ h => h) (Or.inl ⟨by rfl, ?_⟩) (by assumption) ?_
                rotate_left
                · intro w hSw
                  obtain ⟨_, _, _⟩ := hSw
                  go_simp
                  try with_reducible rfl
                simp only [Act.put, List.setIfInBounds_toArray, List.set_cons_zero, List.set_cons_succ]
                refine takeD 22 137 (v := ?_) rfl (by rfl) (by kernel_rfl) (by kernel_rfl) (by kernel_rfl) (fun _ _ _ h => h) (Or.inl ⟨by rfl, ?_⟩) (by assumption) ?_
                rotate_left
                · intro w hSw
                  obtain ⟨_, _, _⟩ := hSw
                  go_simp
                  try with_reducible rfl
                simp only [Act.put, List.setIfInBounds_toArray, List.set_cons_zero, List.set_cons_succ]
                refine takeD 23 138 (v := ?_) rfl (by rfl) (by kernel_rfl) (by kernel_rfl) (by kernel_rfl) (fun _ _ _ h => h) (Or.inl ⟨by rfl, ?_⟩) (by assumption) ?_
                rotate_left
                · intro w hSw
                  obtain ⟨_, _, _⟩ := hSw
                  go_simp
                  try with_reducible rfl
                simp only [Act.put, List.setIfInBounds_toArray, List.set_cons_zero, List.set_cons_succ]
                refine takeD 24 139 (v := ?_) rfl (by rfl) (by kernel_rfl) (by kernel_rfl) (by kernel_rfl) (fun _ _ _ h => h) (Or.inl ⟨by rfl, ?_⟩) (by assumption) ?_
                rotate_left
                · intro w hSw
                  obtain ⟨_, _, _⟩ := hSw
                  go_simp
                  try with_reducible rfl
                simp only [Act.put, List.setIfInBounds_toArray, List.set_cons_zero, List.set_cons_succ]
                refine takeD 25 140 (v := ?_) rfl (by rfl) (by kernel_rfl) (by kernel_rfl) (by kernel_rfl) (fun _ _ _ h => h) (Or.inl ⟨by rfl, ?_⟩) (by assumption) ?_
                rotate_left
                · intro w hSw
                  obtain ⟨_, _, _⟩ := hSw
                  go_simp
                  try with_reducible rfl
                simp only [Act.put, List.setIfInBounds_toArray, List.set_cons_zero, List.set_cons_succ]
                refine takeD 26 141 (v := ?_) rfl (by rfl) (by kernel_rfl) (by kernel_rfl) (by kernel_rfl) (fun _ _ _ h => h) (Or.inl ⟨by rfl, ?_⟩) (by assumption) ?_
                rotate_left
                · intro w hSw
                  obtain ⟨_, _, _⟩ := hSw
                  go_simp
                  try with_reducible rfl
                simp only [Act.put, List.setIfInBounds_toArray, List.set_cons_zero, List.set_cons_succ]
                refine takeD 27 142 (v := ?_) rfl (by rfl) (by kernel_rfl) (by kernel_rfl) (by kernel_rfl) (fun _ _ _ h => h) (Or.inl ⟨by rfl, ?_⟩) (by assumption) ?_
                rotate_left
                · intro w hSw
                  obtain ⟨_, _, _⟩ := hSw
                  go_simp
                  try with_reducible rfl
                simp only [Act.put, List.setIfInBounds_toArray, List.set_cons_zero, List.set_cons_succ]
                refine takeD 28 143 (v := ?_) rfl (by rfl) (by kernel_rfl) (by kernel_rfl) (by kernel_rfl) (fun _ _ _ h => h) (Or.inl ⟨by rfl, ?_⟩) (by assumption) ?_
                rotate_left
                · intro w hSw
                  obtain ⟨_, _, _⟩ := hSw
                  go_simp
                  try with_reducible rfl
                simp only [Act.put, List.setIfInBounds_toArray, List.set_cons_zero, List.set_cons_succ]
                refine takeD 29 144 (v := ?_) rfl (by rfl) (by kernel_rfl) (by kernel_rfl) (by kernel_rfl) (fun _ _ _ h => h) (Or.inl ⟨by rfl, ?_⟩) (by assumption) ?_
                rotate_left
                · intro w hSw
                  obtain ⟨_, _, _⟩ := hSw
                  go_simp
                  try with_reducible rfl
                simp only [Act.put, List.setIfInBounds_toArray, List.set_cons_zero, List.set_cons_succ]
                refine takeD 30 145 (v := ?_) rfl (by rfl) (by kernel_rfl) (by kernel_rfl) (by kernel_rfl) (fun _ _ _ h => h) (Or.inl ⟨by rfl, ?_⟩) (by assumption) ?_
                rotate_left
                · intro w hSw
                  obtain ⟨_, _, _⟩ := hSw
                  go_simp
                  try with_reducible rfl
                simp only [Act.put, List.setIfInBounds_toArray, List.set_cons_zero, List.set_cons_succ]
                refine takeD 31 146 (v := ?_) rfl (by rfl) (by kernel_rfl) (by kernel_rfl) (by kernel_rfl) (fun _ _ _ h => h) (Or.inl ⟨by rfl, ?_⟩) (by assumption) ?_
                rotate_left
                · intro w hSw
                  obtain ⟨_, _, _⟩ := hSw
                  go_simp
                  try with_reducible rfl
                simp only [Act.put, List.setIfInBounds_toArray, List.set_cons_zero, List.set_cons_succ]
                refine wpAnyH_ready (rs := [32]) (by kernel_rfl) (by simp) ?_
                refine AllReadyH.cons rfl (fun K hK => ?_) AllReadyH.nil
                go_simp
                refine (HM8.out _ hHeld.2.2).mono ?_
                rintro e wA ⟨vA, rfl, hownA, hbA⟩
                have hzA := hHeld.2.2.size
                refine hK.out _ _ ⟨(hbA.cell (p := ⟨g8, L1.steps.length * 4 + 1, none⟩) (Nat.lt_of_lt_of_le hg8 hzA)).trans hHeld.1, (hbA.cell (p := ⟨g8, L1.steps.length * 4 + 2, none⟩) (Nat.lt_of_lt_of_le hg8 hzA)).trans hHeld.2.1, hHeld.2.2.trans (hbA.mono hzA)⟩ (fun hHeldA => ?_)
                clear hK hHeld
                obtain ⟨AA, cA, rfl, _⟩ := own_slice hownA
                have HEQ := Lib.hid (eq_c (.slice Al (madeL x).length cl) (.slice AA (madeL x).length cA) (madeL x) (madeL x) wA (HLT.out.below hHeldA.2.2) (IntsIn.of_own hownA) (by omega))
                clear hownA hbA
                refine wpAnyH_ready (rs := [33]) (by kernel_rfl) (by simp) ?_
                refine AllReadyH.cons rfl (fun K hK => ?_) AllReadyH.nil
                go_simp
                refine HEQ.out.mono ?_
                rintro e wB ⟨rfl, nB, rfl⟩
                rw [show (madeL x == madeL x) = true by simp]
                refine hK.out _ _ ⟨hHeldA.1, hHeldA.2.1, hHeldA.2.2.trans ((below_drewN _ nB).mono hHeldA.2.2.size)⟩ (fun hHeldB => ?_)
                clear hK hHeldA HEQ
                refine takeD 34 149 (v := ?_) rfl (by rfl) (by kernel_rfl) (by kernel_rfl) (by kernel_rfl) (fun _ _ _ h => h) (Or.inl ⟨by rfl, ?_⟩) (by assumption) ?_
                rotate_left
                · intro w hSw
                  obtain ⟨_, _, _⟩ := hSw
                  go_simp
                  try with_reducible rfl
                simp only [Act.put, List.setIfInBounds_toArray, List.set_cons_zero, List.set_cons_succ]
                refine takeD 35 150 (v := ?_) rfl (by rfl) (by kernel_rfl) (by kernel_rfl) (by kernel_rfl) (fun _ _ _ h => h) (Or.inl ⟨by rfl, ?_⟩) (by assumption) ?_
                rotate_left
                · intro w hSw
                  obtain ⟨_, _, _⟩ := hSw
                  go_simp
                  try with_reducible rfl
                simp only [Act.put, List.setIfInBounds_toArray, List.set_cons_zero, List.set_cons_succ]
                refine takeD 36 151 (v := ?_) rfl (by rfl) (by kernel_rfl) (by kernel_rfl) (by kernel_rfl) (fun _ _ _ h => h) (Or.inl ⟨by rfl, ?_⟩) (by assumption) ?_
                rotate_left
                · intro w hSw
                  obtain ⟨_, _, _⟩ := hSw
                  go_simp
                  try with_reducible rfl
                simp only [Act.put, List.setIfInBounds_toArray, List.set_cons_zero, List.set_cons_succ]
                refine takeD 37 152 (v := ?_) rfl (by rfl) (by kernel_rfl) (by kernel_rfl) (by kernel_rfl) (fun _ _ _ h => h) (Or.inl ⟨by rfl, ?_⟩) (by assumption) ?_
                rotate_left
                · intro w hSw
                  obtain ⟨_, _, _⟩ := hSw
                  go_simp
                  try with_reducible rfl
                simp only [Act.put, List.setIfInBounds_toArray, List.set_cons_zero, List.set_cons_succ]
                refine takeD 39 154 (v := ?_) rfl (by rfl) (by kernel_rfl) (by kernel_rfl) (by kernel_rfl) (fun _ _ _ h => h) (Or.inl ⟨by rfl, ?_⟩) (by assumption) ?_
                rotate_left
                · intro w hSw
                  obtain ⟨_, _, _⟩ := hSw
                  go_simp
                  try with_reducible rfl
                simp only [Act.put, List.setIfInBounds_toArray, List.set_cons_zero, List.set_cons_succ]
                refine wpAnyH_ready (rs := [38]) (by kernel_rfl) (by simp) ?_
                refine AllReadyH.cons rfl (fun K hK => ?_) AllReadyH.nil
                go_simp
                have HDD := log_done (w0.heap.size + 1) (L1.learn (madeL x) []) _ (HL8.out.1.below hHeldB.2.2)
                rw [HDN.out] at HDD
                refine HDD.mono ?_
                rintro e wD ⟨rfl, rfl⟩
                refine hK.out _ _ hHeldB (fun hHeldD => ?_)
                clear hK hHeldB HDD
                refine wpAnyH_ready (rs := [40]) (by kernel_rfl) (by simp) ?_
                refine AllReadyH.cons rfl (fun K hK => ?_) AllReadyH.nil
                go_simp
                refine (HM8.out _ hHeldD.2.2).mono ?_
                rintro e wE ⟨vE, rfl, hownE, hbE⟩
                have hzE := hHeldD.2.2.size
                refine hK.out _ _ ⟨(hbE.cell (p := ⟨g8, L1.steps.length * 4 + 1, none⟩) (Nat.lt_of_lt_of_le hg8 hzE)).trans hHeldD.1, (hbE.cell (p := ⟨g8, L1.steps.length * 4 + 2, none⟩) (Nat.lt_of_lt_of_le hg8 hzE)).trans hHeldD.2.1, hHeldD.2.2.trans (hbE.mono hzE)⟩ (fun hHeldE => ?_)
                clear hK hHeldD
                obtain ⟨AE, cE, rfl, _⟩ := own_slice hownE
                clear hownE hbE
                refine takeD 41 156 (v := ?_) rfl (by rfl) (by kernel_rfl) (by kernel_rfl) (by kernel_rfl) (fun _ _ _ h => h) (Or.inl ⟨by rfl, ?_⟩) (by assumption) ?_
                rotate_left
                · intro w hSw
                  obtain ⟨_, _, _⟩ := hSw
                  go_simp
                  try with_reducible rfl
                simp only [Act.put, List.setIfInBounds_toArray, List.set_cons_zero, List.set_cons_succ]
                refine takeD 42 157 (v := ?_) rfl (by rfl) (by kernel_rfl) (by kernel_rfl) (by kernel_rfl) (fun _ _ _ h => h) (Or.inl ⟨by rfl, ?_⟩) (by assumption) ?_
                rotate_left
                · intro w hSw
                  obtain ⟨_, _, _⟩ := hSw
                  go_simp
                  try with_reducible rfl
                simp only [Act.put, List.setIfInBounds_toArray, List.set_cons_zero, List.set_cons_succ]
                refine takeD 43 158 (v := ?_) rfl (by rfl) (by kernel_rfl) (by kernel_rfl) (by kernel_rfl) (fun _ _ _ h => h) (Or.inl ⟨by rfl, ?_⟩) (by assumption) ?_
                rotate_left
                · intro w hSw
                  obtain ⟨_, _, _⟩ := hSw
                  go_simp
                  try with_reducible rfl
                simp only [Act.put, List.setIfInBounds_toArray, List.set_cons_zero, List.set_cons_succ]
                refine takeD 44 159 (v := ?_) rfl (by rfl) (by kernel_rfl) (by kernel_rfl) (by kernel_rfl) (fun _ _ _ h => h) (Or.inl ⟨by rfl, ?_⟩) (by assumption) ?_
                rotate_left
                · intro w hSw
                  obtain ⟨_, _, _⟩ := hSw
                  go_simp
                  try with_reducible rfl
                simp only [Act.put, List.setIfInBounds_toArray, List.set_cons_zero, List.set_cons_succ]
                refine wpAnyH_done (by kernel_rfl) ?_ _
                have hBE := hHeldE.2.2
                have HLE2 := Lib.hid (HL8.out.below hBE)
                have HSE := Lib.hid (HS8.out.below hBE)
                have HBE := Lib.hid (HB8.out.trans (hBE.mono HB8.out.size))
                have hmbE : mb < wE.heap.size := Nat.lt_of_lt_of_le hmb1 (Nat.le_trans (Nat.le_trans (Nat.le_trans hz5 hz6) (Nat.le_trans hz7 hz8)) hBE.size)
                clear hHeldE hBE hid8 e2' hzE hzA
                go_wp2_with fail
                go_roundw
                case rel => exact ⟨j + 1, L1.learn (madeL x) [], nn + 1, by omega, by omega, by go_num, by show _ = Value.int .i64 ((L1.last + 1 : Nat) : Int); rw [HLE.out]; go_num, HLE2, HTO, HSE, by omega, HBE, hmbE⟩
                case measure => simp [intOf]; omega
        · have hjm : decide ((j : Int) < (xss.length : Int)) = false := by simp; omega
          have hlast : L.last ≤ 50 := by have := HO.out.last; omega
          go_wp2_with fail
          obtain ⟨wo, rfl⟩ : ∃ wo : World, wo = wr := ⟨_, rfl⟩
          go_loopw [20] (fun t wx => ∃ q : Int, -1 ≤ q ∧ q ≤ (L.last : Int) + 3 ∧ t = .int .i64 q ∧ Hid (Below wo.heap.size wo wx)) (fun t _ => ((L.last : Int) + 3 - intOf t).toNat)
          case atStart => exact ⟨-1, by omega, by omega, rfl, Lib.hid (Below.refl _ _)⟩
          case round =>
            obtain ⟨wx, rfl⟩ : ∃ wx : World, wx = wr := ⟨_, rfl⟩
            obtain ⟨q, hq1, hq2, rfl, HBX⟩ := hrel
            have HSX := Lib.hid (HS.out.below HBX.out)
            have HLX := Lib.hid (HL.out.below HBX.out)
            by_cases hq : q < (L.last : Int) + 3
            · have HWQ := Lib.hid (show (Lit.int .i64 q).wf = true from wf64 (by omega) (by omega))
              cases hh : L.has q with
              | true =>
                have hlk : (Instr.lookup 41 (.map (some mb)) (.int .i64 q) false).run Tryd.prog wx.drew = .ok (.int .i64 1) wx.drew := by
                  have := (HSX.out.below (below_drew wx)).map.lookup HWQ.out
                  simpa [hh] using this
                have HHAS := log_has (w0.heap.size + 1) L q wx.drew (HLX.out.1.below (below_drew wx)) HWQ.out
                rw [hh] at HHAS
                have HHAS := Lib.hid HHAS
                clear hh
                go_wp2_with fail
                refine wp_region_held_drew (S := fun w' => (Instr.lookup 41 (.map (some mb)) (.int .i64 q) false).run Tryd.prog w' = .ok (.int .i64 1) w') (by kernel_rfl) hlk (fun hHeld => ?_)
                refine takeD 0 167 (v := ?_) rfl (by rfl) (by kernel_rfl) (by kernel_rfl) (by kernel_rfl) (fun _ _ _ h => h) (Or.inl ⟨by rfl, ?_⟩) (by assumption) ?_
                rotate_left
                · intro w hSw
                  have _h := hSw
                  go_simp
                  try with_reducible rfl
                simp only [Act.put, List.setIfInBounds_toArray, List.set_cons_zero, List.set_cons_succ]
                refine takeD 1 168 (v := ?_) rfl (by rfl) (by kernel_rfl) (by kernel_rfl) (by kernel_rfl) (fun _ _ _ h => h) (Or.inl ⟨by rfl, ?_⟩) (by assumption) ?_
                rotate_left
                · intro w hSw
                  have _h := hSw
                  go_simp
                  try with_reducible rfl
                simp only [Act.put, List.setIfInBounds_toArray, List.set_cons_zero, List.set_cons_succ]
                refine takeD 3 170 (v := ?_) rfl (by rfl) (by kernel_rfl) (by kernel_rfl) (by kernel_rfl) (fun _ _ _ h => h) (Or.inl ⟨by rfl, ?_⟩) (by assumption) ?_
                rotate_left
                · intro w hSw
                  have _h := hSw
                  go_simp
                  try with_reducible rfl
                simp only [Act.put, List.setIfInBounds_toArray, List.set_cons_zero, List.set_cons_succ]
                refine takeD 4 171 (v := ?_) rfl (by rfl) (by kernel_rfl) (by kernel_rfl) (by kernel_rfl) (fun _ _ _ h => h) (Or.inl ⟨by rfl, ?_⟩) (by assumption) ?_
                rotate_left
                · intro w hSw
                  have _h := hSw
                  go_simp
                  try with_reducible rfl
                simp only [Act.put, List.setIfInBounds_toArray, List.set_cons_zero, List.set_cons_succ]
                refine takeD 5 172 (v := ?_) rfl (by rfl) (by kernel_rfl) (by kernel_rfl) (by kernel_rfl) (fun _ _ _ h => h) (Or.inl ⟨by rfl, ?_⟩) (by assumption) ?_
                rotate_left
                · intro w hSw
                  have _h := hSw
                  go_simp
                  try with_reducible rfl
                simp only [Act.put, List.setIfInBounds_toArray, List.set_cons_zero, List.set_cons_succ]
                refine takeD 6 173 (v := ?_) rfl (by rfl) (by kernel_rfl) (by kernel_rfl) (by kernel_rfl) (fun _ _ _ h => h) (Or.inl ⟨by rfl, ?_⟩) (by assumption) ?_
                rotate_left
                · intro w hSw
                  have _h := hSw
                  go_simp
                  try with_reducible rfl
                simp only [Act.put, List.setIfInBounds_toArray, List.set_cons_zero, List.set_cons_succ]
                refine wpAnyH_ready (rs := [2]) (by kernel_rfl) (by simp) ?_
                refine AllReadyH.cons rfl (fun K hK => ?_) AllReadyH.nil
                go_simp

                refine HHAS.out.mono ?_
                rintro e w' ⟨rfl, rfl⟩
                refine hK.out _ _ hHeld (fun hHeld1 => ?_)
                clear hK hHeld HHAS
                refine takeD 7 174 (v := ?_) rfl (by rfl) (by kernel_rfl) (by kernel_rfl) (by kernel_rfl) (fun _ _ _ h => h) (Or.inl ⟨by rfl, ?_⟩) (by assumption) ?_
                rotate_left
                · intro w hSw
                  have _h := hSw
                  go_simp
                  try with_reducible rfl
                simp only [Act.put, List.setIfInBounds_toArray, List.set_cons_zero, List.set_cons_succ]

                refine wpAnyH_done (by kernel_rfl) ?_ _
                clear hHeld1 hlk
                go_wp2_with fail
                go_roundw
                case rel => exact ⟨q + 1, by omega, by omega, by go_num, Lib.hid (HBX.out.trans ((below_drew wx).mono HBX.out.size))⟩
                case measure => simp [intOf]; omega
              | false =>
                have hlk : (Instr.lookup 41 (.map (some mb)) (.int .i64 q) false).run Tryd.prog wx.drew = .ok (.int .i64 0) wx.drew := by
                  have := (HSX.out.below (below_drew wx)).map.lookup HWQ.out
                  simpa [hh] using this
                have HHAS := log_has (w0.heap.size + 1) L q wx.drew (HLX.out.1.below (below_drew wx)) HWQ.out
                rw [hh] at HHAS
                have HHAS := Lib.hid HHAS
                clear hh
                go_wp2_with fail
                refine wp_region_held_drew (S := fun w' => (Instr.lookup 41 (.map (some mb)) (.int .i64 q) false).run Tryd.prog w' = .ok (.int .i64 0) w') (by kernel_rfl) hlk (fun hHeld => ?_)
                refine takeD 0 167 (v := ?_) rfl (by rfl) (by kernel_rfl) (by kernel_rfl) (by kernel_rfl) (fun _ _ _ h => h) (Or.inl ⟨by rfl, ?_⟩) (by assumption) ?_
                rotate_left
                · intro w hSw
                  have _h := hSw
                  go_simp
                  try with_reducible rfl
                simp only [Act.put, List.setIfInBounds_toArray, List.set_cons_zero, List.set_cons_succ]
                refine takeD 1 168 (v := ?_) rfl (by rfl) (by kernel_rfl) (by kernel_rfl) (by kernel_rfl) (fun _ _ _ h => h) (Or.inl ⟨by rfl, ?_⟩) (by assumption) ?_
                rotate_left
                · intro w hSw
                  have _h := hSw
                  go_simp
                  try with_reducible rfl
                simp only [Act.put, List.setIfInBounds_toArray, List.set_cons_zero, List.set_cons_succ]
                refine takeD 3 170 (v := ?_) rfl (by rfl) (by kernel_rfl) (by kernel_rfl) (by kernel_rfl) (fun _ _ _ h => h) (Or.inl ⟨by rfl, ?_⟩) (by assumption) ?_
                rotate_left
                · intro w hSw
                  have _h := hSw
                  go_simp
                  try with_reducible rfl
                simp only [Act.put, List.setIfInBounds_toArray, List.set_cons_zero, List.set_cons_succ]
                refine takeD 4 171 (v := ?_) rfl (by rfl) (by kernel_rfl) (by kernel_rfl) (by kernel_rfl) (fun _ _ _ h => h) (Or.inl ⟨by rfl, ?_⟩) (by assumption) ?_
                rotate_left
                · intro w hSw
                  have _h := hSw
                  go_simp
                  try with_reducible rfl
                simp only [Act.put, List.setIfInBounds_toArray, List.set_cons_zero, List.set_cons_succ]
                refine takeD 5 172 (v := ?_) rfl (by rfl) (by kernel_rfl) (by kernel_rfl) (by kernel_rfl) (fun _ _ _ h => h) (Or.inl ⟨by rfl, ?_⟩) (by assumption) ?_
                rotate_left
                · intro w hSw
                  have _h := hSw
                  go_simp
                  try with_reducible rfl
                simp only [Act.put, List.setIfInBounds_toArray, List.set_cons_zero, List.set_cons_succ]
                refine takeD 6 173 (v := ?_) rfl (by rfl) (by kernel_rfl) (by kernel_rfl) (by kernel_rfl) (fun _ _ _ h => h) (Or.inl ⟨by rfl, ?_⟩) (by assumption) ?_
                rotate_left
                · intro w hSw
                  have _h := hSw
                  go_simp
                  try with_reducible rfl
                simp only [Act.put, List.setIfInBounds_toArray, List.set_cons_zero, List.set_cons_succ]
                refine wpAnyH_ready (rs := [2]) (by kernel_rfl) (by simp) ?_
                refine AllReadyH.cons rfl (fun K hK => ?_) AllReadyH.nil
                go_simp

                refine HHAS.out.mono ?_
                rintro e w' ⟨rfl, rfl⟩
                refine hK.out _ _ hHeld (fun hHeld1 => ?_)
                clear hK hHeld HHAS
                refine takeD 7 174 (v := ?_) rfl (by rfl) (by kernel_rfl) (by kernel_rfl) (by kernel_rfl) (fun _ _ _ h => h) (Or.inl ⟨by rfl, ?_⟩) (by assumption) ?_
                rotate_left
                · intro w hSw
                  have _h := hSw
                  go_simp
                  try with_reducible rfl
                simp only [Act.put, List.setIfInBounds_toArray, List.set_cons_zero, List.set_cons_succ]

                refine wpAnyH_done (by kernel_rfl) ?_ _
                clear hHeld1 hlk
                go_wp2_with fail
                go_roundw
                case rel => exact ⟨q + 1, by omega, by omega, by go_num, Lib.hid (HBX.out.trans ((below_drew wx).mono HBX.out.size))⟩
                case measure => simp [intOf]; omega
            · go_wp2_with fail
              refine (log_count _ _ _ HLX.out.1).mono ?_
              rintro e w' ⟨rfl, rfl⟩
              go_wp2_with (at_len; refine wpList_setlen HSX.out rfl _ rfl rfl ?_)
              refine (log_last _ _ _ HLX.out.1).mono ?_
              rintro e w' ⟨rfl, rfl⟩
              go_wp2_with fail
              go_ret
              exact ⟨rfl, (HB0.out.trans (HBr.out.mono hz0)).trans (HBX.out.mono (Nat.le_trans hz0 HBr.out.size))⟩
theorem emitThere_any (f : Int) (lv iv : Value) (xss : List (List Int)) (ids : List Int) (w : World) (ht : TabW w) (hf0 : 0 ≤ f) (hf1 : f ≤ 255) (hl : RowsAt .i8 w lv xss) (hi : RowAt .u8 w iv ids) :
    Calls Tryd.prog 4 #[.int .u8 f, lv, iv] w fun e w' => e = .returned (.bool true) ∧ Below w.heap.size w w' := by
  by_cases h : (30 : Int) < (xss.length : Int)
  · exact there_long f lv iv xss ids w ht hf0 hf1 hl hi h
  · exact there_short f lv iv xss ids w ht hf0 hf1 hl hi (by omega)
end Go.Proofs.YtkioeogjcjnojaaDoor
