/- package salvorlaw13: WatchFinds. -/
import Derived.Test.YtobcnejecogfoaaGreatQ37
namespace Go.Proofs.YtobcnejecogfoaaGreat
open Go.RowKit

set_option maxRecDepth 100000 in
set_option maxHeartbeats 8000000 in
theorem finds_walk (A1 : Option Addr) (c1 m : Nat) (ux : Value) (xss : List (List Int)) (l : List Int) (w : World) (hx : RowsAt .i8 w ux xss) (hl : RowAt .i8 w (.slice A1 l.length c1) l) (hN : min (l.length : Int) 12 = (m : Int)) (hm12 : m ≤ 12) (hml : m ≤ l.length) :
    Calls Tryz.prog 3 #[ux, .slice A1 l.length c1] w fun e w' => e = .returned (.bool true) ∧ Below w.heap.size w w' := by
  obtain ⟨Av, cv, hA, hlc, hmx, _, hwf, hlx⟩ := hl
  cases hA
  have HX := Lib.hid hx
  have HLX := Lib.hid hlx
  have HWF := Lib.hid hwf
  obtain ⟨Ax, cx, rfl, _⟩ := hx
  have hmc : m ≤ c1 := by omega
  unfold maxLen at hmx
  obtain ⟨cs, hcs⟩ : ∃ cs, (xss.take 14).map madeL = cs := ⟨_, rfl⟩
  have h6 : Six cs := by rw [← hcs]; exact six_made xss 14 (by omega)
  have HCS := Lib.hid hcs
  clear hlx hwf hcs
  go_enter Tryz.func3, Tryz.ntmps3
  go_wp2_with fail
  refine (awake13 w).mono ?_
  rintro e w1 ⟨rfl, hb1⟩
  have HAL := Lib.hid (all_any _ xss 14 w1 (HX.out.below hb1) (by decide))
  have HB1 := Lib.hid hb1
  clear hb1
  go_wp2_with fail
  refine HAL.out.mono ?_
  rintro e w2 ⟨vc, rfl, hoc, hb2⟩
  rw [HCS.out] at hoc
  have hcat := hoc.cls
  obtain ⟨Ac, cc, rfl, _⟩ := id hcat
  have HC := Lib.hid hcat
  have HST := Lib.hid (law_started Ac cc cs w2 hcat h6)
  have HB2 := Lib.hid (HB1.out.trans (hb2.mono HB1.out.size))
  clear hoc hb2 hcat HAL HB1
  go_wp2_with fail
  refine HST.out.mono ?_
  rintro e w3 ⟨b, a, t, lab, T, its, S, fl, rfl, hsd⟩
  have HSD := Lib.hid hsd
  clear hsd HST
  cases fl with
  | true =>
    have HRS := Lib.hid (st_reasons HSD.out.lw HSD.out.st h6 HC.out)
    go_wp2_with fail
    refine HRS.out.mono ?_
    rintro e w4 ⟨rfl, hb4⟩
    have HL4 := Lib.hid (HSD.out.lw.below hb4)
    have HFL := Lib.hid (st_failing HL4.out HSD.out.st h6 (HSD.out.bad rfl) HC.out)
    clear hb4 HRS
    go_wp2_with fail
    refine HFL.out.mono ?_
    rintro e w5 ⟨rfl, hb5⟩
    have HFB := Lib.hid (HB2.out.trans ((HL4.out.below hb5).hb.mono HB2.out.size))
    clear hb5 HFL
    go_wp2_with fail
    go_ret
    exact ⟨rfl, HFB.out⟩
  | false =>
    have HCO := Lib.hid (run_complete HSD.out.lw (HSD.out.ok rfl) h6 HC.out)
    go_wp2_with fail
    refine HCO.out.mono ?_
    rintro e w4 ⟨rfl, hb4⟩
    have HL4 := Lib.hid (HSD.out.lw.below hb4)
    have HR4 := Lib.hid (HSD.out.ok rfl)
    have HNW := Lib.hid HSD.out.now
    clear hb4 HCO HSD
    go_wp2_with fail
    go_loopw [51] (fun i wr => ∃ (k : Nat) (labr : Nat → Nat) (T : Trl) (its : List RIt) (S : Wst), k ≤ m ∧ i = .int .i64 k ∧ Hid (Lw w2 wr labr b a t (addAll arn0 0 cs) T S) ∧ Hid (Run cs T its S) ∧ Hid (T.now ≤ (k : Int))) (fun i _ => m - (intOf i).toNat)
    case atStart => exact ⟨0, lab, T, its, S, Nat.zero_le _, rfl, HL4, HR4, Lib.hid (by rw [HNW.out]; exact Int.le_refl 0)⟩
    case round =>
      obtain ⟨k, labr, T, its, S, hk, rfl, HL, HR, HK⟩ := hrel
      by_cases hlt : k < m
      · obtain ⟨n, hnk⟩ := getElem_of (show k < l.length by omega)
        obtain ⟨g, o, rfl, hg, d0⟩ := HLX.out k n hnk
        have d1 := (HL.out.hb.cell (p := ⟨g, o + k, none⟩) (Nat.lt_of_lt_of_le hg HB2.out.size)).trans ((HB2.out.cell (p := ⟨g, o + k, none⟩) hg).trans d0)
        have hwn := HWF.out n (List.mem_of_getElem? hnk)
        obtain ⟨hn1, hn2⟩ := i8_rng hwn
        have hkl : k < l.length := by omega
        have hnow := now_eq (T := T)
        have hn0 := HR.out.st.sim.now
        have hK := HK.out
        clear hnk d0
        by_cases hneg : n < 0
        · have q1 : decide (n < 0) = true := by simpa using hneg
          have e1 : IntKind.i8.wrap (n + 1) = n + 1 := IntWalk.i8_in _ (by omega)
          have e2 : IntKind.i8.wrap (-(n + 1)) = -(n + 1) := IntWalk.i8_in _ (by omega)
          have e3 : IntKind.i64.wrap (-(n + 1)) = -(n + 1) := IntWalk.i64_in _ (by omega)
          obtain ⟨N, hNN⟩ : ∃ N : Nat, T.starts.length = N := ⟨_, rfl⟩
          rw [hNN] at hnow
          have e4 : IntKind.i64.wrap ((N : Int) - 1 + 1) = (N : Int) := (IntWalk.i64_in _ (by omega)).trans (by omega)
          have e5 : ((N : Int) == 0) = false := by simp; omega
          have e9 : IntKind.i64.wrap (N : Int) = (N : Int) := IntWalk.i64_in _ (by omega)
          have e7 : 0 < N := by omega
          have e8 : ¬ ((N : Int) = 0) := by omega
          have hj1 := Int.tmod_nonneg (N : Int) (show (0 : Int) ≤ -(n + 1) by omega)
          have hj2 := Int.tmod_lt_of_pos (-(n + 1)) (show (0 : Int) < (N : Int) by omega)
          obtain ⟨j, hj⟩ : ∃ j, (-(n + 1)).tmod (N : Int) = j := ⟨_, rfl⟩
          rw [hj] at hj1 hj2
          have e6 : IntKind.i64.wrap j = j := IntWalk.i64_in _ (by omega)
          have htn := tr_now t T wr HL.out.sys.tr
          rw [hNN] at htn
          have HTN := Lib.hid htn
          have HBK := Lib.hid (run_back HL.out HR.out.st HR.out.kn HR.out.one (j := j) hj1 (by
            rcases Int.lt_or_le j T.now with h | h
            · exact .inl h
            · exact .inr ⟨by omega, HR.out.lk⟩))
          have HJL := Lib.hid (show j ≤ (k : Int) + 1 by omega)
          clear htn hneg hwn hn1 hn2 hnow hn0 hK hNN hj1 hj2
          go_wp2_with fail
          refine HTN.out.mono ?_
          rintro e w' ⟨rfl, rfl⟩
          go_wp2_with fail
          refine HBK.out.mono ?_
          rintro e w5 ⟨rfl, T', its', S', hr5, hnw5, _, _, lab5, hl5, _⟩
          have HL5 := Lib.hid hl5
          have HR5 := Lib.hid hr5
          have HN5 := Lib.hid hnw5
          have HCO := Lib.hid (run_complete hl5 hr5 h6 HC.out)
          clear hl5 hr5 hnw5 HBK HTN d1
          go_wp2_with fail
          refine HCO.out.mono ?_
          rintro e w6 ⟨rfl, hb6⟩
          have HL6 := Lib.hid (HL5.out.below hb6)
          clear hb6 HCO HL5
          go_wp2_with fail
          go_roundw
          case rel => exact ⟨k + 1, lab5, T', its', S', by omega, by go_num, HL6, HR5, Lib.hid (by rw [HN5.out]; have := HJL.out; omega)⟩
          case measure => simp [intOf]; omega
        · have q1 : decide (n < 0) = false := by simpa using hneg
          have HMO := Lib.hid (made_one n wr hwn)
          have HY6 := Lib.hid (madeLit_six n)
          clear hwn hn1 hn2 hneg hnow hn0 hK
          go_wp2_with fail
          refine HMO.out.mono ?_
          rintro e w5 ⟨gy, cy, rfl, hcy, hy, hb5⟩
          have HL5 := Lib.hid (HL.out.below hb5)
          have HDE := Lib.hid (run_dec HL5.out HR.out h6 HY6.out (by have := HK.out; omega))
          clear hb5 HMO d1
          go_wp2_with fail
          refine HDE.out.mono ?_
          rintro e w6 ⟨R, its', rfl, hde, lab6, hl6, _⟩
          have HD := Lib.hid hde
          have HL6 := Lib.hid hl6
          clear hde hl6 HDE HL5 hy
          obtain ⟨r, hr⟩ : ∃ r, R.2.2 = r := ⟨_, rfl⟩
          rw [hr]
          have HRR := Lib.hid hr
          clear hr
          cases r with
          | none =>
            rw [show (none : Option Int).getD 0 = 0 from rfl]
            have HR6 := Lib.hid (HD.out.ok HRR.out)
            have HCO := Lib.hid (run_complete HL6.out HR6.out h6 HC.out)
            have HN6 := Lib.hid HD.out.now
            have q2 : decide ((cs.length : Int) < 0) = false := by simp
            clear HD HRR
            go_wp2_with fail
            refine HCO.out.mono ?_
            rintro e w7 ⟨rfl, hb7⟩
            have HL7 := Lib.hid (HL6.out.below hb7)
            clear hb7 HCO HL6
            go_wp2_with fail
            go_roundw
            case rel => exact ⟨k + 1, lab6, R.1, its', R.2.1, by omega, by go_num, HL7, HR6, Lib.hid (by rw [HN6.out]; have := HK.out; omega)⟩
            case measure => simp [intOf]; omega
          | some id =>
            rw [show (some id : Option Int).getD 0 = id from rfl]
            obtain ⟨c, hc, hall⟩ := HD.out.bad id HRR.out
            obtain ⟨p, rfl, hp, hpl⟩ := clsC_some hc
            obtain ⟨f, hf, hff⟩ := k_its (fun x hx => HD.out.st.sim.litb hx) HD.out.st.sim.nodup
            rw [← HD.out.st.sim.order] at hf
            have hcm := List.mem_of_getElem? hp
            have HF := Lib.hid hf
            have HLF := Lib.hid (show lookF f c = (2, 0) from k_fail (fun y hy => (hff y ((h6.2 c hcm).2 y hy).1).2.2 (hall y hy)))
            have HRT := Lib.hid (h6.right hcm)
            have hfew := HD.out.st.sim.few HD.out.st.vars
            obtain ⟨A2, c2, hA2, hys⟩ := HC.out
            simp only [Value.slice.injEq, true_and] at hA2
            obtain ⟨rfl, rfl⟩ := hA2
            obtain ⟨g2, o2, u, rfl, hg2, f0, hu⟩ := hys p c hp
            obtain ⟨Au, cu, rfl, huc, _, _⟩ := id hu
            have HU := Lib.hid hu
            have HG2 := Lib.hid hg2
            have HF0 := Lib.hid f0
            have p1 : decide ((p : Int) + 1 < 0) = false := by simp; omega
            have p2 : decide ((cs.length : Int) < (p : Int) + 1) = false := by simp; omega
            have p3 : ((p : Int) + 1 == 0) = false := by simp; omega
            have p4 : IntKind.i64.wrap ((p : Int) + 1 - 1) = (p : Int) := (IntWalk.i64_in _ (by have := h6.1; omega)).trans (by omega)
            have p5 : IntKind.i64.wrap (p : Int) = (p : Int) := IntWalk.i64_in _ (by have := h6.1; omega)
            have p6 : (p : Int) < (cs.length : Int) := by omega
            clear hc hall hp hf hff hcm hys hu hg2 f0
            go_upto_region 23 with fail
            refine wp_region_held_drew (S := fun w' => Below w6.heap.size w6 w') (by kernel_rfl) (mx_drew w6) (fun hS => ?_)
            refine takeE 0 104 ?_
            refine takeE 1 105 ?_
            refine takeE 2 106 ?_
            refine takeE 3 107 ?_
            refine takeF 4 108 (fun wq hSw => ((HL6.out.hb.trans (hSw.mono HL6.out.hb.size)).cell (p := ⟨g2, o2 + p, none⟩) HG2.out).trans HF0.out) ?_
            refine takeE 5 109 ?_
            refine ready1 6 (fun K hK => ?_)
            go_simp
            refine (law_assigned t R.1 _ (HL6.out.sys.tr.below hS) (by omega)).mono ?_
            rintro e w7 ⟨vn, rfl, hrn, hbN⟩
            have hSN := hS.trans (hbN.mono hS.size)
            refine hK.out _ _ hSN (fun _ => ?_)
            have hnt := (IntsIn.of_own hrn).lt.mono (O' := fun g => g < w7.heap.size) (fun g hg => hg.2)
            obtain ⟨An, cn, rfl, _⟩ := mx_slice hrn
            clear hK hbN hS hrn
            have hS := hSN
            clear hSN
            refine ready1 7 (fun K hK => ?_)
            go_simp
            refine (rup_Look _ _ c R.1.order w7 (HU.out.below (HL6.out.hb.trans (hS.mono HL6.out.hb.size))) hnt HRT.out.1 f HF.out (by have := HRT.out.2; omega) (by omega)).mono ?_
            rintro e w8 ⟨rfl, hbN⟩
            have hSN := hS.trans (hbN.mono hS.size)
            refine hK.out _ _ hSN (fun _ => ?_)
            clear hK hbN hS hnt
            have hS := hSN
            clear hSN
            rw [HLF.out]
            refine takeE 8 103 ?_
            refine takeE 9 112 ?_
            refine takeE 10 113 ?_
            refine takeE 11 114 ?_
            refine takeE 12 15 ?_
            refine takeE 13 16 ?_
            refine takeE 14 17 ?_
            refine wpAnyH_done (by kernel_rfl) ?_ _
            have HL8 := Lib.hid (HL6.out.below hS)
            have HRS := Lib.hid (st_reasons HL8.out HD.out.st h6 HC.out)
            clear hS HL6
            go_wp2_with fail
            refine HRS.out.mono ?_
            rintro e w9 ⟨rfl, hb9⟩
            have HL9 := Lib.hid (HL8.out.below hb9)
            clear hb9 HRS HL8
            have hnow := now_eq (T := R.1)
            have hn1 := HD.out.now
            have hn0 := HR.out.st.sim.now
            have hK := HK.out
            obtain ⟨N, hNN⟩ : ∃ N : Nat, R.1.starts.length = N := ⟨_, rfl⟩
            rw [hNN] at hnow
            have htn := tr_now t R.1 w9 HL9.out.sys.tr
            rw [hNN] at htn
            have HTN := Lib.hid htn
            obtain ⟨j, hj⟩ : ∃ j, (N : Int) - 1 - 1 = j := ⟨_, rfl⟩
            have e6 : IntKind.i64.wrap ((N : Int) - 1 - 1) = j := (IntWalk.i64_in _ (by omega)).trans hj
            have HBK := Lib.hid (run_back HL9.out HD.out.st HD.out.kn HD.out.one (j := j) (by omega) (.inl (by omega)))
            have HJL := Lib.hid (show j ≤ (k : Int) + 1 by omega)
            clear htn hnow hn1 hn0 hK hNN hj
            go_wp2_with fail
            refine HTN.out.mono ?_
            rintro e w' ⟨rfl, rfl⟩
            go_wp2_with fail
            refine HBK.out.mono ?_
            rintro e w10 ⟨rfl, T', i10, S', hr10, hnw10, _, _, lab10, hl10, _⟩
            have HL10 := Lib.hid hl10
            have HR10 := Lib.hid hr10
            have HN10 := Lib.hid hnw10
            have HCO := Lib.hid (run_complete hl10 hr10 h6 HC.out)
            clear hl10 hr10 hnw10 HBK HTN HD HL9
            go_wp2_with fail
            refine HCO.out.mono ?_
            rintro e w11 ⟨rfl, hb11⟩
            have HL11 := Lib.hid (HL10.out.below hb11)
            clear hb11 HCO HL10
            go_wp2_with fail
            go_roundw
            case rel => exact ⟨k + 1, lab10, T', i10, S', by omega, by go_num, HL11, HR10, Lib.hid (by rw [HN10.out]; have := HJL.out; omega)⟩
            case measure => simp [intOf]; omega
      · obtain rfl : k = m := by omega
        have HFB := Lib.hid (HB2.out.trans (HL.out.hb.mono HB2.out.size))
        clear HL HR HK hlt
        go_wp2_with fail
        go_ret
        exact ⟨rfl, HFB.out⟩
theorem finds_any (ux ul : Value) (xss : List (List Int)) (l : List Int) (w : World) (hx : RowsAt .i8 w ux xss) (hl : RowAt .i8 w ul l) :
    Calls Tryz.prog 3 #[ux, ul] w fun e w' => e = .returned (.bool true) ∧ Below w.heap.size w w' := by
  obtain ⟨A1, c1, rfl, _⟩ := id hl
  exact finds_walk A1 c1 (min l.length 12) ux xss l w hx hl (by omega) (by omega) (by omega)
end Go.Proofs.YtobcnejecogfoaaGreat
