/- package salvorlaw13: WatchWrong, walked. -/
import Derived.Test.YtobcnejecogfoaaGreatRKp
namespace Go.Proofs.YtobcnejecogfoaaGreat
open Go.RowKit

theorem w13_one {c d : List (List Int)} (hc : ∀ x ∈ c, clauseB x = true) (hd : ∀ x ∈ d, clauseB x = true) : ∀ x ∈ c ++ d, clauseB x = true := fun x hx => (List.mem_append.1 hx).elim (hc x) (hd x)
set_option maxRecDepth 100000 in
set_option maxHeartbeats 8000000 in
theorem wrong_any (ux : Value) (xss : List (List Int)) (n : Int) (w : World) (hx : RowsAt .i8 w ux xss) (hn1 : -9223372036854775808 ≤ n) (hn2 : n ≤ 9223372036854775807) :
    Calls Tryz.prog 5 #[ux, .int .i64 n] w fun e w' => e = .returned (.bool true) ∧ Below w.heap.size w w' := by
  obtain ⟨i0, hi, hz0, hz1, hz2⟩ := info_parts info_cls
  have HX := Lib.hid hx
  obtain ⟨Ax, cx, rfl, _⟩ := hx
  obtain ⟨cs, hcs⟩ : ∃ cs, (xss.take 10).map madeL = cs := ⟨_, rfl⟩
  have h6 : Six cs := by rw [← hcs]; exact six_made xss 10 (by omega)
  have hl10 : cs.length ≤ 10 := by rw [← hcs, List.length_map, List.length_take]; omega
  have HCS := Lib.hid hcs
  clear hcs
  go_enter Tryz.func5, Tryz.ntmps5
  go_wp2_with fail
  refine (awake13 w).mono ?_
  rintro e w1 ⟨rfl, hb1⟩
  have HAL := Lib.hid (all_any _ xss 10 w1 (HX.out.below hb1) (by decide))
  have HB1 := Lib.hid hb1
  clear hb1
  go_wp2_with fail
  refine HAL.out.mono ?_
  rintro e w2 ⟨vc, rfl, hoc, hb2⟩
  rw [HCS.out] at hoc
  obtain ⟨us, h1, h2⟩ := hoc
  obtain ⟨Ac, cc, rfl, _⟩ := mx_slice h1
  have hz12 := hb2.size
  have HO1 := Lib.hid h1
  have HO2 := Lib.hid h2
  have HB2 := Lib.hid hb2
  obtain ⟨WA, hWA⟩ : ∃ x, w2.alloc (.cells #[.int .i64 1, .int .i64 7] 39) = x := ⟨_, rfl⟩
  have hbA : Below w2.heap.size w2 WA := by rw [← hWA]; exact mx_al _ _
  have hzA : WA.heap.size = w2.heap.size + 1 := by rw [← hWA]; simp
  have hrA : WA.ownsRow w2.heap.size 39 1 (.slice (some ⟨w2.heap.size, 0, none⟩) 2 2) 2 ([1, 7].map (Value.int .i64)) := by rw [← hWA]; exact k_own w2 [.int .i64 1, .int .i64 7] _ (by simp)
  have HWA := Lib.hid hWA
  have HBA := Lib.hid hbA
  have HZA := Lib.hid hzA
  have HRA := Lib.hid hrA
  clear h1 h2 hb2 hWA hbA hrA HAL
  go_wp2_with (
    at_builtin
    rw [HWA.out]
    refine wpList_append_own_at _ rfl _ _ 25 rfl w1.heap.size 41 i0 (.slice none 0 0) 1 24 Tryz.underlying25 hi hz0 hz1 hz2 rfl (by decide) _ cs.length _ rfl (own_below (own_below HO1.out HBA.out) (below_alloc1 WA _)) ⟨w2.heap.size + 1, 0, none⟩ 1 1 [.slice (some ⟨w2.heap.size, 0, none⟩) 2 2] rfl rfl (by rw [← HZA.out]; exact cell_one_new' _ _ _) (by simp [Value.oneCell']) (by unfold maxLen; omega) (by omega) (by simp; omega) ?_
    intro v' w3 hown hgrow hnl hat)
  obtain ⟨Av, kv, rfl, _⟩ := mx_slice hown
  have hbp : Below w2.heap.size w2 (WA.alloc (.cells #[.slice (some ⟨w2.heap.size, 0, none⟩) 2 2] 41)) := HBA.out.trans ((mx_al WA _).mono (by omega))
  have hpush := ClsOwn.push (xs := [1, 7]) HO1.out HO2.out hbp (own_below (own_mono HRA.out hz12) (mx_al WA _)) hgrow hown
  have hb3 := ((hbp.mono hz12).grown hgrow (by simp; omega) (fun g hg => (own_lt HO1.out g hg).1))
  have HB3 := Lib.hid (HB1.out.trans ((HB2.out.trans hb3).mono HB1.out.size))
  obtain ⟨ds, hds⟩ : ∃ ds, cs ++ [[1, 7]] = ds := ⟨_, rfl⟩
  rw [hds] at hpush
  have hdl : ds.length = cs.length + 1 := by rw [← hds, List.length_append]; rfl
  have hdc : ∀ c ∈ ds, clauseB c = true := by
    rw [← hds]
    exact w13_one (fun c hc => (h6.right hc).1) (by decide)
  have hdn : ∀ c ∈ ds, c.length ≤ 6 := by
    rw [← hds]
    intro c hc
    rcases List.mem_append.1 hc with hc | hc
    · exact (h6.right hc).2
    · rw [List.mem_singleton.1 hc]; decide
  have hcat := hpush.cls
  rw [show (Value.slice Av (cs.length + 1) kv) = Value.slice Av ds.length kv from by rw [hdl]] at hcat
  have hst := store_any 6 _ ds w3 (by decide) hcat (by omega) (fun c hc => ⟨by have := hdn c hc; omega, hdc c hc⟩)
  rw [hdl] at hst
  have HST := Lib.hid hst
  obtain ⟨A, hA⟩ : ∃ A, addAll arn0 0 ds = A := ⟨_, rfl⟩
  have hget : ∀ j, A.get j = clsC ds j := fun j => by rw [← hA]; exact get_cls2 hdc (by omega) j
  have HGET := Lib.hid hget
  have HAE := Lib.hid hA
  have HDL := Lib.hid hdl
  have HDS := Lib.hid hds
  have HDN := Lib.hid (And.intro hdc hdn)
  clear hown hgrow hnl hat hbp hpush hb3 hds hdc hdn hcat hst hget hA hdl HO1 HO2 HBA HRA HWA HZA hz12
  go_wp2_with fail
  refine HST.out.mono ?_
  rintro e w4 ⟨a, t, rfl, hp, hb4⟩
  rw [HAE.out] at hp
  have HNW := Lib.hid (wa_new_at hp)
  have HB4 := Lib.hid (HB3.out.trans (hb4.mono HB3.out.size))
  clear hp hb4 HST
  go_wp2_with fail
  refine HNW.out.mono ?_
  rintro e w5 ⟨b, lab, rfl, hs5, hge, hb5⟩
  have HL5 := Lib.hid (show Lw w w5 lab b a t A (trl0 6) ⟨[], [], 0⟩ from ⟨hs5, fun g hg => Nat.le_trans HB3.out.size (hge g hg), HB4.out.trans (hb5.mono HB4.out.size)⟩)
  clear hs5 hge hb5 HNW HB3 HB4
  have hwa : IntKind.i64.wrap ((cs.length : Int) + 1 + 1) = (cs.length : Int) + 1 + 1 := IntWalk.i64_in _ (by omega)
  obtain ⟨j1, hj1e, hj1⟩ : ∃ j1, max n 1 = j1 ∧ 1 ≤ j1 := ⟨_, rfl, by omega⟩
  obtain ⟨j2, hj2e, hj2⟩ : ∃ j2, min n (-1) = j2 ∧ j2 < 0 := ⟨_, rfl, by omega⟩
  by_cases hneg : n < 1
  · have q1 : decide (n < 1) = true := by simpa using hneg
    obtain ⟨N0, hN0⟩ : ∃ N0, n = N0 := ⟨_, rfl⟩
    have hN1 : -9223372036854775808 ≤ N0 := by omega
    have hN2 : N0 ≤ 9223372036854775807 := by omega
    have hNN : N0 < 1 ∨ (cs.length : Int) + 1 < N0 := by omega
    obtain ⟨M0, hM0⟩ : ∃ M0, max n ((cs.length : Int) + 1 + 1) = M0 := ⟨_, rfl⟩
    clear hneg
    subst hN0
    have hgn : A.get n = none := by
      rw [HGET.out]
      unfold clsC
      by_cases h : 1 ≤ n
      · rw [if_pos h, List.getElem?_eq_none_iff, HDL.out]
        omega
      · rw [if_neg h]
    have hgl : A.get ((cs.length : Int) + 1) = some [1, 7] := by
      rw [HGET.out]
      unfold clsC
      rw [if_pos (by omega), ← HDS.out, show ((cs.length : Int) + 1 - 1).toNat = cs.length by omega]
      simp
    have hA1 := lw_add HL5.out ((cs.length : Int) + 1) (wf64 (by omega) (by omega)) (fun d hd => by
      rw [hgl] at hd
      rw [← Option.some.inj hd]
      exact ⟨by decide, by decide, by omega, by omega⟩) (by decide) x13_s0.2
    rw [show addW A (trl0 6) ⟨[], [], 0⟩ ((cs.length : Int) + 1) = ⟨0, 40, trl0 6, ⟨[], [], 0⟩⟩ from by
      unfold addW
      rw [show (⟨[], [], 0⟩ : Wst).kn ((cs.length : Int) + 1) = none from rfl]
      simp only []
      rw [hgl]
      rfl] at hA1
    have HA1 := Lib.hid hA1
    have HGN := Lib.hid hgn
    have hwz : IntKind.i64.wrap ((cs.length : Int) + 1) = (cs.length : Int) + 1 := IntWalk.i64_in _ (by omega)
    clear hA1 hgn hgl
    go_wp2_with fail
    refine HA1.out.mono ?_
    rintro e w6 ⟨rfl, lab6, hl6, _⟩
    have hA2 := lw_add hl6 n (wf64 hN1 hN2) (fun d hd => by
      rw [HGN.out] at hd
      cases hd) (by decide) x13_s0.2
    rw [show addW A (trl0 6) ⟨[], [], 0⟩ n = ⟨0, 30, trl0 6, ⟨[], [], 0⟩⟩ from by
      unfold addW
      rw [show (⟨[], [], 0⟩ : Wst).kn n = none from rfl]
      simp only []
      rw [HGN.out]] at hA2
    have HA2 := Lib.hid hA2
    clear hA2 hl6 HA1
    go_wp2_with fail
    refine HA2.out.mono ?_
    rintro e w7 ⟨rfl, lab7, hl7, _⟩
    have HRM := Lib.hid (wa_remove_none b a t A (trl0 6) ⟨[], [], 0⟩ 1 w7 lab7 hl7.sys (by decide) rfl)
    have HBN := Lib.hid (wa_by_none b a t A (trl0 6) ⟨[], [], 0⟩ n w7 lab7 hl7.sys (wf64 hN1 hN2) rfl)
    have HL7 := Lib.hid hl7
    clear hl7 HA2
    go_wp2_with fail
    refine HRM.out.mono ?_
    rintro e w' ⟨rfl, rfl⟩
    clear HRM
    go_wp2_with fail
    refine HBN.out.mono ?_
    rintro e w' ⟨rfl, rfl⟩
    have hba := lw_back HL7.out j1 (PT.sta (st0 (fun _ => none)).pt) (PT.fit (st0 (fun _ => none)).pt)
    rw [show (trl0 6).backErr j1 = 42 from by unfold Trl.backErr; rw [if_pos (.inr hj1)], show (trl0 6).backed j1 = trl0 6 from by unfold Trl.backed; rw [if_neg (fun h => by have h2 : (trl0 6).starts.length = 1 := rfl; omega)]] at hba
    have HBA1 := Lib.hid hba
    clear hba HBN
    go_wp2_with fail
    refine HBA1.out.mono ?_
    rintro e w8 ⟨rfl, lab8, hl8, _⟩
    have hba := lw_back hl8 j2 (PT.sta (st0 (fun _ => none)).pt) (PT.fit (st0 (fun _ => none)).pt)
    rw [show (trl0 6).backErr j2 = 42 from by unfold Trl.backErr; rw [if_pos (.inl hj2)], show (trl0 6).backed j2 = trl0 6 from by unfold Trl.backed; rw [if_neg (fun h => by omega)]] at hba
    have HBA2 := Lib.hid hba
    clear hba hl8 HBA1 HL7
    go_wp2_with fail
    refine HBA2.out.mono ?_
    rintro e w9 ⟨rfl, lab9, hl9, _⟩
    have hl9' : Lw w w9 lab9 b a t A (trl0 6) ⟨[], [], 0⟩ := by
      have e : (⟨[], [], min (min 0 (trl0 6).order.length) (trl0 6).order.length⟩ : Wst) = ⟨[], [], 0⟩ := rfl
      rw [← e]
      exact hl9
    have HL9 := Lib.hid hl9'
    have HKW := Lib.hid (wa_known b a t A (trl0 6) ⟨[], [], 0⟩ w9 lab9 hl9'.sys)
    clear hl9 hl9' HBA2
    go_wp2_with fail
    refine HKW.out.mono ?_
    rintro e w10 ⟨vk, rfl, hrk, hb10⟩
    obtain ⟨Ak, ck, rfl, _⟩ := mx_slice hrk
    have HL10 := Lib.hid (HL9.out.below hb10)
    have htl := tr_len t (trl0 6) w10 HL10.out.sys.tr
    rw [show (trl0 6).order.length = 0 from rfl] at htl
    have HTL := Lib.hid htl
    rw [show (List.length ([] : List (Int × Kn))) = 0 from rfl]
    clear hrk hb10 HKW htl HL9
    go_wp2_with fail
    refine HTL.out.mono ?_
    rintro e w' ⟨rfl, rfl⟩
    have HOF := Lib.hid (wa_of b a t A (trl0 6) ⟨[], [], 0⟩ n w10 lab9 HL10.out.sys (wf64 hn1 hn2))
    clear HTL
    go_wp2_with fail
    refine HOF.out.mono ?_
    rintro e w11 ⟨vo, rfl, hro, hb11⟩
    obtain ⟨Ao, co, rfl, _⟩ := mx_slice hro
    have HL11 := Lib.hid (HL10.out.below hb11)
    rw [show ((⟨[], [], 0⟩ : Wst).row n).length = 0 from rfl]
    have HBG := Lib.hid (beg0 cs)
    have hwl : IntKind.i64.wrap ((cs.length : Int) + 1 - 1) = (cs.length : Int) := (IntWalk.i64_in _ (by omega)).trans (by omega)
    have hwl2 : IntKind.i64.wrap (cs.length : Int) = (cs.length : Int) := IntWalk.i64_in _ (by omega)
    clear hro hb11 HOF HL10
    go_wp2_with fail
    go_loopw [133] (fun i wr => ∃ (k : Nat) (labr : Nat → Nat) (T : Trl) (its : List RIt) (S : Wst) (fl : Bool), k ≤ cs.length ∧ i = .int .i64 k ∧ Hid (Lw w wr labr b a t A T S) ∧ Hid (Beg cs k T its S fl)) (fun i _ => cs.length - (intOf i).toNat)
    case atStart => exact ⟨0, lab9, trl0 6, [], ⟨[], [], 0⟩, false, Nat.zero_le _, rfl, HL11, HBG⟩
    case round =>
      obtain ⟨k, labr, T, its, S, fl, hk, rfl, HL, HG⟩ := hrel
      by_cases hlt : k < cs.length
      · obtain ⟨c, hck⟩ := getElem_of hlt
        have hsim := HG.out.st.sim
        have hfew := hsim.few HG.out.st.vars
        obtain ⟨f, _, hff⟩ := k_its (fun x hx => hsim.litb hx) hsim.nodup
        have hnx := HG.out.next h6 hck hff
        have hag : A.get ((k : Int) + 1) = some c := by
          rw [HGET.out]
          unfold clsC
          rw [if_pos (by omega), show ((k : Int) + 1 - 1).toNat = k by omega, ← HDS.out, List.getElem?_append_left hlt]
          exact hck
        have hrt := h6.right (List.mem_of_getElem? hck)
        have hc7 := h6.2 c (List.mem_of_getElem? hck)
        have hAok : ∀ d, A.get ((k : Int) + 1) = some d → d.length < 20 ∧ clauseB d = true ∧ 1 ≤ (k : Int) + 1 ∧ (k : Int) + 1 ≤ 1073741824 := fun d hd => by
          rw [hag] at hd
          rw [← Option.some.inj hd]
          exact ⟨by have := hrt.2; omega, hrt.1, by omega, by omega⟩
        have hadd := lw_add HL.out ((k : Int) + 1) (wf64 (by omega) (by omega)) hAok (by omega) HG.out.st.inv.link
        have hkn : S.kn ((k : Int) + 1) = none := by
          have := HG.out.kn ((k : Int) + 1)
          rw [decide_eq_false (by omega)] at this
          exact Option.isSome_eq_false_iff.1 this |> Option.isNone_iff_eq_none.1
        have hw : addW A T S ((k : Int) + 1) = addOk T S ((k : Int) + 1) c := by
          unfold addW
          rw [hkn]
          simp only []
          rw [hag]
          simp only []
          rw [if_neg (by
            rw [Bool.not_eq_true, List.any_eq_false]
            intro y hy
            have := (hc7.2 y hy).2
            have := HG.out.st.vars
            rw [decide_eq_true_eq]
            omega)]
        rw [hw, addOk_err] at hadd
        obtain ⟨R, hR⟩ : ∃ R, addOk T S ((k : Int) + 1) c = R := ⟨_, rfl⟩
        rw [hR] at hadd hnx
        obtain ⟨its', hbeg, _⟩ := hnx
        have hadd2 : ∀ W lb, Lw w W lb b a t A R.T R.S → Calls Tryz.prog 28 #[.pointer (some ⟨b, 0, none⟩), .int .i64 ((k : Int) + 1)] W fun e w' => e = .returned (.tuple #[.int .u8 0, .int .i64 130]) ∧ LwNext w W w' lb b a t A R.T R.S := fun W lb hl => by
          have h := lw_add hl ((k : Int) + 1) (wf64 (by omega) (by omega)) hAok (by have := hbeg.st.sim.few hbeg.st.vars; omega) hbeg.st.inv.link
          have hks := hbeg.kn ((k : Int) + 1)
          rw [decide_eq_true (by omega)] at hks
          obtain ⟨kk, hkk⟩ := Option.isSome_iff_exists.1 hks
          rw [show addW A R.T R.S ((k : Int) + 1) = ⟨0, 130, R.T, R.S⟩ from by
            unfold addW
            rw [hkk]] at h
          exact h
        have HADD := Lib.hid hadd
        have HADD2 := Lib.hid hadd2
        have HBG' := Lib.hid hbeg
        have hwk : IntKind.i64.wrap ((k : Int) + 1) = (k : Int) + 1 := IntWalk.i64_in _ (by omega)
        clear hck hsim hff hag hrt hc7 hAok hadd hkn hw hR hadd2 hbeg
        go_wp2_with fail
        refine HADD.out.mono ?_
        rintro e w12 ⟨rfl, lab12, hl12, _⟩
        have HA3 := Lib.hid (HADD2.out w12 lab12 hl12)
        clear hl12 HADD HADD2
        go_wp2_with fail
        refine HA3.out.mono ?_
        rintro e w13 ⟨rfl, lab13, hl13, _⟩
        have HL13 := Lib.hid hl13
        clear hl13 HA3
        go_wp2_with fail
        go_roundw
        case rel => exact ⟨k + 1, lab13, R.T, its', R.S, _, by omega, by go_num, HL13, HBG'⟩
        case measure => simp [intOf]; omega
      · obtain rfl : k = cs.length := by omega
        have HKW := Lib.hid (wa_known b a t A T S wr labr HL.out.sys)
        have hkl : S.known.length = cs.length := by
          have := congrArg List.length (keys_eq HG.out.st.inv.bnd HG.out.kn)
          simpa using this
        rw [hkl] at HKW
        clear hlt HG hkl
        go_wp2_with fail
        refine HKW.out.mono ?_
        rintro e w12 ⟨vk, rfl, hrk, hb12⟩
        obtain ⟨Ak, ck, rfl, _⟩ := mx_slice hrk
        have HFB := Lib.hid (HL.out.below hb12).hb
        clear hrk hb12 HKW HL
        go_wp2_with fail
        go_ret
        exact ⟨rfl, HFB.out⟩
  · have q1 : decide (n < 1) = false := by simpa using hneg
    obtain ⟨N0, hN0⟩ : ∃ N0, max n ((cs.length : Int) + 1 + 1) = N0 := ⟨_, rfl⟩
    have hN1 : -9223372036854775808 ≤ N0 := by omega
    have hN2 : N0 ≤ 9223372036854775807 := by omega
    have hNN : N0 < 1 ∨ (cs.length : Int) + 1 < N0 := by omega
    clear hneg
    have hgn : A.get N0 = none := by
      rw [HGET.out]
      unfold clsC
      by_cases h : 1 ≤ N0
      · rw [if_pos h, List.getElem?_eq_none_iff, HDL.out]
        omega
      · rw [if_neg h]
    have hgl : A.get ((cs.length : Int) + 1) = some [1, 7] := by
      rw [HGET.out]
      unfold clsC
      rw [if_pos (by omega), ← HDS.out, show ((cs.length : Int) + 1 - 1).toNat = cs.length by omega]
      simp
    have hA1 := lw_add HL5.out ((cs.length : Int) + 1) (wf64 (by omega) (by omega)) (fun d hd => by
      rw [hgl] at hd
      rw [← Option.some.inj hd]
      exact ⟨by decide, by decide, by omega, by omega⟩) (by decide) x13_s0.2
    rw [show addW A (trl0 6) ⟨[], [], 0⟩ ((cs.length : Int) + 1) = ⟨0, 40, trl0 6, ⟨[], [], 0⟩⟩ from by
      unfold addW
      rw [show (⟨[], [], 0⟩ : Wst).kn ((cs.length : Int) + 1) = none from rfl]
      simp only []
      rw [hgl]
      rfl] at hA1
    have HA1 := Lib.hid hA1
    have HGN := Lib.hid hgn
    have hwz : IntKind.i64.wrap ((cs.length : Int) + 1) = (cs.length : Int) + 1 := IntWalk.i64_in _ (by omega)
    clear hA1 hgn hgl
    go_wp2_with fail
    refine HA1.out.mono ?_
    rintro e w6 ⟨rfl, lab6, hl6, _⟩
    have hA2 := lw_add hl6 N0 (wf64 hN1 hN2) (fun d hd => by
      rw [HGN.out] at hd
      cases hd) (by decide) x13_s0.2
    rw [show addW A (trl0 6) ⟨[], [], 0⟩ N0 = ⟨0, 30, trl0 6, ⟨[], [], 0⟩⟩ from by
      unfold addW
      rw [show (⟨[], [], 0⟩ : Wst).kn N0 = none from rfl]
      simp only []
      rw [HGN.out]] at hA2
    have HA2 := Lib.hid hA2
    clear hA2 hl6 HA1
    go_wp2_with fail
    refine HA2.out.mono ?_
    rintro e w7 ⟨rfl, lab7, hl7, _⟩
    have HRM := Lib.hid (wa_remove_none b a t A (trl0 6) ⟨[], [], 0⟩ 1 w7 lab7 hl7.sys (by decide) rfl)
    have HBN := Lib.hid (wa_by_none b a t A (trl0 6) ⟨[], [], 0⟩ N0 w7 lab7 hl7.sys (wf64 hN1 hN2) rfl)
    have HL7 := Lib.hid hl7
    clear hl7 HA2
    go_wp2_with fail
    refine HRM.out.mono ?_
    rintro e w' ⟨rfl, rfl⟩
    clear HRM
    go_wp2_with fail
    refine HBN.out.mono ?_
    rintro e w' ⟨rfl, rfl⟩
    have hba := lw_back HL7.out j1 (PT.sta (st0 (fun _ => none)).pt) (PT.fit (st0 (fun _ => none)).pt)
    rw [show (trl0 6).backErr j1 = 42 from by unfold Trl.backErr; rw [if_pos (.inr hj1)], show (trl0 6).backed j1 = trl0 6 from by unfold Trl.backed; rw [if_neg (fun h => by have h2 : (trl0 6).starts.length = 1 := rfl; omega)]] at hba
    have HBA1 := Lib.hid hba
    clear hba HBN
    go_wp2_with fail
    refine HBA1.out.mono ?_
    rintro e w8 ⟨rfl, lab8, hl8, _⟩
    have hba := lw_back hl8 j2 (PT.sta (st0 (fun _ => none)).pt) (PT.fit (st0 (fun _ => none)).pt)
    rw [show (trl0 6).backErr j2 = 42 from by unfold Trl.backErr; rw [if_pos (.inl hj2)], show (trl0 6).backed j2 = trl0 6 from by unfold Trl.backed; rw [if_neg (fun h => by omega)]] at hba
    have HBA2 := Lib.hid hba
    clear hba hl8 HBA1 HL7
    go_wp2_with fail
    refine HBA2.out.mono ?_
    rintro e w9 ⟨rfl, lab9, hl9, _⟩
    have hl9' : Lw w w9 lab9 b a t A (trl0 6) ⟨[], [], 0⟩ := by
      have e : (⟨[], [], min (min 0 (trl0 6).order.length) (trl0 6).order.length⟩ : Wst) = ⟨[], [], 0⟩ := rfl
      rw [← e]
      exact hl9
    have HL9 := Lib.hid hl9'
    have HKW := Lib.hid (wa_known b a t A (trl0 6) ⟨[], [], 0⟩ w9 lab9 hl9'.sys)
    clear hl9 hl9' HBA2
    go_wp2_with fail
    refine HKW.out.mono ?_
    rintro e w10 ⟨vk, rfl, hrk, hb10⟩
    obtain ⟨Ak, ck, rfl, _⟩ := mx_slice hrk
    have HL10 := Lib.hid (HL9.out.below hb10)
    have htl := tr_len t (trl0 6) w10 HL10.out.sys.tr
    rw [show (trl0 6).order.length = 0 from rfl] at htl
    have HTL := Lib.hid htl
    rw [show (List.length ([] : List (Int × Kn))) = 0 from rfl]
    clear hrk hb10 HKW htl HL9
    go_wp2_with fail
    refine HTL.out.mono ?_
    rintro e w' ⟨rfl, rfl⟩
    have HOF := Lib.hid (wa_of b a t A (trl0 6) ⟨[], [], 0⟩ n w10 lab9 HL10.out.sys (wf64 hn1 hn2))
    clear HTL
    go_wp2_with fail
    refine HOF.out.mono ?_
    rintro e w11 ⟨vo, rfl, hro, hb11⟩
    obtain ⟨Ao, co, rfl, _⟩ := mx_slice hro
    have HL11 := Lib.hid (HL10.out.below hb11)
    rw [show ((⟨[], [], 0⟩ : Wst).row n).length = 0 from rfl]
    have HBG := Lib.hid (beg0 cs)
    have hwl : IntKind.i64.wrap ((cs.length : Int) + 1 - 1) = (cs.length : Int) := (IntWalk.i64_in _ (by omega)).trans (by omega)
    have hwl2 : IntKind.i64.wrap (cs.length : Int) = (cs.length : Int) := IntWalk.i64_in _ (by omega)
    clear hro hb11 HOF HL10
    go_wp2_with fail
    go_loopw [133] (fun i wr => ∃ (k : Nat) (labr : Nat → Nat) (T : Trl) (its : List RIt) (S : Wst) (fl : Bool), k ≤ cs.length ∧ i = .int .i64 k ∧ Hid (Lw w wr labr b a t A T S) ∧ Hid (Beg cs k T its S fl)) (fun i _ => cs.length - (intOf i).toNat)
    case atStart => exact ⟨0, lab9, trl0 6, [], ⟨[], [], 0⟩, false, Nat.zero_le _, rfl, HL11, HBG⟩
    case round =>
      obtain ⟨k, labr, T, its, S, fl, hk, rfl, HL, HG⟩ := hrel
      by_cases hlt : k < cs.length
      · obtain ⟨c, hck⟩ := getElem_of hlt
        have hsim := HG.out.st.sim
        have hfew := hsim.few HG.out.st.vars
        obtain ⟨f, _, hff⟩ := k_its (fun x hx => hsim.litb hx) hsim.nodup
        have hnx := HG.out.next h6 hck hff
        have hag : A.get ((k : Int) + 1) = some c := by
          rw [HGET.out]
          unfold clsC
          rw [if_pos (by omega), show ((k : Int) + 1 - 1).toNat = k by omega, ← HDS.out, List.getElem?_append_left hlt]
          exact hck
        have hrt := h6.right (List.mem_of_getElem? hck)
        have hc7 := h6.2 c (List.mem_of_getElem? hck)
        have hAok : ∀ d, A.get ((k : Int) + 1) = some d → d.length < 20 ∧ clauseB d = true ∧ 1 ≤ (k : Int) + 1 ∧ (k : Int) + 1 ≤ 1073741824 := fun d hd => by
          rw [hag] at hd
          rw [← Option.some.inj hd]
          exact ⟨by have := hrt.2; omega, hrt.1, by omega, by omega⟩
        have hadd := lw_add HL.out ((k : Int) + 1) (wf64 (by omega) (by omega)) hAok (by omega) HG.out.st.inv.link
        have hkn : S.kn ((k : Int) + 1) = none := by
          have := HG.out.kn ((k : Int) + 1)
          rw [decide_eq_false (by omega)] at this
          exact Option.isSome_eq_false_iff.1 this |> Option.isNone_iff_eq_none.1
        have hw : addW A T S ((k : Int) + 1) = addOk T S ((k : Int) + 1) c := by
          unfold addW
          rw [hkn]
          simp only []
          rw [hag]
          simp only []
          rw [if_neg (by
            rw [Bool.not_eq_true, List.any_eq_false]
            intro y hy
            have := (hc7.2 y hy).2
            have := HG.out.st.vars
            rw [decide_eq_true_eq]
            omega)]
        rw [hw, addOk_err] at hadd
        obtain ⟨R, hR⟩ : ∃ R, addOk T S ((k : Int) + 1) c = R := ⟨_, rfl⟩
        rw [hR] at hadd hnx
        obtain ⟨its', hbeg, _⟩ := hnx
        have hadd2 : ∀ W lb, Lw w W lb b a t A R.T R.S → Calls Tryz.prog 28 #[.pointer (some ⟨b, 0, none⟩), .int .i64 ((k : Int) + 1)] W fun e w' => e = .returned (.tuple #[.int .u8 0, .int .i64 130]) ∧ LwNext w W w' lb b a t A R.T R.S := fun W lb hl => by
          have h := lw_add hl ((k : Int) + 1) (wf64 (by omega) (by omega)) hAok (by have := hbeg.st.sim.few hbeg.st.vars; omega) hbeg.st.inv.link
          have hks := hbeg.kn ((k : Int) + 1)
          rw [decide_eq_true (by omega)] at hks
          obtain ⟨kk, hkk⟩ := Option.isSome_iff_exists.1 hks
          rw [show addW A R.T R.S ((k : Int) + 1) = ⟨0, 130, R.T, R.S⟩ from by
            unfold addW
            rw [hkk]] at h
          exact h
        have HADD := Lib.hid hadd
        have HADD2 := Lib.hid hadd2
        have HBG' := Lib.hid hbeg
        have hwk : IntKind.i64.wrap ((k : Int) + 1) = (k : Int) + 1 := IntWalk.i64_in _ (by omega)
        clear hck hsim hff hag hrt hc7 hAok hadd hkn hw hR hadd2 hbeg
        go_wp2_with fail
        refine HADD.out.mono ?_
        rintro e w12 ⟨rfl, lab12, hl12, _⟩
        have HA3 := Lib.hid (HADD2.out w12 lab12 hl12)
        clear hl12 HADD HADD2
        go_wp2_with fail
        refine HA3.out.mono ?_
        rintro e w13 ⟨rfl, lab13, hl13, _⟩
        have HL13 := Lib.hid hl13
        clear hl13 HA3
        go_wp2_with fail
        go_roundw
        case rel => exact ⟨k + 1, lab13, R.T, its', R.S, _, by omega, by go_num, HL13, HBG'⟩
        case measure => simp [intOf]; omega
      · obtain rfl : k = cs.length := by omega
        have HKW := Lib.hid (wa_known b a t A T S wr labr HL.out.sys)
        have hkl : S.known.length = cs.length := by
          have := congrArg List.length (keys_eq HG.out.st.inv.bnd HG.out.kn)
          simpa using this
        rw [hkl] at HKW
        clear hlt HG hkl
        go_wp2_with fail
        refine HKW.out.mono ?_
        rintro e w12 ⟨vk, rfl, hrk, hb12⟩
        obtain ⟨Ak, ck, rfl, _⟩ := mx_slice hrk
        have HFB := Lib.hid (HL.out.below hb12).hb
        clear hrk hb12 HKW HL
        go_wp2_with fail
        go_ret
        exact ⟨rfl, HFB.out⟩
theorem wrong_wf (ux : Value) (xss : List (List Int)) (n : Int) (w : World) (hx : RowsAt .i8 w ux xss) (hn : (Lit.int .i64 n).wf = true) :
    Calls Tryz.prog 5 #[ux, .int .i64 n] w fun e w' => e = .returned (.bool true) ∧ Below w.heap.size w w' := by
  simp only [Lit.wf, Bool.and_eq_true, decide_eq_true_eq] at hn
  exact wrong_any ux xss n w hx hn.1 hn.2
end Go.Proofs.YtobcnejecogfoaaGreat
