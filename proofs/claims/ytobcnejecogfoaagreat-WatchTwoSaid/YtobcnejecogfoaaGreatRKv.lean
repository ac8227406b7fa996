/- package salvorlaw13: WatchTwo. -/
import Derived.Test.YtobcnejecogfoaaGreatRKu
import Derived.Deep.DeepCutAuto
namespace Go.Proofs.YtobcnejecogfoaaGreat
open Go.RowKit

set_option maxRecDepth 100000 in
set_option maxHeartbeats 16000000 in
theorem two_walk (A1 : Option Addr) (c1 m : Nat) (ux : Value) (xss : List (List Int)) (l : List Int) (w : World) (hx : RowsAt .i8 w ux xss) (hl : RowAt .i8 w (.slice A1 l.length c1) l) (hN : min (l.length : Int) 8 = (m : Int)) (hm8 : m ≤ 8) (hml : m ≤ l.length) :
    Calls Tryz.prog 10 #[ux, .slice A1 l.length c1] w fun e w' => e = .returned (.bool true) ∧ Below w.heap.size w w' := by
  obtain ⟨Av, cv, hA, hlc, hmx, _, hwf, hlx⟩ := hl
  cases hA
  have HX := Lib.hid hx
  have HLX := Lib.hid hlx
  have HWF := Lib.hid hwf
  obtain ⟨Ax, cx, rfl, _⟩ := hx
  unfold maxLen at hmx
  obtain ⟨cs, hcs⟩ : ∃ cs, (xss.take 14).map madeL = cs := ⟨_, rfl⟩
  have h6 : Six cs := by rw [← hcs]; exact six_made xss 14 (by omega)
  have hcl := h6.1
  have HCS := Lib.hid hcs
  clear hlx hwf hcs
  go_enter Tryz.func10, Tryz.ntmps10
  go_wp2_with fail
  refine (awake13 w).mono ?_
  rintro e w1 ⟨rfl, hb1⟩
  have HAL := Lib.hid (all_any _ xss 14 w1 (HX.out.below hb1) (by decide))
  have HB1 := Lib.hid hb1
  clear hb1
  go_wp2_with fail
  refine HAL.out.mono ?_
  rintro e w2 ⟨vc, rfl, hoc, hb2⟩
  rw [HCS.out] at hoc
  have hcat := hoc.cls
  obtain ⟨Ac, cc, rfl, _⟩ := id hcat
  have HC := Lib.hid hcat
  have HST := Lib.hid (law_started Ac cc cs w2 hcat h6)
  have HB2 := Lib.hid (HB1.out.trans (hb2.mono HB1.out.size))
  clear hoc hb2 hcat HAL HB1
  go_wp2_with fail
  refine HST.out.mono ?_
  rintro e w3 ⟨b, a, t, lab, T, its, S, fl, rfl, hsd⟩
  have HSD := Lib.hid hsd
  clear hsd HST
  go_wp2_with fail
  go_loopw [9, 11] (fun fv i wr => ∃ (k : Nat) (fl : Bool) (labr : Nat → Nat) (T : Trl) (its : List RIt) (S : Wst), k ≤ m + 1 ∧ i = .int .i64 ((k : Int) - 1) ∧ fv = .bool fl ∧ Hid (Lw w2 wr labr b a t (addAll arn0 0 cs) T S) ∧ Hid (St (clsC cs) T its S ∧ ∀ j, (S.kn j).isSome = (clsC cs j).isSome) ∧ Hid (fl = false → Run cs T its S) ∧ Hid (T.now ≤ (k : Int))) (fun _ i _ => m + 1 - (intOf i + 1).toNat)
  case atStart => exact ⟨0, fl, lab, T, its, S, by omega, rfl, rfl, Lib.hid HSD.out.lw, Lib.hid ⟨HSD.out.st, HSD.out.kn⟩, Lib.hid HSD.out.ok, Lib.hid (by rw [HSD.out.now]; exact Int.le_refl 0)⟩
  case round =>
    obtain ⟨k, fl, labr, T, its, S, hk, rfl, rfl, HL, HS, HRN, HK⟩ := hrel
    by_cases hlt : k < m + 1
    · have hqk : decide ((k : Int) - 1 < (m : Int)) = true := by simp; omega
      go_upto_region 10 with fail
      go_cut [50] (fun q wx => q = .bool (decide ((0 : Int) ≤ (k : Int) - 1) && !fl) ∧ wx = wr)
      case first =>
        by_cases hk0 : k = 0
        · have q1 : decide ((0 : Int) ≤ (k : Int) - 1) = false := by simp; omega
          go_wp2_with fail
          go_meet
          exact ⟨by rw [q1]; rfl, rfl⟩
        · have q1 : decide ((0 : Int) ≤ (k : Int) - 1) = true := by simp; omega
          go_wp2_with fail
          go_meet
          exact ⟨by rw [q1]; cases fl <;> rfl, rfl⟩
      case rest =>
       obtain ⟨rfl, rfl⟩ := hcut
       go_upto_if 50 with fail
       go_cut [9] (fun fv wx => ∃ (fl : Bool) (labx : Nat → Nat) (T : Trl) (its : List RIt) (S : Wst), fv = .bool fl ∧ Hid (Lw w2 wx labx b a t (addAll arn0 0 cs) T S) ∧ Hid (St (clsC cs) T its S ∧ ∀ j, (S.kn j).isSome = (clsC cs j).isSome) ∧ Hid (fl = false → Run cs T its S) ∧ Hid (T.now ≤ (k : Int) + 1))
       case first =>
        by_cases hk0 : k = 0
        · have q1 : decide ((0 : Int) ≤ (k : Int) - 1) = false := by simp; omega
          rw [show (decide ((0 : Int) ≤ (k : Int) - 1) && !fl) = false from by rw [q1]; rfl]
          go_wp2_with fail
          go_meet
          exact ⟨fl, labr, T, its, S, rfl, HL, HS, HRN, Lib.hid (by have := HK.out; omega)⟩
        · have q1 : decide ((0 : Int) ≤ (k : Int) - 1) = true := by simp; omega
          cases fl with
          | true =>
            rw [show (decide ((0 : Int) ≤ (k : Int) - 1) && !true) = false from by rw [q1]; rfl]
            go_wp2_with fail
            go_meet
            exact ⟨true, labr, T, its, S, rfl, HL, HS, HRN, Lib.hid (by have := HK.out; omega)⟩
          | false =>
            rw [show (decide ((0 : Int) ≤ (k : Int) - 1) && !false) = true from by rw [q1]; rfl]
            obtain ⟨j, hj⟩ : ∃ j : Nat, k = j + 1 := ⟨k - 1, by omega⟩
            have hji : (k : Int) - 1 = (j : Int) := by omega
            have hjl : j < l.length := by omega
            have hjl2 : (j : Int) < (l.length : Int) := by omega
            obtain ⟨n, hnk⟩ := getElem_of hjl
            obtain ⟨g, o, rfl, hg, d0⟩ := HLX.out j n hnk
            have d1 := (HL.out.hb.cell (p := ⟨g, o + j, none⟩) (Nat.lt_of_lt_of_le hg HB2.out.size)).trans ((HB2.out.cell (p := ⟨g, o + j, none⟩) hg).trans d0)
            have HMO := Lib.hid (made_one n wc (HWF.out n (List.mem_of_getElem? hnk)))
            have HYN := Lib.hid (madeLit_six n)
            have HR := Lib.hid (HRN.out rfl)
            have HJ := Lib.hid hj
            clear hnk d0 hj q1
            have q1 : decide ((0 : Int) ≤ (j : Int)) = true := by simp
            rw [hji]
            go_wp2_with fail
            refine HMO.out.mono ?_
            rintro e w9 ⟨gy, cy, rfl, hcy, hy, hb9⟩
            have HL9 := Lib.hid (HL.out.below hb9)
            have HDE := Lib.hid (run_dec2 HL9.out HR.out h6 HYN.out (by have := HK.out; omega))
            clear hb9 HMO d1
            go_wp2_with fail
            refine HDE.out.mono ?_
            rintro e w10 ⟨R, i10, rfl, hd, _, hne, lab10, hl10, _⟩
            have HD := Lib.hid hd
            have HL10 := Lib.hid hl10
            have HNE := Lib.hid hne
            obtain ⟨r, hr⟩ : ∃ r, R.2.2 = r := ⟨_, rfl⟩
            rw [hr]
            have HRR := Lib.hid hr
            clear hd hl10 hne hr HDE HL9 hy
            cases r with
            | none =>
              rw [show (none : Option Int).getD 0 = 0 from rfl]
              go_wp2_with fail
              rw [← hji]
              go_meet
              exact ⟨false, lab10, R.1, i10, R.2.1, rfl, HL10, Lib.hid ⟨HD.out.st, HD.out.kn⟩, Lib.hid (fun _ => HD.out.ok HRR.out), Lib.hid (by have := HD.out.now; have := HK.out; omega)⟩
            | some id =>
              rw [show (some id : Option Int).getD 0 = id from rfl]
              have hz : (id != 0) = true := by simpa using HNE.out id HRR.out
              go_wp2_with fail
              rw [← hji]
              go_meet
              exact ⟨true, lab10, R.1, i10, R.2.1, rfl, HL10, Lib.hid ⟨HD.out.st, HD.out.kn⟩, Lib.hid (fun h => by cases h), Lib.hid (by have := HD.out.now; have := HK.out; omega)⟩
       case rest =>
        clear HL HS HRN HK
        obtain ⟨fl, labx, T, its, S, rfl, HL, HS, HRN, HK⟩ := hcut
        have hkeys : S.known.map Prod.fst = (List.range cs.length).map fun i : Nat => (i : Int) + 1 := keys_eq HS.out.1.inv.bnd (fun j => by
          rw [HS.out.2]
          unfold clsC
          by_cases h1 : 1 ≤ j
          · rw [if_pos h1]
            cases hc : cs[(j - 1).toNat]? with
            | none =>
              rw [List.getElem?_eq_none_iff] at hc
              exact (decide_eq_false (by omega)).symm
            | some c =>
              have := (List.getElem?_eq_some_iff.1 hc).1
              exact (decide_eq_true (by omega)).symm
          · rw [if_neg h1]
            exact (decide_eq_false (by omega)).symm)
        have hkl : S.known.length = cs.length := by
          have := congrArg List.length hkeys
          simpa using this
        have hkw := wa_known b a t (addAll arn0 0 cs) T S wc labx HL.out.sys
        rw [hkeys, hkl] at hkw
        have HKW := Lib.hid hkw
        clear hkeys hkl hkw
        go_wp2_with fail
        refine HKW.out.mono ?_
        rintro e w5 ⟨vk, rfl, hrk, hb5⟩
        have HKR := Lib.hid (show IntsIn (fun g => g < w5.heap.size) w5 vk ((List.range cs.length).map fun i : Nat => (i : Int) + 1) from (IntsIn.of_own (base := wc.heap.size) (e := 3) (by rw [List.length_map, List.length_range]; exact hrk)).lt.mono (fun g hg => hg.2))
        obtain ⟨Ak, ck, rfl, hkc⟩ := mx_slice hrk
        have HL5 := Lib.hid (HL.out.below hb5)
        clear hrk hb5 HKW HL
        go_wp2_with fail
        go_loopw [78] (fun i wr => ∃ p : Nat, p ≤ cs.length ∧ i = .int .i64 p ∧ Hid (Below w5.heap.size w5 wr)) (fun i _ => cs.length - (intOf i).toNat)
        case atStart => exact ⟨0, Nat.zero_le _, rfl, Lib.hid (Below.refl _ _)⟩
        case round =>
          obtain ⟨p, hp, rfl, HB⟩ := hrel
          by_cases hpl : p < cs.length
          · have HLW := Lib.hid (HL5.out.below HB.out)
            obtain ⟨c, hck⟩ := getElem_of hpl
            obtain ⟨A2, c2, hA2, hys⟩ := HC.out.below HLW.out.hb
            simp only [Value.slice.injEq, true_and] at hA2
            obtain ⟨rfl, rfl⟩ := hA2
            obtain ⟨g2, o2, u, rfl, hg2, f0, hu⟩ := hys p c hck
            have hcc : clsC cs ((p : Int) + 1) = some c := by
              unfold clsC
              rw [if_pos (by omega), show ((p : Int) + 1 - 1).toNat = p by omega]
              exact hck
            have hks := HS.out.2 ((p : Int) + 1)
            rw [hcc] at hks
            obtain ⟨kk, hkk⟩ := Option.isSome_iff_exists.1 hks
            obtain ⟨hby, hrow⟩ := bys_ok HS.out.1 h6 hcc hkk
            have hwby := wa_by b a t (addAll arn0 0 cs) T S ((p : Int) + 1) kk wr labx HLW.out.sys (wf64 (by omega) (by omega)) hkk
            rw [show kk.lits.filter kk.by_.contains = kk.bys from rfl] at hwby
            obtain ⟨bs, hbs⟩ : ∃ bs, kk.bys = bs := ⟨_, rfl⟩
            rw [hbs] at hwby hby hrow
            have hkp : ((List.range cs.length).map fun i : Nat => (i : Int) + 1)[p]? = some ((p : Int) + 1) := by
              rw [List.getElem?_map, List.getElem?_range hpl]
              rfl
            obtain ⟨A3, c3, hA3, _, _, hzs⟩ := HKR.out
            simp only [Value.slice.injEq] at hA3
            obtain ⟨rfl, -, rfl⟩ := hA3
            obtain ⟨gk, ok, rfl, hgk, _, k0⟩ := hzs p _ hkp
            have HKC := Lib.hid (show ∀ W, Below wr.heap.size wr W → W.cell? ⟨gk, ok + p, none⟩ = some (.int .i64 ((p : Int) + 1)) from fun W hb => ((HB.out.trans (hb.mono HB.out.size)).cell (p := ⟨gk, ok + p, none⟩) hgk).trans k0)
            have hrt := h6.right (List.mem_of_getElem? hck)
            have HWBY := Lib.hid hwby
            have HBY := Lib.hid hby
            have HROW := Lib.hid hrow
            have HRT := Lib.hid hrt
            have HU := Lib.hid hu
            obtain ⟨Au, cu, rfl, _⟩ := id hu
            have hwp : IntKind.i64.wrap ((p : Int) + 1) = (p : Int) + 1 := IntWalk.i64_in _ (by omega)
            have hpi : (p : Int) < (cs.length : Int) := by omega
            clear hck hys hcc hks hkk hby hrow hwby hbs hkp hzs k0 hrt hu
            go_wp2_with fail
            refine HWBY.out.mono ?_
            rintro e w6 ⟨vb, rfl, hrb, hb6⟩
            have HRB := Lib.hid hrb
            have HB6 := Lib.hid hb6
            obtain ⟨Ab, cb, rfl, hbc⟩ := mx_slice hrb
            have HNO := Lib.hid (norm_any _ c w6 (HU.out.below hb6) (by have := HRT.out.2; omega))
            clear hrb hb6 HWBY f0
            go_wp2_with fail
            refine HNO.out.mono ?_
            rintro e w7 ⟨hno, hb7⟩
            unfold NormOut at hno
            rw [if_pos HRT.out.1] at hno
            obtain ⟨vn, rfl, hrn⟩ := hno
            obtain ⟨An, cn, rfl, _⟩ := mx_slice hrn
            have HB7 := Lib.hid (HB6.out.trans (hb7.mono HB6.out.size))
            have HRB7 := Lib.hid (own_below HRB.out hb7)
            obtain ⟨al, hal⟩ : ∃ al, alwL c = al := ⟨_, rfl⟩
            obtain ⟨nl, hnl⟩ : ∃ nl, (normL c).length = nl := ⟨_, rfl⟩
            rw [hal, hnl]
            have HWN := Lib.hid (show wantN c = if al = true ∨ nl < 2 then 0 else 2 from by unfold wantN; rw [hal, hnl])
            clear hrn hb7 hal hnl HNO HB6 HRB
            go_upto_region 24 with fail
            go_cut [101] (fun q wx => q = .bool (al || decide ((nl : Int) < 2)) ∧ wx = w7)
            case first =>
              cases al with
              | true =>
                go_wp2_with fail
                go_meet
                exact ⟨rfl, rfl⟩
              | false =>
                go_wp2_with fail
                go_meet
                exact ⟨rfl, rfl⟩
            case rest =>
             obtain ⟨rfl, rfl⟩ := hcut
             go_upto_if 101 with fail
             go_cut [22] (fun q wx => q = .int .i64 (wantN c : Nat) ∧ wx = wc)
             case first =>
              by_cases hw : al = true ∨ nl < 2
              · have e1 : (al || decide ((nl : Int) < 2)) = true := by
                  rcases hw with h | h
                  · rw [h]; rfl
                  · rw [show decide ((nl : Int) < 2) = true from by simp; omega, Bool.or_true]
                have e0 : wantN c = 0 := by rw [HWN.out, if_pos hw]
                rw [e1]
                clear hw
                go_wp2_with fail
                go_meet
                exact ⟨by rw [e0]; rfl, rfl⟩
              · have e1 : (al || decide ((nl : Int) < 2)) = false := by
                  rw [Bool.or_eq_false_iff]
                  exact ⟨by cases al; · rfl
                            · exact absurd (.inl rfl) hw, by simp; omega⟩
                have e0 : wantN c = 2 := by rw [HWN.out, if_neg hw]
                rw [e1]
                clear hw
                go_wp2_with fail
                go_meet
                exact ⟨by rw [e0]; rfl, rfl⟩
             case rest =>
              obtain ⟨rfl, rfl⟩ := hcut
              rcases HBY.out with ⟨e0, rfl⟩ | ⟨e0, p1, p2, rfl, hne, hm1, hm2⟩
              · rw [e0]
                go_upto_region 26 with fail
                refine wp_region_held_drew (S := fun w' => Below wc.heap.size wc w') (by kernel_rfl) (mx_drew wc) (fun hS => ?_)
                refine takeE 0 102 ?_
                refine takeE 1 103 ?_
                refine takeE 2 104 ?_
                refine takeF 3 105 (fun wq hSw => HKC.out wq (HB7.out.trans (hSw.mono HB7.out.size))) ?_
                refine takeE 4 106 ?_
                refine takeE 5 107 ?_
                refine takeE 6 108 ?_
                refine takeE 7 109 ?_
                refine takeE 8 110 ?_
                refine takeE 9 111 ?_
                refine takeE 10 112 ?_
                refine takeE 11 113 ?_
                refine takeE 12 114 ?_
                refine takeE 13 115 ?_
                refine takeE 14 116 ?_
                refine takeE 15 117 ?_
                refine takeE 16 118 ?_
                refine takeE 17 119 ?_
                refine takeE 18 120 ?_
                refine takeE 19 121 ?_
                refine takeE 20 122 ?_
                refine takeE 21 123 ?_
                refine takeE 22 124 ?_
                refine takeE 23 125 ?_
                refine takeE 24 126 ?_
                refine takeU 25 127 ?_
                refine takeU 26 128 ?_
                refine takeU 27 129 ?_
                refine takeU 28 130 ?_
                refine takeU 29 131 ?_
                refine takeU 30 132 ?_
                refine takeU 31 133 ?_
                refine takeU 32 134 ?_
                refine takeU 33 135 ?_
                refine takeU 34 136 ?_
                refine takeU 35 137 ?_
                refine takeU 36 138 ?_
                refine takeU 37 139 ?_
                refine takeU 38 140 ?_
                refine takeU 39 141 ?_
                refine takeU 40 142 ?_
                refine takeU 41 143 ?_
                refine takeU 42 144 ?_
                refine takeU 43 145 ?_
                refine takeU 44 146 ?_
                refine takeU 45 147 ?_
                refine takeU 46 148 ?_
                refine takeU 47 149 ?_
                refine takeE 48 150 ?_
                refine takeE 49 151 ?_
                refine wpAnyH_done (by kernel_rfl) ?_ _
                obtain ⟨w8, hw8⟩ : ∃ y, wc.drew = y := ⟨_, rfl⟩
                rw [hw8] at hS ⊢
                have HB8 := Lib.hid (HB.out.trans ((HB7.out.trans (hS.mono HB7.out.size)).mono HB.out.size))
                have HIB := Lib.hid (show IntsIn (fun g => g < w8.heap.size) w8 (.slice Ab 0 cb) [] from (IntsIn.of_own (own_below HRB7.out hS)).lt.mono (fun g hg => hg.2))
                clear hS hw8 HRB7
                go_wp2_with fail
                go_loopw [23] (fun i wr => ∃ j : Int, -6 ≤ j ∧ j ≤ 7 ∧ i = .int .i64 j ∧ Hid (Below w8.heap.size w8 wr)) (fun i _ => (7 - intOf i).toNat)
                case atStart => exact ⟨-6, by omega, by omega, rfl, Lib.hid (Below.refl _ _)⟩
                case round =>
                  obtain ⟨j, hj1, hj2, rfl, HBV⟩ := hrel
                  by_cases hjl : j < 7
                  · have q7 : decide (j < 7) = true := by simpa using hjl
                    have hwj : IntKind.i64.wrap (j + 1) = j + 1 := IntWalk.i64_in _ (by omega)
                    have HLV := Lib.hid (HL5.out.below (HB8.out.trans (HBV.out.mono HB8.out.size)))
                    have HOF := Lib.hid (wa_of b a t (addAll arn0 0 cs) T S j _ labx HLV.out.sys (wf64 (by omega) (by omega)))
                    go_wp2_with fail
                    refine HOF.out.mono ?_
                    rintro e w9 ⟨vo, rfl, hro, hb9⟩
                    have hio := IntsIn.of_own hro
                    have hlr := HS.out.1.inv.bnd.rowLen j
                    have HC1 := Lib.hid (contains_i _ _ ((p : Int) + 1) w9 hio (by omega))
                    obtain ⟨Ao, co, rfl, _⟩ := mx_slice hro
                    have HB9 := Lib.hid (HBV.out.trans (hb9.mono HBV.out.size))
                    have HC2 := Lib.hid (contains_l _ _ j w9 (HIB.out.below HB9.out) (by simp))
                    have hq := HROW.out j
                    obtain ⟨z, hz⟩ : ∃ z, (S.row j).contains ((p : Int) + 1) = z := ⟨_, rfl⟩
                    rw [hz] at HC1 hq
                    rw [← hq] at HC2
                    clear hro hb9 hio hlr hz hq HOF
                    go_wp2_with fail
                    refine HC1.out.mono ?_
                    rintro e w' ⟨rfl, rfl⟩
                    go_wp2_with fail
                    refine HC2.out.mono ?_
                    rintro e w' ⟨rfl, rfl⟩
                    clear HC1 HC2
                    cases z with
                    | true =>
                      go_wp2_with fail
                      go_roundw
                      case rel => exact ⟨j + 1, by omega, by omega, rfl, HB9⟩
                      case measure => simp [intOf]; omega
                    | false =>
                      go_wp2_with fail
                      go_roundw
                      case rel => exact ⟨j + 1, by omega, by omega, rfl, HB9⟩
                      case measure => simp [intOf]; omega
                  · obtain rfl : j = 7 := by omega
                    have HBF := Lib.hid (HB8.out.trans (HBV.out.mono HB8.out.size))
                    go_wp2_with fail
                    go_roundw
                    case rel => exact ⟨p + 1, by omega, by go_num, HBF⟩
                    case measure => simp [intOf]; omega
              · have hne' : (p1 == p2) = false := by simpa using hne
                obtain ⟨gb, kb, cbb, hvb, hkb, _, hgb, hblk, _⟩ := mx_some HRB7.out (by simp)
                simp only [Value.slice.injEq, true_and] at hvb
                obtain ⟨rfl, rfl⟩ := hvb
                have D0 := Lib.hid (show wc.cell? ⟨gb, 0, none⟩ = some (.int .i64 p1) from mx_at HRB7.out rfl)
                have D1 := Lib.hid (show wc.cell? ⟨gb, 1, none⟩ = some (.int .i64 p2) from mx_at HRB7.out rfl)
                clear hblk
                rw [e0]
                go_upto_region 26 with fail
                refine wp_region_held_drew (S := fun w' => Below wc.heap.size wc w') (by kernel_rfl) (mx_drew wc) (fun hS => ?_)
                refine takeE 0 102 ?_
                refine takeE 1 103 ?_
                refine takeE 2 104 ?_
                refine takeF 3 105 (fun wq hSw => HKC.out wq (HB7.out.trans (hSw.mono HB7.out.size))) ?_
                refine takeE 4 106 ?_
                refine takeE 5 107 ?_
                refine takeE 6 108 ?_
                refine takeE 7 109 ?_
                refine takeE 8 110 ?_
                refine takeE 9 111 ?_
                refine takeE 10 112 ?_
                refine takeE 11 113 ?_
                refine takeE 12 114 ?_
                refine takeE 13 115 ?_
                refine takeE 14 116 ?_
                refine takeE 15 117 ?_
                refine takeE 16 118 ?_
                refine takeE 17 119 ?_
                refine takeE 18 120 ?_
                refine takeE 19 121 ?_
                refine takeE 20 122 ?_
                refine takeE 21 123 ?_
                refine takeE 22 124 ?_
                refine takeE 23 125 ?_
                refine takeE 24 126 ?_
                refine takeE 25 127 ?_
                refine takeE 26 128 ?_
                refine takeF 27 129 (fun wq hSw => (hSw.cell (p := ⟨gb, 0, none⟩) hgb).trans D0.out) ?_
                refine takeE 28 130 ?_
                refine takeE 29 131 ?_
                refine takeF 30 132 (fun wq hSw => (hSw.cell (p := ⟨gb, 1, none⟩) hgb).trans D1.out) ?_
                refine takeE 31 133 ?_
                refine takeE 32 134 ?_
                refine takeE 33 135 ?_
                refine takeE 34 136 ?_
                refine takeE 35 137 ?_
                refine takeF 36 138 (fun wq hSw => (hSw.cell (p := ⟨gb, 0, none⟩) hgb).trans D0.out) ?_
                refine ready1 37 (fun K hK => ?_)
                go_simp
                refine (cls_has _ c _ _ (HU.out.below (HB7.out.trans (hS.mono HB7.out.size))) HRT.out.1 (by have := HRT.out.2; omega) hm1).mono ?_
                rintro e w' ⟨rfl, rfl⟩
                refine hK.out _ _ hS (fun _ => ?_)
                clear hK
                refine takeE 38 140 ?_
                refine takeE 39 141 ?_
                refine takeE 40 142 ?_
                refine takeE 41 143 ?_
                refine takeE 42 144 ?_
                refine takeE 43 145 ?_
                refine takeF 44 146 (fun wq hSw => (hSw.cell (p := ⟨gb, 1, none⟩) hgb).trans D1.out) ?_
                refine ready1 45 (fun K hK => ?_)
                go_simp
                refine (cls_has _ c _ _ (HU.out.below (HB7.out.trans (hS.mono HB7.out.size))) HRT.out.1 (by have := HRT.out.2; omega) hm2).mono ?_
                rintro e w' ⟨rfl, rfl⟩
                refine hK.out _ _ hS (fun _ => ?_)
                clear hK
                refine takeE 46 148 ?_
                refine takeE 47 149 ?_
                refine takeE 48 150 ?_
                refine takeE 49 151 ?_
                refine wpAnyH_done (by kernel_rfl) ?_ _
                obtain ⟨w8, hw8⟩ : ∃ y, wc.drew = y := ⟨_, rfl⟩
                rw [hw8] at hS ⊢
                have HB8 := Lib.hid (HB.out.trans ((HB7.out.trans (hS.mono HB7.out.size)).mono HB.out.size))
                have HIB := Lib.hid (show IntsIn (fun g => g < w8.heap.size) w8 (.slice (some ⟨gb, 0, none⟩) 2 cb) [p1, p2] from (IntsIn.of_own (own_below HRB7.out hS)).lt.mono (fun g hg => hg.2))
                clear hS hw8 HRB7
                go_wp2_with fail
                go_loopw [23] (fun i wr => ∃ j : Int, -6 ≤ j ∧ j ≤ 7 ∧ i = .int .i64 j ∧ Hid (Below w8.heap.size w8 wr)) (fun i _ => (7 - intOf i).toNat)
                case atStart => exact ⟨-6, by omega, by omega, rfl, Lib.hid (Below.refl _ _)⟩
                case round =>
                  obtain ⟨j, hj1, hj2, rfl, HBV⟩ := hrel
                  by_cases hjl : j < 7
                  · have q7 : decide (j < 7) = true := by simpa using hjl
                    have hwj : IntKind.i64.wrap (j + 1) = j + 1 := IntWalk.i64_in _ (by omega)
                    have HLV := Lib.hid (HL5.out.below (HB8.out.trans (HBV.out.mono HB8.out.size)))
                    have HOF := Lib.hid (wa_of b a t (addAll arn0 0 cs) T S j _ labx HLV.out.sys (wf64 (by omega) (by omega)))
                    go_wp2_with fail
                    refine HOF.out.mono ?_
                    rintro e w9 ⟨vo, rfl, hro, hb9⟩
                    have hio := IntsIn.of_own hro
                    have hlr := HS.out.1.inv.bnd.rowLen j
                    have HC1 := Lib.hid (contains_i _ _ ((p : Int) + 1) w9 hio (by omega))
                    obtain ⟨Ao, co, rfl, _⟩ := mx_slice hro
                    have HB9 := Lib.hid (HBV.out.trans (hb9.mono HBV.out.size))
                    have HC2 := Lib.hid (contains_l _ _ j w9 (HIB.out.below HB9.out) (by simp))
                    have hq := HROW.out j
                    obtain ⟨z, hz⟩ : ∃ z, (S.row j).contains ((p : Int) + 1) = z := ⟨_, rfl⟩
                    rw [hz] at HC1 hq
                    rw [← hq] at HC2
                    clear hro hb9 hio hlr hz hq HOF
                    go_wp2_with fail
                    refine HC1.out.mono ?_
                    rintro e w' ⟨rfl, rfl⟩
                    go_wp2_with fail
                    refine HC2.out.mono ?_
                    rintro e w' ⟨rfl, rfl⟩
                    clear HC1 HC2
                    cases z with
                    | true =>
                      go_wp2_with fail
                      go_roundw
                      case rel => exact ⟨j + 1, by omega, by omega, rfl, HB9⟩
                      case measure => simp [intOf]; omega
                    | false =>
                      go_wp2_with fail
                      go_roundw
                      case rel => exact ⟨j + 1, by omega, by omega, rfl, HB9⟩
                      case measure => simp [intOf]; omega
                  · obtain rfl : j = 7 := by omega
                    have HBF := Lib.hid (HB8.out.trans (HBV.out.mono HB8.out.size))
                    go_wp2_with fail
                    go_roundw
                    case rel => exact ⟨p + 1, by omega, by go_num, HBF⟩
                    case measure => simp [intOf]; omega
          · obtain rfl : p = cs.length := by omega
            have HLF := Lib.hid (HL5.out.below HB.out)
            go_wp2_with fail
            go_roundw
            case rel => exact ⟨k + 1, fl, labx, T, its, S, by omega, by go_num, rfl, HLF, HS, HRN, Lib.hid (by have := HK.out; omega)⟩
            case measure => simp [intOf]; omega
    · have hqk : decide ((k : Int) - 1 < (m : Int)) = false := by simp; omega
      have HFB := Lib.hid (HB2.out.trans (HL.out.hb.mono HB2.out.size))
      go_wp2_with fail
      go_ret
      exact ⟨rfl, HFB.out⟩
theorem two_any (ux ul : Value) (xss : List (List Int)) (l : List Int) (w : World) (hx : RowsAt .i8 w ux xss) (hl : RowAt .i8 w ul l) :
    Calls Tryz.prog 10 #[ux, ul] w fun e w' => e = .returned (.bool true) ∧ Below w.heap.size w w' := by
  obtain ⟨A1, c1, rfl, _⟩ := id hl
  exact two_walk A1 c1 (min l.length 8) ux xss l w hx hl (by omega) (by omega) (by omega)
end Go.Proofs.YtobcnejecogfoaaGreat
