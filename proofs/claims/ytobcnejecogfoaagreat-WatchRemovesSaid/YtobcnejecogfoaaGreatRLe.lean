/- package salvorlaw13: WatchRemoves. -/
import Derived.Test.YtobcnejecogfoaaGreatRLc
import Derived.Test.YtobcnejecogfoaaGreatRLd
import Derived.Test.YtobcnejecogfoaaGreatRKp
import Derived.Test.YtobcnejecogfoaaGreatRKs
import Derived.Deep.DeepCutAuto
namespace Go.Proofs.YtobcnejecogfoaaGreat
open Go.RowKit

set_option maxRecDepth 100000 in
set_option maxHeartbeats 16000000 in
theorem removes_walk (ux : Value) (xss : List (List Int)) (n x : Int) (w : World) (hx : RowsAt .i8 w ux xss) (hn0 : 0 ≤ n) (hn1 : n ≤ 255) (hwx : (Lit.int .i8 x).wf = true) :
    Calls Tryz.prog 8 #[ux, .int .u8 n, .int .i8 x] w fun e w' => e = .returned (.bool true) ∧ Below w.heap.size w w' := by
  have HX := Lib.hid hx
  have HWX := Lib.hid hwx
  obtain ⟨Ax, cx, rfl, _⟩ := hx
  obtain ⟨cs, hcs⟩ : ∃ cs, (xss.take 12).map madeL = cs := ⟨_, rfl⟩
  have h6 : Six cs := by rw [← hcs]; exact six_made xss 12 (by omega)
  have hcl := h6.1
  have HCS := Lib.hid hcs
  have HMX := Lib.hid (madeLit_six x)
  clear hcs hwx
  go_enter Tryz.func8, Tryz.ntmps8
  go_wp2_with fail
  refine (awake13 w).mono ?_
  rintro e w1 ⟨rfl, hb1⟩
  have HAL := Lib.hid (all_any _ xss 12 w1 (HX.out.below hb1) (by decide))
  have HB1 := Lib.hid hb1
  clear hb1
  go_wp2_with fail
  refine HAL.out.mono ?_
  rintro e w2 ⟨vc, rfl, hoc, hb2⟩
  rw [HCS.out] at hoc
  have hcat := hoc.cls
  have HIN := Lib.hid hoc.clsIn
  obtain ⟨us, hul, hsrc, hu1, hue⟩ := HIN.out.src
  obtain ⟨Ac, cc, rfl, hlc, hAn, _⟩ := id HIN.out
  have HC := Lib.hid hcat
  have HB2 := Lib.hid (HB1.out.trans (hb2.mono HB1.out.size))
  have HCL := Lib.hid (clone_row Ac cs.length cc us w2 hsrc (fun h => by have := hAn h; omega) hul hu1 (by omega))
  have HU1 := Lib.hid hu1
  have HUE := Lib.hid hue
  clear hoc hb2 hcat HAL HB1 hsrc hu1 hue hAn
  by_cases hz : cs.length = 0
  · have q0 : ((cs.length : Int) == 0) = true := by rw [hz]; rfl
    go_wp2_with fail
    go_ret
    exact ⟨rfl, HB2.out⟩
  · have q0 : ((cs.length : Int) == 0) = false := beq_eq_false_iff_ne.2 (by omega)
    have e0 : ¬ ((cs.length : Int) = 0) := by omega
    have e1 : IntKind.i64.wrap n = n := IntWalk.i64_in _ (by omega)
    have e2 : IntKind.i64.wrap (cs.length : Int) = (cs.length : Int) := IntWalk.i64_in _ (by omega)
    have e3 : (0 : Int) < (cs.length : Int) := by omega
    have hj1 := Int.tmod_nonneg (cs.length : Int) hn0
    have hj2 := Int.tmod_lt_of_pos n e3
    obtain ⟨k, hk⟩ : ∃ k : Nat, n.tmod (cs.length : Int) = (k : Int) := ⟨(n.tmod (cs.length : Int)).toNat, by omega⟩
    rw [hk] at hj1 hj2
    have hkl : k < cs.length := by omega
    have e4 : IntKind.i64.wrap (k : Int) = (k : Int) := IntWalk.i64_in _ (by omega)
    have e5 : IntKind.i64.wrap ((k : Int) + 1) = (k : Int) + 1 := IntWalk.i64_in _ (by omega)
    clear hj1 hj2 hz
    go_upto_region 7 with fail
    clear hk q0 e0 e1 e2 e3
    go_wp2_with fail
    refine HCL.out.mono ?_
    rintro e w3 ⟨v3, rfl, ho3, hb3⟩
    obtain ⟨A3, c3, rfl, _⟩ := mx_slice ho3
    have HDE := Lib.hid (delete_cls (.slice A3 cs.length c3) us cs.length k w3 ho3 hul HU1.out hkl)
    have HOB := Lib.hid (show ∀ g, (Value.slice A3 cs.length c3).ownBlock = some g → w2.heap.size ≤ g from fun g hg => (own_lt ho3 g hg).1)
    have HB3 := Lib.hid hb3
    clear ho3 hb3 HCL
    go_wp2_with fail
    refine HDE.out.mono ?_
    rintro e w4 ⟨v4, rfl, ho4, hk4⟩
    have hb4 : Below w2.heap.size w2 w4 := HB3.out.trans (hk4.below (fun g hg => HOB.out g hg) HB3.out.size)
    have HC4 := Lib.hid (HC.out.below hb4)
    obtain ⟨m, hm⟩ : ∃ m, cs.length - 1 = m := ⟨_, rfl⟩
    rw [hm] at ho4
    have HM := Lib.hid (show (cs.eraseIdx k).length = m by rw [List.length_eraseIdx, if_pos hkl, hm])
    have HX4 := Lib.hid (cls_left (O := fun g => w1.heap.size ≤ g) k m ho4 HM.out (fun j xs hj => by
      obtain ⟨u, h1, h2⟩ := HUE.out j xs hj
      exact ⟨u, h1, h2.below hb4⟩))
    have HB4 := Lib.hid (HB2.out.trans (hb4.mono HB2.out.size))
    obtain ⟨A4, c4, rfl, _⟩ := mx_slice ho4
    have HST := Lib.hid (store_any 6 _ cs w4 (by decide) HC4.out (by omega) (fun c hm => ⟨by have := (h6.right hm).2; omega, (h6.right hm).1⟩))
    clear ho4 hk4 hb4 hm HDE HOB HB3 HC HB2 HUE HU1 HIN
    go_wp2_with fail
    refine HST.out.mono ?_
    rintro e w5 ⟨a, t, rfl, hp, hb5⟩
    obtain ⟨A, hA⟩ : ∃ A, addAll arn0 0 cs = A := ⟨_, rfl⟩
    rw [hA] at hp
    have HA := Lib.hid hA
    have HNW := Lib.hid (wa_new_at hp)
    have HB5 := Lib.hid hb5
    clear hp hb5 HST hA
    go_wp2_with fail
    refine HNW.out.mono ?_
    rintro e w6 ⟨b, lab, rfl, hs6, hge, hb6⟩
    have HLW := Lib.hid (show Lw w4 w6 lab b a t A (trl0 6) ⟨[], [], 0⟩ from ⟨hs6, hge, HB5.out.trans (hb6.mono HB5.out.size)⟩)
    have HF6 := Lib.hid (clsX_fit h6 k)
    have HBG := Lib.hid ((begC0 (clsX cs k)).kk (K' := fun j => decide (1 ≤ j ∧ j ≤ ((0 : Nat) : Int)) && decide (j ≠ (k : Int) + 1)) (fun j => by rw [decide_eq_false (by omega), Bool.false_and]))
    have HAG := Lib.hid (show ∀ j, A.get j = clsC cs j from fun j => by rw [← HA.out]; exact get_cls h6 j)
    clear hs6 hge hb6 HNW HB5
    go_wp2_with fail
    go_loopw [15, 73] (fun fv i wr => ∃ (p : Nat) (fl : Bool) (labr : Nat → Nat) (T : Trl) (its : List RIt) (S : Wst), p ≤ cs.length ∧ i = .int .i64 p ∧ fv = .bool fl ∧ Hid (Lw w4 wr labr b a t A T S) ∧ Hid (BegC (clsX cs k) (fun j => decide (1 ≤ j ∧ j ≤ (p : Int)) && decide (j ≠ (k : Int) + 1)) T its S fl)) (fun _ i _ => cs.length - (intOf i).toNat)
    case atStart => exact ⟨0, false, lab, _, [], _, Nat.zero_le _, rfl, rfl, HLW, HBG⟩
    case round =>
      obtain ⟨p, fl, labr, T, its, S, hp, rfl, rfl, HL, HG⟩ := hrel
      by_cases hlt : p < cs.length
      · have hwp : IntKind.i64.wrap ((p : Int) + 1) = (p : Int) + 1 := IntWalk.i64_in _ (by omega)
        by_cases hpk : p = k
        · have q3 : ((p : Int) == (k : Int)) = true := by simp; omega
          have HGN := Lib.hid (HG.out.kk (K' := fun j => decide (1 ≤ j ∧ j ≤ ((p + 1 : Nat) : Int)) && decide (j ≠ (k : Int) + 1)) (fun j => by
            by_cases e : j = (k : Int) + 1
            · rw [decide_eq_false (p := j ≠ (k : Int) + 1) (fun h => h e), Bool.and_false, Bool.and_false]
            · congr 1
              exact decide_eq_decide.2 (by omega)))
          go_wp2_with fail
          go_roundw
          case rel => exact ⟨p + 1, fl, labr, T, its, S, by omega, by go_num, rfl, HL, HGN⟩
          case measure => simp [intOf]; omega
        · have q3 : ((p : Int) == (k : Int)) = false := by simp; omega
          obtain ⟨c, hck⟩ := getElem_of hlt
          have hcc : clsC cs ((p : Int) + 1) = some c := by
            unfold clsC
            rw [if_pos (by omega), show ((p : Int) + 1 - 1).toNat = p by omega]
            exact hck
          have hcx : clsX cs k ((p : Int) + 1) = some c := by
            unfold clsX
            rw [if_neg (by omega)]
            exact hcc
          have HAD := Lib.hid (lw_add_new HL.out HG.out HF6.out hcx (by rw [decide_eq_false (by omega), Bool.false_and]) ((HAG.out _).trans hcc))
          clear hck hcc hcx
          go_wp2_with fail
          refine HAD.out.mono ?_
          rintro e w7 ⟨K', T', its', S', rfl, ⟨lab7, hl7, _⟩, hbg⟩
          have HL7 := Lib.hid hl7
          have HGN := Lib.hid (hbg.kk (K' := fun j => decide (1 ≤ j ∧ j ≤ ((p + 1 : Nat) : Int)) && decide (j ≠ (k : Int) + 1)) (fun j => by
            by_cases e : j = (p : Int) + 1
            · rw [decide_eq_true e, decide_eq_true (p := j ≠ (k : Int) + 1) (by omega), Bool.true_or, decide_eq_true (by omega)]
              rfl
            · rw [decide_eq_false e, Bool.false_or]
              congr 1
              exact decide_eq_decide.2 (by omega)))
          clear hl7 hbg HAD HL HG
          cases fl with
          | true =>
            go_wp2_with fail
            go_roundw
            case rel => exact ⟨p + 1, true, lab7, T', its', S', by omega, by go_num, rfl, HL7, HGN⟩
            case measure => simp [intOf]; omega
          | false =>
            by_cases hk3 : K' = 3
            · subst hk3
              go_wp2_with fail
              go_roundw
              case rel => exact ⟨p + 1, true, lab7, T', its', S', by omega, by go_num, rfl, HL7, HGN⟩
              case measure => simp [intOf]; omega
            · have q4 : ((K' : Int) == 3) = false := by simp; omega
              have HG2 := Lib.hid (show BegC (clsX cs k) (fun j => decide (1 ≤ j ∧ j ≤ ((p + 1 : Nat) : Int)) && decide (j ≠ (k : Int) + 1)) T' its' S' false from by have := HGN.out; rwa [decide_eq_false hk3] at this)
              clear HGN
              go_wp2_with fail
              go_roundw
              case rel => exact ⟨p + 1, false, lab7, T', its', S', by omega, by go_num, rfl, HL7, HG2⟩
              case measure => simp [intOf]; omega
      · obtain rfl : p = cs.length := by omega
        have HE6 := Lib.hid (six_erase h6 k)
        have hst2 := law_started A4 c4 (cs.eraseIdx k) wr (by rw [HM.out]; exact HX4.out.below HL.out.hb) HE6.out
        rw [HM.out] at hst2
        have HST2 := Lib.hid hst2
        have HFI := Lib.hid (show ∀ id c, clsX cs k id = some c → (A.find id).isSome = true from fun id c hc => get_find ((HAG.out id).trans (by
          unfold clsX at hc
          split at hc
          · cases hc
          · exact hc)))
        clear hlt hp hst2
        go_wp2_with fail
        refine HST2.out.mono ?_
        rintro e w8 ⟨b2, a2, t2, lab2, T2, its2, S2, fl2, rfl, hsd⟩
        have HSD := Lib.hid hsd
        have HTR := Lib.hid (show fl = true → fl2 = true from fun h => by
          cases fl2 with
          | true => rfl
          | false =>
            obtain ⟨id, c, hc, hf⟩ := HG.out.bad h
            have hsub := closed0C (clsX_sub cs k) (hsd.ok rfl).c HE6.out.fit HG.out.st HG.out.now (PL.of_pz HG.out.pz)
            obtain ⟨j, hj⟩ := clsX_sub cs k id c hc
            exact ((hsd.ok rfl).c.noFail HE6.out.fit hj (fun y hy => hsub _ (hf y hy))).elim)
        clear hsd HST2
        cases fl2 with
        | true =>
          have HFB := Lib.hid (HB4.out.trans ((HL.out.hb.trans (HSD.out.lw.hb.mono HL.out.hb.size)).mono HB4.out.size))
          cases fl with
          | true =>
            go_wp2_with fail
            go_ret
            exact ⟨rfl, HFB.out⟩
          | false =>
            go_wp2_with fail
            go_ret
            exact ⟨rfl, HFB.out⟩
        | false =>
          obtain rfl : fl = false := by
            cases fl with
            | false => rfl
            | true => exact absurd (HTR.out rfl) (by decide)
          have HR2 := Lib.hid (HSD.out.ok rfl).c
          have HN2 := Lib.hid HSD.out.now
          have HP2 := Lib.hid (PL.of_pz HSD.out.pz)
          have HQ8 := Lib.hid (HSD.out.lw.base HL.out.hb)
          have HD8 := Lib.hid (HL.out.dis HSD.out.lw)
          have HL8 := Lib.hid (HL.out.below HSD.out.lw.hb)
          obtain ⟨c, hck⟩ := getElem_of hkl
          have hcc : clsC cs ((k : Int) + 1) = some c := by
            unfold clsC
            rw [if_pos (by omega), show ((k : Int) + 1 - 1).toNat = k by omega]
            exact hck
          obtain ⟨hid, hcl6, hcb⟩ := h6.fit _ c hcc
          have hn : S.kn ((k : Int) + 1) = none := by
            have := HG.out.kn ((k : Int) + 1)
            rw [decide_eq_false (p := (k : Int) + 1 ≠ (k : Int) + 1) (fun h => h rfl), Bool.and_false] at this
            exact Option.isSome_eq_false_iff.1 this |> Option.isNone_iff_eq_none.1
          have hadd := lw_add_ok HL8.out HG.out.st hn ((HAG.out _).trans hcc) hid hcl6 hcb
          obtain ⟨hg1, hg2, hg3, hg4, hg5, hg6⟩ := gone_step (T := T) HG.out.st HG.out.lk (id := (k : Int) + 1) (c := c) ⟨hid.1, by omega⟩ ⟨by omega, fun l hl => (hcb l hl).1⟩ hn
          have hT := addOk_T (T := T) (S := S) (id := (k : Int) + 1) (c := c)
          obtain ⟨R, hR⟩ : ∃ R, addOk T S ((k : Int) + 1) c = R := ⟨_, rfl⟩
          rw [hR] at hadd hg1 hg3 hg4 hg5 hg6 hT
          obtain ⟨kn1, hkn1⟩ := hg1
          obtain ⟨K, hK⟩ : ∃ K, R.res = K := ⟨_, rfl⟩
          rw [hK] at hadd hT
          have HADD := Lib.hid hadd
          have HKN1 := Lib.hid hkn1
          have HG3 := Lib.hid hg3
          have HT := Lib.hid hT
          have HBR := Lib.hid (show BegC (clsX cs k) (fun j => (clsX cs k j).isSome) T its (R.S.remove ((k : Int) + 1)) false from
            ⟨hg5, HG.out.now, hg4, fun j => by rw [hg6 j, HG.out.kn]; exact clsX_isSome j, fun h id c hk hc ha hl => HG.out.one h id c ((clsX_isSome id).trans hk) hc ha hl, HG.out.bad, HG.out.pz⟩)
          clear hck hcc hid hcl6 hcb hn hadd hg2 hg3 hg4 hg5 hg6 hT hR hkn1 hK HG HL HSD HTR
          go_wp2_with fail
          refine HADD.out.mono ?_
          rintro e w9 ⟨rfl, lab9, hl9, hk9⟩
          obtain ⟨hq9, hd9⟩ := HQ8.out.aside hk9 HD8.out.symm HL8.out.ge
          have HQ9 := Lib.hid hq9
          have HD9 := Lib.hid hd9
          have HRM := Lib.hid (lw_remove hl9 (wf64 (by omega) (by omega)) HKN1.out)
          have HL9 := Lib.hid hl9
          clear hl9 hk9 hq9 hd9 HADD HQ8 HD8 HL8
          go_wp2_with fail
          refine HRM.out.mono ?_
          rintro e w10 ⟨rfl, lab10, hl10, hk10⟩
          obtain ⟨hq10, hd10⟩ := HQ9.out.aside hk10 HD9.out HL9.out.ge
          have HQ10 := Lib.hid hq10
          have HD10 := Lib.hid hd10
          have HRN := Lib.hid (wa_remove_none b a t A R.T (R.S.remove ((k : Int) + 1)) ((k : Int) + 1) w10 lab10 hl10.sys (wf64 (by omega) (by omega)) HG3.out)
          have HKW := Lib.hid (wa_known b a t A R.T (R.S.remove ((k : Int) + 1)) w10 lab10 hl10.sys)
          have HL10 := Lib.hid hl10
          clear hl10 hk10 hq10 hd10 HRM HQ9 HD9 HL9
          go_wp2_with fail
          refine HRN.out.mono ?_
          rintro e w11 ⟨rfl, rfl⟩
          clear HRN
          go_wp2_with fail
          refine HKW.out.mono ?_
          rintro e w11 ⟨vk, rfl, hrk, hb11⟩
          have hki : IntsIn (fun g => g < w11.heap.size) w11 vk ((R.S.remove ((k : Int) + 1)).known.map Prod.fst) := (IntsIn.of_own (base := w10.heap.size) (e := 3) (by rw [List.length_map]; exact hrk)).lt.mono (fun g hg => hg.2)
          have hct := contains_i _ _ ((k : Int) + 1) w11 hki (by
            rw [List.length_map]
            have := HBR.out.st.inv.bnd.knownLen
            omega)
          rw [known_no HG3.out] at hct
          have HCT := Lib.hid hct
          have HL11 := Lib.hid (HL10.out.below hb11)
          have HQ11 := Lib.hid (HQ10.out.below hb11)
          clear hrk hb11 hki hct HKW HL10 HQ10
          go_wp2_with fail
          refine HCT.out.mono ?_
          rintro e w' ⟨rfl, rfl⟩
          clear HCT
          have HFB11 := Lib.hid (HB4.out.trans (HL11.out.hb.mono HB4.out.size))
          by_cases hK2 : K = 2
          · subst hK2
            go_wp2_with fail
            go_ret
            exact ⟨rfl, HFB11.out⟩
          · by_cases hK3 : K = 3
            · subst hK3
              go_wp2_with fail
              go_ret
              exact ⟨rfl, HFB11.out⟩
            · have q5 : ((K : Int) == 2) = false := beq_eq_false_iff_ne.2 (by omega)
              have q6 : ((K : Int) == 3) = false := beq_eq_false_iff_ne.2 (by omega)
              have hRT := HT.out hK2
              rw [hRT] at HL11
              have HMO := Lib.hid (made_one x w11 HWX.out)
              clear HT hRT HFB11
              go_wp2_with fail
              refine HMO.out.mono ?_
              rintro e w12 ⟨gy, cy, rfl, hcy, hy, hb12⟩
              have HL12 := Lib.hid (HL11.out.below hb12)
              have HQ12 := Lib.hid (HQ11.out.below hb12)
              have hpr := lw_prop HL12.out HBR.out.st.inv.link ⟨_, HBR.out.st.sim⟩ (by rw [HBR.out.st.vars]; decide)
              obtain ⟨i13, hs13, hn13, hp13, hor⟩ := HBR.out.prop (fun _ => rfl) HF6.out HFI.out
              have hsub := closed0C (clsX_sub cs k) HR2.out HE6.out.fit hs13 hn13 hp13
              obtain ⟨hr13, hrun⟩ : (propW A T (R.S.remove ((k : Int) + 1))).2.2 = none ∧ RunC (clsX cs k) (propW A T (R.S.remove ((k : Int) + 1))).1 i13 (propW A T (R.S.remove ((k : Int) + 1))).2.1 := by
                rcases hor with h | ⟨id, c, _, hc, hf⟩
                · exact h
                · obtain ⟨j, hj⟩ := clsX_sub cs k id c hc
                  exact (HR2.out.noFail HE6.out.fit hj (fun y hy => hsub _ (hf y hy))).elim
              have hsub2 := closed0C (clsX_sup cs k) hrun HF6.out HR2.out.st HN2.out HP2.out
              rw [hr13] at hpr
              obtain ⟨T13, hT13⟩ : ∃ T', (propW A T (R.S.remove ((k : Int) + 1))).1 = T' := ⟨_, rfl⟩
              obtain ⟨S13, hS13⟩ : ∃ S', (propW A T (R.S.remove ((k : Int) + 1))).2.1 = S' := ⟨_, rfl⟩
              rw [hT13, hS13] at hpr hrun
              rw [hT13] at hn13
              have HPR := Lib.hid hpr
              have HR1 := Lib.hid hrun
              have HN1 := Lib.hid hn13
              have HSAME := Lib.hid (show ∀ y, Has i13 y ↔ Has its2 y from fun y => ⟨hsub y, hsub2 y⟩)
              clear hb12 hpr hs13 hn13 hp13 hor hsub hr13 hrun hsub2 hT13 hS13 HMO HL11 HQ11 HBR
              go_wp2_with fail
              refine HPR.out.mono ?_
              rintro e w13 ⟨rfl, lab13, hl13, hk13⟩
              obtain ⟨hq13, hd13⟩ := HQ12.out.aside hk13 HD10.out HL12.out.ge
              have HQ13 := Lib.hid hq13
              have HD13 := Lib.hid hd13
              have HL13 := Lib.hid hl13
              have HAS1 := Lib.hid (law_assigned t T13 w13 hl13.sys.tr (by have := HR1.out.st.sim.few HR1.out.st.vars; omega))
              clear hl13 hk13 hq13 hd13 HPR HQ12 HD10 HL12
              go_wp2_with fail
              refine HAS1.out.mono ?_
              rintro e w14 ⟨v14, rfl, hr14, hb14⟩
              have HI14 := Lib.hid (IntsIn.of_own hr14)
              have HL14 := Lib.hid (HL13.out.below hb14)
              have HQ14 := Lib.hid (HQ13.out.below hb14)
              have HAS2 := Lib.hid (law_assigned t2 T2 w14 HQ14.out.sys.tr (by have := HR2.out.st.sim.few HR2.out.st.vars; omega))
              clear hr14 hb14 HAS1 HL13 HQ13
              go_wp2_with fail
              refine HAS2.out.mono ?_
              rintro e w15 ⟨v15, rfl, hr15, hb15⟩
              have HL15 := Lib.hid (HL14.out.below hb15)
              have HQ15 := Lib.hid (HQ14.out.below hb15)
              have hal := law_alike v14 v15 _ _ w15 (HI14.out.below hb15) (IntsIn.of_own hr15) (by have := HR1.out.st.sim.few HR1.out.st.vars; omega) (by have := HR2.out.st.sim.few HR2.out.st.vars; omega)
              rw [sort_same HR1.out.st.sim HR2.out.st.sim HSAME.out] at hal
              have HALK := Lib.hid hal
              clear hr15 hb15 hal HAS2 HL14 HQ14 HI14
              go_wp2_with fail
              refine HALK.out.mono ?_
              rintro e w16 ⟨rfl, hb16⟩
              have HL16 := Lib.hid (HL15.out.below hb16)
              have HQ16 := Lib.hid (HQ15.out.below hb16)
              have HD1 := Lib.hid (lw_decC HL16.out HR1.out HF6.out HFI.out HMX.out (by rw [HN1.out]; decide))
              clear hb16 HALK HL15 HQ15
              go_wp2_with fail
              refine HD1.out.mono ?_
              rintro e w17 ⟨R1, j1, rfl, hd1, hz1, lab17, hl17, hk17⟩
              obtain ⟨hq17, hd17⟩ := HQ16.out.aside hk17 HD13.out HL16.out.ge
              have HQ17 := Lib.hid hq17
              have HD17 := Lib.hid hd17
              have HL17 := Lib.hid hl17
              have HD2 := Lib.hid (lw_decC hq17 HR2.out HE6.out.fit (fun id c hc => get_find ((get_cls HE6.out id).trans hc)) HMX.out (by rw [HN2.out]; decide))
              have HDC1 := Lib.hid hd1
              have HZ1 := Lib.hid hz1
              obtain ⟨g1, hg1⟩ : ∃ g, R1.2.2.getD 0 = g := ⟨_, rfl⟩
              rw [hg1]
              have HG1 := Lib.hid hg1
              clear hl17 hk17 hq17 hd17 hd1 hz1 hg1 HD1 HQ16 HL16 HD13
              go_wp2_with fail
              refine HD2.out.mono ?_
              rintro e w18 ⟨R2, j2, rfl, hd2, hz2, lab18, hq18, hk18⟩
              have HL18 := Lib.hid (HL17.out.aside hk18 HD17.out.symm HQ17.out.ge).1
              have HQ18 := Lib.hid hq18
              have HDS := Lib.hid (dec_sameC (clsX_sup cs k) (clsX_sub cs k) HF6.out HE6.out.fit HSAME.out HMX.out.1 HDC1.out hd2)
              have HZ2 := Lib.hid hz2
              have HS2 := Lib.hid hd2.st
              obtain ⟨g2, hg2⟩ : ∃ g, R2.2.2.getD 0 = g := ⟨_, rfl⟩
              rw [hg2]
              have HG2 := Lib.hid hg2
              clear hq18 hk18 hd2 hz2 hg2 HD2 HQ17 HL17
              have HFB18 := Lib.hid (HB4.out.trans (HL18.out.hb.mono HB4.out.size))
              rcases Option.eq_none_or_eq_some R1.2.2 with ho1 | ⟨i1, ho1⟩
              · have ho2 := HDS.out.1.1 ho1
                have hg1 := HG1.out
                rw [ho1] at hg1
                obtain rfl : (0 : Int) = g1 := hg1
                have hg2 := HG2.out
                rw [ho2] at hg2
                obtain rfl : (0 : Int) = g2 := hg2
                have HSM := Lib.hid (HDS.out.2 ho1)
                have HAS1 := Lib.hid (law_assigned t R1.1 w18 HL18.out.sys.tr (by have := HDC1.out.st.sim.few HDC1.out.st.vars; omega))
                clear ho1 ho2 HG1 HG2 HDS
                go_wp2_with fail
                refine HAS1.out.mono ?_
                rintro e w19 ⟨v19, rfl, hr19, hb19⟩
                have HI19 := Lib.hid (IntsIn.of_own hr19)
                have HAS2 := Lib.hid (law_assigned t2 R2.1 w19 (HQ18.out.below hb19).sys.tr (by have := HS2.out.sim.few HS2.out.vars; omega))
                have HB19 := Lib.hid (HFB18.out.trans (hb19.mono HFB18.out.size))
                clear hr19 hb19 HAS1
                go_wp2_with fail
                refine HAS2.out.mono ?_
                rintro e w20 ⟨v20, rfl, hr20, hb20⟩
                have hal := law_alike v19 v20 _ _ w20 (HI19.out.below hb20) (IntsIn.of_own hr20) (by have := HDC1.out.st.sim.few HDC1.out.st.vars; omega) (by have := HS2.out.sim.few HS2.out.vars; omega)
                rw [sort_same HDC1.out.st.sim HS2.out.sim HSM.out] at hal
                have HALK := Lib.hid hal
                have HB20 := Lib.hid (HB19.out.trans (hb20.mono HB19.out.size))
                clear hr20 hb20 hal HAS2
                go_wp2_with fail
                refine HALK.out.mono ?_
                rintro e w21 ⟨rfl, hb21⟩
                have HB21 := Lib.hid (HB20.out.trans (hb21.mono HB20.out.size))
                clear hb21 HALK
                go_wp2_with fail
                go_ret
                exact ⟨rfl, HB21.out⟩
              · have q1 : (g1 != 0) = true := by
                  have hg1 := HG1.out
                  rw [ho1] at hg1
                  obtain rfl : i1 = g1 := hg1
                  simpa using HZ1.out i1 ho1
                have q2 : (g2 != 0) = true := by
                  rcases Option.eq_none_or_eq_some R2.2.2 with ho2 | ⟨i2, ho2⟩
                  · have := HDS.out.1.2 ho2
                    rw [ho1] at this
                    cases this
                  · have hg2 := HG2.out
                    rw [ho2] at hg2
                    obtain rfl : i2 = g2 := hg2
                    simpa using HZ2.out i2 ho2
                clear ho1
                go_wp2_with fail
                go_ret
                exact ⟨rfl, HFB18.out⟩
theorem removes_any (ux : Value) (xss : List (List Int)) (n x : Int) (w : World) (hx : RowsAt .i8 w ux xss) (hn : (Lit.int .u8 n).wf = true) (hwx : (Lit.int .i8 x).wf = true) :
    Calls Tryz.prog 8 #[ux, .int .u8 n, .int .i8 x] w fun e w' => e = .returned (.bool true) ∧ Below w.heap.size w w' := by
  have hk : 0 ≤ n ∧ n ≤ 255 := by
    simp only [Lit.wf, Bool.and_eq_true, decide_eq_true_eq] at hn
    exact ⟨hn.1, hn.2⟩
  exact removes_walk ux xss n x w hx hk.1 hk.2 hwx
end Go.Proofs.YtobcnejecogfoaaGreat
