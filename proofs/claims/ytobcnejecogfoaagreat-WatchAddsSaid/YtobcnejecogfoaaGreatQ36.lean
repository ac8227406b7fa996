/- package salvorlaw13: WatchAdds, walked. -/
import Derived.Test.YtobcnejecogfoaaGreatQ35
namespace Go.Proofs.YtobcnejecogfoaaGreat
open Go.RowKit

theorem Lw.int {w0 w : World} {lab : Nat → Nat} {b ab tb : Nat} {A : Arn} {T : Trl} {S : Wst} (h : Lw w0 w lab b ab tb A T S) {O : Nat → Prop} {v : Value} {xs : List Int} (hx : IntsIn O w v xs) (hO : ∀ g, O g → g < w0.heap.size) : IntsIn (Fr w lab) w v xs :=
  hx.lt.mono (fun g hg => ⟨hg.2, Classical.byContradiction fun e => by
    have := h.ge g e
    have := hO g hg.1
    omega⟩)
theorem own_keep {w w' : World} {lab lab' : Nat → Nat} {n size n2 : Nat} {e : TypeId} {v : Value} {xs : List Value} (h : w.ownsRow n e size v n2 xs) (hl : ∀ g, v.ownBlock = some g → lab g = 0) (k : Labs lab lab' w w') : w'.ownsRow n e size v n2 xs ∧ ∀ g, v.ownBlock = some g → lab' g = 0 :=
  ⟨own_kept h k.kept (fun g hg e => e (hl g hg)), fun g hg => (k.same g (own_lt h g hg).2).trans (hl g hg)⟩
set_option maxRecDepth 100000 in
set_option maxHeartbeats 8000000 in
theorem adds_walk (A1 : Option Addr) (c1 m : Nat) (ux : Value) (xs l : List Int) (w : World) (hx : RowAt .i8 w ux xs) (hl : RowAt .i8 w (.slice A1 l.length c1) l) (hN : min (l.length : Int) 8 = (m : Int)) (hm8 : m ≤ 8) (hml : m ≤ l.length) :
    Calls Tryz.prog 4 #[ux, .slice A1 l.length c1] w fun e w' => e = .returned (.bool true) ∧ Below w.heap.size w w' := by
  obtain ⟨Av, cv, hA, hlc, hmx, _, hwf, hlx⟩ := hl
  cases hA
  have HX := Lib.hid hx
  have HLX := Lib.hid hlx
  have HWF := Lib.hid hwf
  obtain ⟨Ax, cx, rfl, _⟩ := hx
  have hmc : m ≤ c1 := by omega
  unfold maxLen at hmx
  clear hlx hwf
  go_enter Tryz.func4, Tryz.ntmps4
  go_wp2_with fail
  refine (awake13 w).mono ?_
  rintro e w1 ⟨rfl, hb1⟩
  have HMD := Lib.hid (made_any _ xs w1 (HX.out.below hb1))
  have HB1 := Lib.hid hb1
  clear hb1
  go_wp2_with fail
  refine HMD.out.mono ?_
  rintro e w2 ⟨vc, rfl, hoc, hb2⟩
  obtain ⟨c, hc⟩ : ∃ c, madeL xs = c := ⟨_, rfl⟩
  rw [hc] at hoc
  have HCB := Lib.hid (show clauseB c = true by rw [← hc]; exact madeL_ok xs)
  have HC6 := Lib.hid (show ∀ y ∈ c, litB y = true ∧ litV y < 7 from fun y hy => by
    rw [← hc] at hy
    obtain ⟨n, _, rfl⟩ := List.mem_map.1 hy
    exact madeLit_six n)
  have hcl : c.length ≤ 6 := by rw [← hc]; simp [madeL]; omega
  obtain ⟨Ac, cc, rfl, _⟩ := mx_slice hoc
  have HI2 := Lib.hid ((IntsIn.of_own hoc).lt.mono (O' := fun g => g < w2.heap.size) (fun g hg => hg.2))
  have HB2 := Lib.hid (HB1.out.trans (hb2.mono HB1.out.size))
  obtain ⟨W3, hW3⟩ : ∃ x, w2.alloc (.cells #[.slice Ac c.length cc] 41) = x := ⟨_, rfl⟩
  have hb3 : Below w2.heap.size w2 W3 := by rw [← hW3]; exact mx_al _ _
  have hcls : ClsAt W3 (.slice (some ⟨w2.heap.size, 0, none⟩) 1 1) [c] := by
    rw [← hW3]
    exact cls_new w2 [.slice Ac c.length cc] [c] _ (fun i xs hi => by
      match i, hi with
      | 0, hi =>
        obtain rfl : c = xs := by simpa using hi
        exact ⟨_, rfl, (IntsIn.of_own hoc).lt.mono (fun g hg => hg.2)⟩)
  have HW3 := Lib.hid hW3
  have HST := Lib.hid (store_any 6 _ [c] W3 (by decide) hcls (by simp) (fun d hd => by rw [List.mem_singleton.1 hd]; exact ⟨by omega, HCB.out⟩))
  have HB3 := Lib.hid (HB2.out.trans (hb3.mono HB2.out.size))
  have HB23 := Lib.hid hb3
  clear hc hoc hb2 hW3 hb3 hcls HMD HB1 HB2
  go_wp2_with fail
  rw [HW3.out]
  refine HST.out.mono ?_
  rintro e w4 ⟨a, t, rfl, hp, hb4⟩
  obtain ⟨A, hA⟩ : ∃ A, addAll arn0 0 [c] = A := ⟨_, rfl⟩
  have HAG := Lib.hid (show A.get 1 = some c from by
    rw [← hA]
    have := (addAll_get [c] arn0 0 inv0 (by decide) (by simp) 1).1
    rw [this]
    have hcb := HCB.out
    simp [hcb])
  rw [hA] at hp
  have HNW := Lib.hid (wa_new_at hp)
  have HI4 := Lib.hid ((HI2.out.below HB23.out).below hb4)
  have HB4 := Lib.hid (HB3.out.trans (hb4.mono HB3.out.size))
  have hz34 := HB23.out.size
  clear hp hb4 HST HW3 hA HI2
  go_wp2_with fail
  refine HNW.out.mono ?_
  rintro e w5 ⟨b, lab, rfl, hs5, hge, hb5⟩
  have hlw : Lw w w5 lab b a t A (trl0 6) ⟨[], [], 0⟩ := ⟨hs5, fun g hg => Nat.le_trans HB3.out.size (hge g hg), HB4.out.trans (hb5.mono HB4.out.size)⟩
  have HLW := Lib.hid hlw
  have HOC5 := Lib.hid (show IntsIn (Fr w5 lab) w5 (.slice Ac c.length cc) c from (HI4.out.below hb5).lt.mono (fun g hg => ⟨hg.2, Classical.byContradiction fun e => by
    have h1 := hge g e
    have h2 := hg.1
    omega⟩))
  have HFT := Lib.hid (show FewT (trl0 6) 0 from ⟨⟨[], (st0 (fun _ => none)).sim⟩, rfl, Nat.le_refl _⟩)
  clear hs5 hge hb5 hlw HNW HB3 HB4 HB23 HI4 hz34
  go_wp2_with fail
  go_loopw [56] (fun i wr => ∃ (k : Nat) (labr : Nat → Nat) (T : Trl), k ≤ m ∧ i = .int .i64 k ∧ Hid (Lw w wr labr b a t A T ⟨[], [], 0⟩) ∧ Hid (FewT T k) ∧ Hid (IntsIn (Fr wr labr) wr (.slice Ac c.length cc) c)) (fun i _ => m - (intOf i).toNat)
  case atStart => exact ⟨0, lab, _, Nat.zero_le _, rfl, HLW, HFT, HOC5⟩
  case round =>
    obtain ⟨k, labr, T, hk, rfl, HL, HF, HC⟩ := hrel
    by_cases hlt : k < m
    · obtain ⟨n, hnk⟩ := getElem_of (show k < l.length by omega)
      obtain ⟨g, o, rfl, hg, d0⟩ := HLX.out k n hnk
      have d1 := (HL.out.hb.cell (p := ⟨g, o + k, none⟩) hg).trans d0
      have hkl : k < l.length := by omega
      have HMO := Lib.hid (made_one n wr (HWF.out n (List.mem_of_getElem? hnk)))
      clear hnk d0
      go_wp2_with fail
      refine HMO.out.mono ?_
      rintro e w6 ⟨gy, cy, rfl, hcy, hy, hb6⟩
      obtain ⟨y, hyy⟩ : ∃ y, madeLit n = y := ⟨_, rfl⟩
      rw [hyy] at hy
      have HY6 := Lib.hid (show litB y = true ∧ litV y < 7 by rw [← hyy]; exact madeLit_six n)
      have HL6 := Lib.hid (HL.out.below hb6)
      have HC6' := Lib.hid (HC.out.frb hb6)
      clear hb6 hyy HMO HC d1
      have hwk : IntKind.i64.wrap ((k : Int).tmod 3) = (k : Int).tmod 3 := IntWalk.i64_in _ (by have := Int.tmod_lt_of_pos (k : Int) (show (0 : Int) < 3 by decide); have := Int.tmod_nonneg (3 : Int) (show (0 : Int) ≤ (k : Int) by omega); omega)
      obtain ⟨r, hr⟩ : ∃ r, (k : Int).tmod 3 = r := ⟨_, rfl⟩
      rw [hr] at hwk
      cases hq : (r == 2) with
      | true =>
        have HPU := Lib.hid (lw_push HL6.out (by have := HF.out.starts; omega))
        go_wp2_with fail
        refine HPU.out.mono ?_
        rintro e w7 ⟨rfl, lab7, hl7, hk7⟩
        have HL7 := Lib.hid hl7
        have HF7 := Lib.hid HF.out.push
        have HC7 := Lib.hid (HC6'.out.next hk7)
        clear hl7 hk7 HPU HL6 HC6' hy
        obtain ⟨z, hz⟩ : ∃ z, T.push.val y = z := ⟨_, rfl⟩
        have hva := tr_value t T.push y w7 HL7.out.sys.tr
        rw [hz] at hva
        have HVA := Lib.hid hva
        have HVZ := Lib.hid hz
        clear hva hz
        go_wp2_with fail
        refine HVA.out.mono ?_
        rintro e w8 ⟨rfl, hb8⟩
        have HL8 := Lib.hid (HL7.out.below hb8)
        have HC8 := Lib.hid (HC7.out.frb hb8)
        clear hb8 HVA
        cases hzz : (z == 0) with
        | true =>
          have has := lw_assign HL8.out y 0 (by have := HF7.out.few; omega)
          rw [free_err HF7.out.vars HY6.out.1 HY6.out.2 (by rw [HVZ.out]; simpa using hzz) ⟨by omega, by omega⟩] at has
          have HAS := Lib.hid has
          clear has
          go_wp2_with fail
          refine HAS.out.mono ?_
          rintro e w9 ⟨rfl, lab9, hl9, hk9⟩
          have HL9 := Lib.hid hl9
          have HF9 := Lib.hid (HF7.out.assign y)
          have HC9 := Lib.hid (HC8.out.next hk9)
          clear hl9 hk9 HAS
          go_wp2_with fail
          go_roundw
          case rel => exact ⟨k + 1, lab9, _, by omega, by go_num, HL9, HF9, HC9⟩
          case measure => simp [intOf]; omega
        | false =>
          go_wp2_with fail
          go_roundw
          case rel => exact ⟨k + 1, lab7, _, by omega, by go_num, HL8, HF7, HC8⟩
          case measure => simp [intOf]; omega
      | false =>
        have HF7 := Lib.hid (HF.out.mono (Nat.le_succ k))
        obtain ⟨z, hz⟩ : ∃ z, T.val y = z := ⟨_, rfl⟩
        have hva := tr_value t T y w6 HL6.out.sys.tr
        rw [hz] at hva
        have HVA := Lib.hid hva
        have HVZ := Lib.hid hz
        clear hva hz
        go_wp2_with fail
        refine HVA.out.mono ?_
        rintro e w8 ⟨rfl, hb8⟩
        have HL8 := Lib.hid (HL6.out.below hb8)
        have HC8 := Lib.hid (HC6'.out.frb hb8)
        clear hb8 HVA
        cases hzz : (z == 0) with
        | true =>
          have has := lw_assign HL8.out y 0 (by have := HF7.out.few; omega)
          rw [free_err HF7.out.vars HY6.out.1 HY6.out.2 (by rw [HVZ.out]; simpa using hzz) ⟨by omega, by omega⟩] at has
          have HAS := Lib.hid has
          clear has
          go_wp2_with fail
          refine HAS.out.mono ?_
          rintro e w9 ⟨rfl, lab9, hl9, hk9⟩
          have HL9 := Lib.hid hl9
          have HF9 := Lib.hid (HF7.out.assign y)
          have HC9 := Lib.hid (HC8.out.next hk9)
          clear hl9 hk9 HAS
          go_wp2_with fail
          go_roundw
          case rel => exact ⟨k + 1, lab9, _, by omega, by go_num, HL9, HF9, HC9⟩
          case measure => simp [intOf]; omega
        | false =>
          go_wp2_with fail
          go_roundw
          case rel => exact ⟨k + 1, labr, _, by omega, by go_num, HL8, HF7, HC8⟩
          case measure => simp [intOf]; omega
    · obtain rfl : k = m := by omega
      have hft := HF.out
      obtain ⟨⟨its, hsim⟩, hv7, hst⟩ := hft
      have HAS := Lib.hid (law_assigned t T wr HL.out.sys.tr (by have := HF.out.few; omega))
      obtain ⟨f, hf, hff⟩ := k_its (fun x hx => hsim.litb hx) hsim.nodup
      rw [← hsim.order] at hf
      have HFF := Lib.hid hf
      have HAO := Lib.hid (adds_out (S := ⟨[], [], 0⟩) hsim hv7 HC6.out hff)
      have HFW := Lib.hid HF.out
      clear hlt HF hf hff
      go_wp2_with fail
      refine HAS.out.mono ?_
      rintro e w6 ⟨vn, rfl, hrn, hb6⟩
      have hin := HL.out.ints hrn
      have HIN := Lib.hid hin
      have HOW := Lib.hid (And.intro (own_mono hrn HL.out.hb.size) (fun g hg => HL.out.lt0 (own_lt hrn g hg).1))
      have HL6 := Lib.hid (HL.out.below hb6)
      have HC6' := Lib.hid (HC.out.frb hb6)
      have HLK := Lib.hid (rup_Look _ _ c T.order w6 HC6'.out hin HCB.out f HFF.out (by omega) (by have := HFW.out.few; omega))
      obtain ⟨An, cn, rfl, _⟩ := mx_slice hrn
      clear hrn hin hb6 HAS HC
      go_wp2_with fail
      refine HLK.out.mono ?_
      rintro e w7 ⟨rfl, hb7⟩
      have HL7 := Lib.hid (HL6.out.below hb7)
      have HC7 := Lib.hid (HC6'.out.frb hb7)
      have HOW7 := Lib.hid (own_keep HOW.out.1 HOW.out.2 (Labs.of_below hb7))
      have hadd := lw_add HL7.out 1 (by decide) (fun d hd => by
        rw [HAG.out] at hd
        rw [← Option.some.inj hd]
        exact ⟨by omega, HCB.out, by decide, by decide⟩) (by have := HFW.out.few; omega) x13_s0.2
      have hw : addW A T ⟨[], [], 0⟩ 1 = addOk T ⟨[], [], 0⟩ 1 c := by
        unfold addW
        rw [show (⟨[], [], 0⟩ : Wst).kn 1 = none from rfl]
        simp only []
        rw [HAG.out]
        simp only []
        rw [if_neg (by
          rw [Bool.not_eq_true, List.any_eq_false]
          intro y hy
          have := (HC6.out y hy).2
          rw [decide_eq_true_eq]
          omega)]
      rw [hw, addOk_err] at hadd
      obtain ⟨R, hR⟩ : ∃ R, addOk T ⟨[], [], 0⟩ 1 c = R := ⟨_, rfl⟩
      rw [hR] at hadd
      have hao := HAO.out
      rw [hR] at hao
      obtain ⟨K, T', S', hRK⟩ : ∃ K T' S', R.res = K ∧ R.T = T' ∧ R.S = S' := ⟨_, _, _, rfl, rfl, rfl⟩
      rw [hRK.1, hRK.2.1] at hao
      rw [hRK.1, hRK.2.1, hRK.2.2] at hadd
      obtain ⟨I, hI⟩ : ∃ I, (lookF f c).1 = I := ⟨_, rfl⟩
      obtain ⟨U, hU⟩ : ∃ U, (lookF f c).2 = U := ⟨_, rfl⟩
      rw [hI, hU] at hao ⊢
      have HAOK := Lib.hid hao
      have HADD := Lib.hid hadd
      clear hao hadd hw hR hRK hI hU hb7 HLK HIN HOW HL6 HC6' HAO hsim hst hv7
      go_wp2_with fail
      refine HADD.out.mono ?_
      rintro e w8 ⟨rfl, lab8, hl8, hk8⟩
      have HL8 := Lib.hid hl8
      have HC8 := Lib.hid (HC7.out.next hk8)
      have HOW8 := Lib.hid (own_keep HOW7.out.1 HOW7.out.2 hk8)
      have HNL := Lib.hid (show ∀ g, (Value.slice An T.order.length cn).ownBlock = some g → g < w8.heap.size from fun g hg => (own_lt HOW8.out.1 g hg).2)
      have HRL := Lib.hid (Nat.le_refl w8.heap.size)
      have HFEW := Lib.hid (show T'.order.length ≤ 7 from by
        rcases HAOK.out with ⟨_, _, rfl⟩ | ⟨_, _, _, ho, _⟩ | ⟨_, _, _, rfl⟩ | ⟨_, _, _, rfl⟩
        · have := HFW.out.few; omega
        · rw [ho, List.length_append]; have := HFW.out.few; simp; omega
        · have := HFW.out.few; omega
        · have := HFW.out.few; omega)
      have HAF := Lib.hid (law_assigned t T' w8 hl8.sys.tr (by have := HFEW.out; omega))
      clear hl8 hk8 HADD HL7 HC7 HOW7
      go_wp2_with fail
      refine HAF.out.mono ?_
      rintro e w9 ⟨va, rfl, hra, hb9⟩
      have HIA := Lib.hid (HL8.out.ints hra)
      obtain ⟨Aa, ca, rfl, _⟩ := mx_slice hra
      have HL9 := Lib.hid (HL8.out.below hb9)
      have HC9 := Lib.hid (HC8.out.frb hb9)
      have HOW9 := Lib.hid (own_keep HOW8.out.1 HOW8.out.2 (Labs.of_below hb9))
      have HRA := Lib.hid hra
      have HALW := Lib.hid (always_any _ c w9 HC9.out (by omega))
      clear hra hb9 HAF HL8 HC8 HOW8
      go_wp2_with fail
      refine HALW.out.mono ?_
      rintro e w10 ⟨rfl, hb10⟩
      have HL10 := Lib.hid (HL9.out.below hb10)
      have HIA10 := Lib.hid (HIA.out.frb hb10)
      have HOW10 := Lib.hid (own_keep HOW9.out.1 HOW9.out.2 (Labs.of_below hb10))
      have HIN10 := Lib.hid (IntsIn.of_own HOW10.out.1)
      have HRA10 := Lib.hid (own_below HRA.out hb10)
      clear hb10 HALW HIA HOW9 HC9 HL9 HRA
      rcases HAOK.out with ⟨ha, rfl, rfl⟩ | ⟨ha, rfl, rfl, ho, hst, hlv, hre⟩ | ⟨ha, rfl, rfl, rfl⟩ | ⟨ha, hi, rfl, rfl⟩
      · rw [ha]
        have heq := eq_l _ _ _ _ w10 HIA10.out HIN10.out (by have := HFW.out.few; omega)
        rw [beq_self_eq_true] at heq
        have HEQ := Lib.hid heq
        clear heq HAOK
        go_wp2_with fail
        refine HEQ.out.mono ?_
        rintro e w11 ⟨rfl, n11, hw11⟩
        have HBF := Lib.hid (HL10.out.hb.trans ((show Below w10.heap.size w10 w11 from by rw [hw11]; exact mx_drewN _ _).mono HL10.out.hb.size))
        clear hw11 HEQ
        go_wp2_with fail
        go_ret
        exact ⟨rfl, HBF.out⟩
      · rw [ha]
        have hlev := tr_level t T' (litV U : Nat) w10 HL10.out.sys.tr
        rw [hlv] at hlev
        have HLV := Lib.hid hlev
        have HVU := Lib.hid (fun W => lit_var U W)
        have HRE := Lib.hid hre
        have HST := Lib.hid hst
        have HO := Lib.hid ho
        obtain ⟨V, hV⟩ : ∃ V : Int, ((litV U : Nat) : Int) = V := ⟨_, rfl⟩
        rw [hV] at HLV HVU HRE
        clear hlev ho hst hre hlv hV HAOK
        go_wp2_with fail
        refine (HVU.out _).mono ?_
        rintro e w' ⟨rfl, rfl⟩
        go_wp2_with fail
        refine HLV.out.mono ?_
        rintro e w11 ⟨rfl, hb11⟩
        have HL11 := Lib.hid (HL10.out.below hb11)
        have hrs := tr_reason t T' V w11 HL11.out.sys.tr
        rw [HRE.out] at hrs
        have HRS := Lib.hid hrs
        have HRA11 := Lib.hid (own_below HRA10.out hb11)
        have HOW11 := Lib.hid (own_keep HOW10.out.1 HOW10.out.2 (Labs.of_below hb11))
        clear hrs hb11 HLV HL10 HRA10 HOW10 HIA10 HIN10
        go_wp2_with fail
        refine (HVU.out _).mono ?_
        rintro e w' ⟨rfl, rfl⟩
        go_wp2_with fail
        refine HRS.out.mono ?_
        rintro e w12 ⟨rfl, hb12⟩
        have HL12 := Lib.hid (HL11.out.below hb12)
        have HRA12 := Lib.hid (own_below HRA11.out hb12)
        have HOW12 := Lib.hid (own_keep HOW11.out.1 HOW11.out.2 (Labs.of_below hb12))
        clear hb12 HRS HL11 HRA11 HOW11
        obtain ⟨i0, hi, hz0, hz1, hz2⟩ := info_parts info_lit
        have hfo := HFW.out.few
        have hN12 := HL12.out.hb.size
        go_wp2_with (
          at_builtin
          refine wpList_on rfl ?_
          refine wpList_append_own_at _ rfl _ _ 40 rfl w.heap.size 39 i0 (.int .i64 0) 1 8 Tryz.underlying40 hi hz0 hz1 hz2 rfl (by decide) _ T.order.length _ rfl (own_below HOW12.out.1 (below_alloc1 w12 _)) ⟨w12.heap.size, 0, none⟩ 1 1 [.int .i64 U] rfl rfl (cell_one_new' _ _ _) (by simp [Value.oneCell']) (by unfold maxLen; omega) (by omega) (by simp; omega) ?_
          intro v' w13 hown hgrow hnl hat
          obtain ⟨Av, kv, rfl, _⟩ := mx_slice hown
          have HLA := HL12.out.al (.cells #[.int .i64 U] 39)
          have HL13 := Lib.hid (show Lw w w13 lab8 b a t A T' S' from ⟨HLA.sys.kept (Kept.grown hgrow) (fun g hg e => hg (HOW12.out.2 g e.symm)), HLA.ge, HLA.hb.grown hgrow HLA.hb.size (fun g hg => (own_lt HOW12.out.1 g hg).1)⟩)
          have hra13 := own_kept (own_below HRA12.out (mx_al w12 (.cells #[.int .i64 U] 39))) (Kept.grown hgrow) (fun g hg e => by
            have h1 := HNL.out g e.symm
            have h2 := (own_lt HRA12.out g hg).1
            omega)
          have heq := eq_l _ _ T'.order (T.order ++ [U]) w13 (IntsIn.of_own hra13) (IntsIn.of_own (base := w.heap.size) (e := 39) (by rw [List.length_append, List.map_append]; exact hown)) (by have := HFEW.out; omega)
          rw [show (T'.order == T.order ++ [U]) = true from by rw [HO.out]; exact beq_self_eq_true _] at heq
          have hnw := tr_now t T' w13 HL13.out.sys.tr
          have HHO := Lib.hid (show (T.order ++ [U]).length = T.order.length + 1 by simp)
          rw [HST.out] at hnw
          have HEQ := Lib.hid heq
          have HHT := Lib.hid (show T'.order.length = T.order.length + 1 by rw [HO.out, HHO.out])
          clear HLA hra13 heq hnw hown hgrow hnl hat HL12 HRA12 HOW12 HNL hN12)
        refine HEQ.out.mono ?_
        rintro e w14 ⟨rfl, n14, hw14⟩
        have HL14 := Lib.hid (HL13.out.below (show Below w13.heap.size w13 w14 from by rw [hw14]; exact mx_drewN _ _))
        have hnw := tr_now t T' w14 HL14.out.sys.tr
        rw [HST.out] at hnw
        have HNWC := Lib.hid hnw
        clear hw14 hnw HEQ HL13
        go_wp2_with fail
        refine HNWC.out.mono ?_
        rintro e w' ⟨rfl, rfl⟩
        go_wp2_with fail
        go_ret
        exact ⟨rfl, HL14.out.hb⟩
      · rw [ha]
        have heq := eq_l _ _ _ _ w10 HIA10.out HIN10.out (by have := HFW.out.few; omega)
        rw [beq_self_eq_true] at heq
        have HEQ := Lib.hid heq
        clear heq HAOK
        go_wp2_with fail
        refine HEQ.out.mono ?_
        rintro e w11 ⟨rfl, n11, hw11⟩
        have HBF := Lib.hid (HL10.out.hb.trans ((show Below w10.heap.size w10 w11 from by rw [hw11]; exact mx_drewN _ _).mono HL10.out.hb.size))
        clear hw11 HEQ
        go_wp2_with fail
        go_ret
        exact ⟨rfl, HBF.out⟩
      · have hq3 : ((I : Int) == 3) = false := by simp; omega
        have hq2 : ((I : Int) == 2) = false := by simp; omega
        rw [ha]
        have heq := eq_l _ _ _ _ w10 HIA10.out HIN10.out (by have := HFW.out.few; omega)
        rw [beq_self_eq_true] at heq
        have HEQ := Lib.hid heq
        clear heq HAOK
        go_wp2_with fail
        refine HEQ.out.mono ?_
        rintro e w11 ⟨rfl, n11, hw11⟩
        have HBF := Lib.hid (HL10.out.hb.trans ((show Below w10.heap.size w10 w11 from by rw [hw11]; exact mx_drewN _ _).mono HL10.out.hb.size))
        clear hw11 HEQ
        go_wp2_with fail
        go_ret
        exact ⟨rfl, HBF.out⟩
theorem adds_any (ux ul : Value) (xs l : List Int) (w : World) (hx : RowAt .i8 w ux xs) (hl : RowAt .i8 w ul l) :
    Calls Tryz.prog 4 #[ux, ul] w fun e w' => e = .returned (.bool true) ∧ Below w.heap.size w w' := by
  obtain ⟨A1, c1, rfl, _⟩ := id hl
  exact adds_walk A1 c1 (min l.length 8) ux xs l w hx hl (by omega) (by omega) (by omega)
end Go.Proofs.YtobcnejecogfoaaGreat
