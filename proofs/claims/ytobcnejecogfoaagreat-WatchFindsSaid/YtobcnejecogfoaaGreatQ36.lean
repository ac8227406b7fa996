/- package salvorlaw13: awake. package salvorlaw13: started. -/
import Derived.Test.YtobcnejecogfoaaGreatQ33
import Derived.Test.YtobcnejecogfoaaGreatQ35
import Derived.Test.YtobcnejecogfoaaGreatQ34
namespace Go.Proofs.YtobcnejecogfoaaGreat
open Go.RowKit

theorem info_u8 : (Tryz.prog.info? 5).map (fun i => (i.zero, i.size, i.bytes)) = some (some (.int .u8 0), 1, 1) := by kernel_rfl
theorem Lw.lt0 {w0 w : World} {lab : Nat → Nat} {b ab tb : Nat} {A : Arn} {T : Trl} {S : Wst} (h : Lw w0 w lab b ab tb A T S) {g : Nat} (hg : w.heap.size ≤ g) : lab g = 0 := Classical.byContradiction fun e => by
  have := h.sys.lt g e
  omega
/-- a fresh row -/
theorem Lw.ints {w0 w w' : World} {lab : Nat → Nat} {b ab tb : Nat} {A : Arn} {T : Trl} {S : Wst} (h : Lw w0 w lab b ab tb A T S) {e : TypeId} {v : Value} {xs : List Int} (hr : w'.ownsRow w.heap.size e 1 v xs.length (xs.map (Value.int .i64))) : IntsIn (Fr w' lab) w' v xs := own_fr h.sys.lt hr
theorem Lw.al {w0 w : World} {lab : Nat → Nat} {b ab tb : Nat} {A : Arn} {T : Trl} {S : Wst} (h : Lw w0 w lab b ab tb A T S) (o : Obj) : Lw w0 (w.alloc o) lab b ab tb A T S := h.below (mx_al _ _)
theorem Lw.dr {w0 w : World} {lab : Nat → Nat} {b ab tb : Nat} {A : Arn} {T : Trl} {S : Wst} (h : Lw w0 w lab b ab tb A T S) (n : Nat) : Lw w0 (w.drewN n) lab b ab tb A T S := h.below (mx_drewN _ _)
theorem k_in {w : World} {n : Nat} {xs : List Int} {t : TypeId} {W : World} (hs : W.heap.size = n) (hb : Below (n + 1) (W.alloc (.cells (xs.map (Value.int .i64)).toArray t)) w) : IntsIn (fun g => g < w.heap.size) w (.slice (some ⟨n, 0, none⟩) xs.length xs.length) xs := by
  subst hs
  have hb' : Below (W.alloc (.cells (xs.map (Value.int .i64)).toArray t)).heap.size (W.alloc (.cells (xs.map (Value.int .i64)).toArray t)) w := by simpa using hb
  refine ((mx_ints W xs t).below hb').mono (fun g hg => ?_)
  have := hb.size
  simp at this
  omega
set_option maxRecDepth 100000 in
theorem x13_cls (w : World) : ∃ W6, ((((w.alloc (.cells #[.int .i64 1, .int .i64 2, .int .i64 3] 39)).alloc (.cells #[.int .i64 (-1), .int .i64 4] 39)).alloc (.cells #[.int .i64 (-4), .int .i64 (-2), .int .i64 (-2)] 39)).alloc (.cells #[.int .i64 5] 39)).alloc (.cells #[.slice (some ⟨w.heap.size, 0, none⟩) 3 3, .slice (some ⟨w.heap.size + 1, 0, none⟩) 2 2, .slice (some ⟨w.heap.size + 1 + 1, 0, none⟩) 3 3, .slice (some ⟨w.heap.size + 1 + 1 + 1, 0, none⟩) 1 1] 41) = W6 ∧ Below w.heap.size w W6 ∧ ClsAt W6 (.slice (some ⟨w.heap.size + 1 + 1 + 1 + 1, 0, none⟩) 4 4) x13L := by
  refine ⟨_, rfl, (((((mx_al _ _).alloc (by simp) _).alloc (by simp; omega) _).alloc (by simp; omega) _).alloc (by simp; omega) _), ?_⟩
  have key := cls_new ((((w.alloc (.cells #[.int .i64 1, .int .i64 2, .int .i64 3] 39)).alloc (.cells #[.int .i64 (-1), .int .i64 4] 39)).alloc (.cells #[.int .i64 (-4), .int .i64 (-2), .int .i64 (-2)] 39)).alloc (.cells #[.int .i64 5] 39)) [.slice (some ⟨w.heap.size, 0, none⟩) 3 3, .slice (some ⟨w.heap.size + 1, 0, none⟩) 2 2, .slice (some ⟨w.heap.size + 1 + 1, 0, none⟩) 3 3, .slice (some ⟨w.heap.size + 1 + 1 + 1, 0, none⟩) 1 1] x13L 41 (fun i xs hi => by
    match i, hi with
    | 0, hi =>
      obtain rfl := Option.some.inj hi
      exact ⟨_, rfl, k_in (xs := [1, 2, 3]) (W := w) rfl ((((mx_al _ _).mono (by simp)).alloc (by simp) _).alloc (by simp) _)⟩
    | 1, hi =>
      obtain rfl := Option.some.inj hi
      exact ⟨_, rfl, k_in (xs := [-1, 4]) (W := (w.alloc (.cells #[.int .i64 1, .int .i64 2, .int .i64 3] 39))) (by simp) (((mx_al _ _).mono (by simp)).alloc (by simp) _)⟩
    | 2, hi =>
      obtain rfl := Option.some.inj hi
      exact ⟨_, rfl, k_in (xs := [-4, -2, -2]) (W := ((w.alloc (.cells #[.int .i64 1, .int .i64 2, .int .i64 3] 39)).alloc (.cells #[.int .i64 (-1), .int .i64 4] 39))) (by simp) ((mx_al _ _).mono (by simp))⟩
    | 3, hi =>
      obtain rfl := Option.some.inj hi
      exact ⟨_, rfl, k_in (xs := [5]) (W := (((w.alloc (.cells #[.int .i64 1, .int .i64 2, .int .i64 3] 39)).alloc (.cells #[.int .i64 (-1), .int .i64 4] 39)).alloc (.cells #[.int .i64 (-4), .int .i64 (-2), .int .i64 (-2)] 39))) (by simp) (Below.refl _ _)⟩
    | n + 4, hi => exact absurd hi (by simp [x13L]))
  simpa [x13L] using key
set_option maxRecDepth 100000 in
set_option maxHeartbeats 8000000 in
theorem awake13 (w : World) : Calls Tryz.prog 11 #[] w fun e w' => e = .returned (.bool true) ∧ Below w.heap.size w w' := by
  obtain ⟨W6, hW6, hb6, hc6⟩ := x13_cls w
  have HW6 := Lib.hid hW6
  have HB6 := Lib.hid hb6
  have HST := Lib.hid (store_any 5 _ x13L W6 (by decide) hc6 (by decide) (by decide))
  clear hW6 hb6 hc6
  go_enter Tryz.func11, Tryz.ntmps11
  go_wp2_with fail
  rw [HW6.out]
  refine HST.out.mono ?_
  rintro e w1 ⟨a, t, rfl, hp, hb1⟩
  rw [show addAll arn0 0 x13L = x13A from rfl, show trl0 5 = x13T0 from rfl] at hp
  have HNW := Lib.hid (wa_new_at (hp.below (Below.refl _ _)))
  have HB1 := Lib.hid (HB6.out.trans (hb1.mono HB6.out.size))
  have hzz := HB6.out.size
  clear hp hb1 HST HW6
  go_wp2_with fail
  refine HNW.out.mono ?_
  rintro e w2 ⟨b, lab, rfl, hs2, hge, hb2⟩
  have hl2 : Lw w w2 lab b a t x13A x13T0 x13S0 := ⟨hs2, fun g hg => Nat.le_trans hzz (hge g hg), HB1.out.trans (hb2.mono HB1.out.size)⟩
  obtain ⟨WK, hWK⟩ : ∃ x, w2.alloc (.cells #[.int .u8 1, .int .u8 1, .int .u8 1, .int .u8 2] 5) = x := ⟨_, rfl⟩
  have hlk : Lw w WK lab b a t x13A x13T0 x13S0 := by rw [← hWK]; exact hl2.al _
  have hbk : WK.heap[w2.heap.size]? = some (.cells #[.int .u8 1, .int .u8 1, .int .u8 1, .int .u8 2] 5 (0, 0)) := by rw [← hWK]; exact World.alloc_heap_new _ _
  have hlb := hl2.lt0 (Nat.le_refl _)
  have HWK := Lib.hid hWK
  have HLK := Lib.hid hlk
  have HBK := Lib.hid (And.intro hbk hlb)
  clear hs2 hge hb2 hl2 hWK hlk hbk hlb HNW HB1 HB6 hzz
  go_wp2_with fail
  rw [HWK.out]
  obtain ⟨gk, hgk⟩ : ∃ g, w2.heap.size = g := ⟨_, rfl⟩
  rw [hgk] at HBK ⊢
  clear hgk HWK
  go_loopw [47] (fun i wr => ∃ (k : Nat) (labr : Nat → Nat), k ≤ 4 ∧ i = .int .i64 k ∧ Hid (Lw w wr labr b a t x13A (x13R k).1 (x13R k).2) ∧ Hid (wr.heap[gk]? = some (.cells #[.int .u8 1, .int .u8 1, .int .u8 1, .int .u8 2] 5 (0, 0)) ∧ labr gk = 0)) (fun i _ => 4 - (intOf i).toNat)
  case atStart => exact ⟨0, lab, by omega, rfl, HLK, HBK⟩
  case round =>
    obtain ⟨k, labr, hk, rfl, HL, HG⟩ := hrel
    by_cases hlt : k < 4
    · have hcell : wr.cell? ⟨gk, k, none⟩ = some (.int .u8 (x13K k : Nat)) := by
        rw [mx_cell HG.out.1]
        match k, hlt with
        | 0, _ => rfl
        | 1, _ => rfl
        | 2, _ => rfl
        | 3, _ => rfl
        | n + 4, h => exact absurd h (by omega)
      have hgl := heap_lt HG.out.1
      have hidk : ((k : Int) + 1) = ((k + 1 : Nat) : Int) := by omega
      have hAD := lw_add HL.out ((k : Int) + 1) (wf64 (by omega) (by omega)) (fun c hc => ⟨(x13_get k hlt c hc).1, (x13_get k hlt c hc).2, by omega, by omega⟩) (x13_or k hk) (x13_sr k hk)
      rw [x13_r k hlt] at hAD
      obtain ⟨K, hK⟩ : ∃ z : Int, ((x13K k : Nat) : Int) = z := ⟨_, rfl⟩
      simp only [hK] at hAD hcell
      have hKK : (K != K) = false := by simp
      have hwk : IntKind.i64.wrap ((k : Int) + 1) = (k : Int) + 1 := IntWalk.i64_in _ (by omega)
      have HAD := Lib.hid hAD
      clear hAD hK hidk
      go_wp2_with fail
      refine HAD.out.mono ?_
      rintro e w3 ⟨rfl, lab3, hl3, hk3⟩
      have HL3 := Lib.hid hl3
      have HG3 := Lib.hid (And.intro ((hk3.kept.block gk hgl (fun e => e HG.out.2)).trans HG.out.1) ((hk3.same gk hgl).trans HG.out.2))
      clear hl3 hk3 hcell hgl HAD
      go_wp2_with fail
      go_roundw
      case rel => exact ⟨k + 1, lab3, by omega, by go_num, HL3, HG3⟩
      case measure => simp [intOf]; omega
    · obtain rfl : k = 4 := by omega
      have hl := HL.out
      rw [show (x13R 4).1 = x13T4 from rfl, show (x13R 4).2 = x13S4 from rfl] at hl
      have HBY1 := Lib.hid (wa_by b a t x13A x13T4 x13S4 1 _ wr labr hl.sys (by decide) x13_k1)
      have HL4 := Lib.hid hl
      clear hl HG HL hlt
      go_wp2_with fail
      refine HBY1.out.mono ?_
      rintro e w5 ⟨v1, rfl, hr1, hb5⟩
      rw [show ([1, 2, 3] : List Int).filter ([1, 2] : List Int).contains = [1, 2] from rfl] at hr1
      have HX1 := Lib.hid (HL4.out.ints hr1)
      have HL5 := Lib.hid (HL4.out.below hb5)
      have HBY3 := Lib.hid (wa_by b a t x13A x13T4 x13S4 3 _ w5 labr HL5.out.sys (by decide) x13_k3)
      obtain ⟨A1, c1, rfl, _⟩ := mx_slice hr1
      clear hr1 hb5 HBY1 HL4
      go_wp2_with fail
      refine HBY3.out.mono ?_
      rintro e w6 ⟨v3, rfl, hr3, hb6⟩
      rw [show ([-4, -2] : List Int).filter ([-4, -2] : List Int).contains = [-4, -2] from rfl] at hr3
      have HX3 := Lib.hid (HL5.out.ints hr3)
      have HL6 := Lib.hid (HL5.out.below hb6)
      have HX1' := Lib.hid (HX1.out.frb hb6)
      obtain ⟨A3, c3, rfl, _⟩ := mx_slice hr3
      obtain ⟨W7, hW7⟩ : ∃ x, w6.alloc (.cells #[.int .i64 1, .int .i64 2] 39) = x := ⟨_, rfl⟩
      have hb7 : Below w6.heap.size w6 W7 := by rw [← hW7]; exact mx_al _ _
      have hy7 : IntsIn (fun g => g = w6.heap.size) W7 (.slice (some ⟨w6.heap.size, 0, none⟩) 2 2) [1, 2] := by rw [← hW7]; exact mx_ints w6 [1, 2] _
      have HW7 := Lib.hid hW7
      have HEQ1 := Lib.hid (eq_l _ _ [1, 2] [1, 2] W7 (HX1'.out.frb hb7) hy7 (by decide))
      have HL7 := Lib.hid (HL6.out.below hb7)
      have HX3' := Lib.hid (HX3.out.frb hb7)
      clear hr3 hb6 HBY3 HL5 HX1 hW7 hb7 hy7 HX1' HX3 HL6
      go_wp2_with fail
      rw [HW7.out]
      refine HEQ1.out.mono ?_
      rintro e w8 ⟨rfl, n8, hw8⟩
      have hb8 : Below W7.heap.size W7 w8 := by rw [hw8]; exact mx_drewN _ _
      have HL8 := Lib.hid (HL7.out.below hb8)
      have HX8 := Lib.hid (HX3'.out.frb hb8)
      obtain ⟨W9, hW9⟩ : ∃ x, w8.alloc (.cells #[.int .i64 (-4), .int .i64 (-2)] 39) = x := ⟨_, rfl⟩
      have hb9 : Below w8.heap.size w8 W9 := by rw [← hW9]; exact mx_al _ _
      have hy9 : IntsIn (fun g => g = w8.heap.size) W9 (.slice (some ⟨w8.heap.size, 0, none⟩) 2 2) [-4, -2] := by rw [← hW9]; exact mx_ints w8 [-4, -2] _
      have HW9 := Lib.hid hW9
      have HEQ3 := Lib.hid (eq_l _ _ [-4, -2] [-4, -2] W9 (HX8.out.frb hb9) hy9 (by decide))
      have HL9 := Lib.hid (HL8.out.below hb9)
      clear hw8 hb8 hW9 hb9 hy9 HEQ1 HL7 HX3' HX8 HL8 HW7
      rw [show (([1, 2] : List Int) == [1, 2]) = true from rfl]
      go_wp2_with fail
      rw [HW9.out]
      refine HEQ3.out.mono ?_
      rintro e w10 ⟨rfl, n10, hw10⟩
      have hb10 : Below W9.heap.size W9 w10 := by rw [hw10]; exact mx_drewN _ _
      have HL10 := Lib.hid (HL9.out.below hb10)
      have HPU := Lib.hid (lw_push HL10.out x13_o4.1)
      clear hw10 hb10 HEQ3 HL9 HW9
      rw [show (([-4, -2] : List Int) == [-4, -2]) = true from rfl]
      go_wp2_with fail
      refine HPU.out.mono ?_
      rintro e w11 ⟨rfl, l11, hl11, _⟩
      have has := lw_assign hl11 (-2) 0 x13_o4.2
      rw [x13_e5, show x13T4.push.assigned (-2) 0 = x13T5 from rfl] at has
      have HAS := Lib.hid has
      clear hl11 has HPU HL10
      go_wp2_with fail
      refine HAS.out.mono ?_
      rintro e w12 ⟨rfl, l12, hl12, _⟩
      have hpr := lw_prop hl12 x13_s4.2 x13_pt5.sim x13_v5
      rw [x13_p6, show (propW x13A x13T5 x13S4).1 = x13T6 from rfl, show (propW x13A x13T5 x13S4).2.1 = x13S6 from rfl] at hpr
      have HPR := Lib.hid hpr
      clear hl12 hpr HAS
      go_wp2_with fail
      refine HPR.out.mono ?_
      rintro e w13 ⟨rfl, l13, hl13, _⟩
      have HBY := Lib.hid (wa_by b a t x13A x13T6 x13S6 1 _ w13 l13 hl13.sys (by decide) x13_k6)
      have HL13 := Lib.hid hl13
      clear hl13 HPR
      go_wp2_with fail
      refine HBY.out.mono ?_
      rintro e w14 ⟨v1, rfl, hr1, hb14⟩
      rw [show ([1, 2, 3] : List Int).filter ([1, 3] : List Int).contains = [1, 3] from rfl] at hr1
      have HX14 := Lib.hid (HL13.out.ints hr1)
      have HL14 := Lib.hid (HL13.out.below hb14)
      obtain ⟨A1', c1', rfl, _⟩ := mx_slice hr1
      obtain ⟨W15, hW15⟩ : ∃ x, w14.alloc (.cells #[.int .i64 1, .int .i64 3] 39) = x := ⟨_, rfl⟩
      have hb15 : Below w14.heap.size w14 W15 := by rw [← hW15]; exact mx_al _ _
      have hy15 : IntsIn (fun g => g = w14.heap.size) W15 (.slice (some ⟨w14.heap.size, 0, none⟩) 2 2) [1, 3] := by rw [← hW15]; exact mx_ints w14 [1, 3] _
      have HW15 := Lib.hid hW15
      have HEQ := Lib.hid (eq_l _ _ [1, 3] [1, 3] W15 (HX14.out.frb hb15) hy15 (by decide))
      have HL15 := Lib.hid (HL14.out.below hb15)
      clear hr1 hb14 HBY HL13 HX14 HL14 hW15 hb15 hy15
      go_wp2_with fail
      rw [HW15.out]
      refine HEQ.out.mono ?_
      rintro e w16 ⟨rfl, n16, hw16⟩
      have hb16 : Below W15.heap.size W15 w16 := by rw [hw16]; exact mx_drewN _ _
      have HL16 := Lib.hid (HL15.out.below hb16)
      have HPU := Lib.hid (lw_push HL16.out x13_o6.1)
      clear hw16 hb16 HEQ HL15 HW15
      rw [show (([1, 3] : List Int) == [1, 3]) = true from rfl]
      go_wp2_with fail
      refine HPU.out.mono ?_
      rintro e w17 ⟨rfl, l17, hl17, _⟩
      have has := lw_assign hl17 (-3) 0 x13_o6.2
      rw [x13_e7, show x13T6.push.assigned (-3) 0 = x13T7 from rfl] at has
      have HAS := Lib.hid has
      clear hl17 has HPU HL16
      go_wp2_with fail
      refine HAS.out.mono ?_
      rintro e w18 ⟨rfl, l18, hl18, _⟩
      have hpr := lw_prop hl18 x13_s6.2 x13_pt7.sim x13_v7
      rw [x13_p8, show (propW x13A x13T7 x13S6).1 = x13T8 from rfl, show (propW x13A x13T7 x13S6).2.1 = x13S8 from rfl] at hpr
      have HPR := Lib.hid hpr
      clear hl18 hpr HAS
      go_wp2_with fail
      refine HPR.out.mono ?_
      rintro e w19 ⟨rfl, l19, hl19, _⟩
      have hre := tr_reason t x13T8 4 w19 hl19.sys.tr
      rw [x13_w8.1, x13_w8.2.1] at hre
      have HRE := Lib.hid hre
      have HL19 := Lib.hid hl19
      clear hl19 HPR hre
      go_wp2_with fail
      refine HRE.out.mono ?_
      rintro e w20 ⟨rfl, hb20⟩
      have HL20 := Lib.hid (HL19.out.below hb20)
      have hva := tr_value t x13T8 1 w20 HL20.out.sys.tr
      rw [x13_w8.2.2] at hva
      have HVA := Lib.hid hva
      clear hb20 HRE HL19 hva
      go_wp2_with fail
      refine HVA.out.mono ?_
      rintro e w21 ⟨rfl, hb21⟩
      have HL21 := Lib.hid (HL20.out.below hb21)
      have hba := lw_back HL21.out 0 x13_pt8.sta x13_pt8.fit
      rw [x13_b9, show x13T8.backed 0 = x13T9 from rfl, show (⟨x13S8.known, x13S8.of, min x13S8.looked x13T9.order.length⟩ : Wst) = x13S9 from rfl] at hba
      have HBA := Lib.hid hba
      clear hb21 HVA HL20 hba
      go_wp2_with fail
      refine HBA.out.mono ?_
      rintro e w22 ⟨rfl, l22, hl22, _⟩
      have hlo := wa_looked b a t x13A x13T9 x13S9 w22 l22 hl22.sys
      rw [x13_l9] at hlo
      have HLO := Lib.hid hlo
      have HL22 := Lib.hid hl22
      clear hl22 hlo HBA HL21
      go_wp2_with fail
      refine HLO.out.mono ?_
      rintro e w23 ⟨rfl, rfl⟩
      have HPU := Lib.hid (lw_push HL22.out x13_o9.1)
      clear HLO HL22
      go_wp2_with fail
      refine HPU.out.mono ?_
      rintro e w24 ⟨rfl, l24, hl24, _⟩
      have has := lw_assign hl24 2 0 x13_o9.2.1
      rw [x13_e10, show x13T9.push.assigned 2 0 = x13T10 from rfl] at has
      have HAS := Lib.hid has
      clear hl24 has HPU
      go_wp2_with fail
      refine HAS.out.mono ?_
      rintro e w25 ⟨rfl, l25, hl25, _⟩
      have has := lw_assign hl25 4 0 x13_o9.2.2
      rw [x13_e11, show x13T10.assigned 4 0 = x13T11 from rfl] at has
      have HAS2 := Lib.hid has
      clear hl25 has HAS
      go_wp2_with fail
      refine HAS2.out.mono ?_
      rintro e w26 ⟨rfl, l26, hl26, _⟩
      have hpr := lw_prop hl26 x13_s9 x13_pt11.sim x13_v11
      rw [x13_p12, show (propW x13A x13T11 x13S9).1 = x13T12 from rfl, show (propW x13A x13T11 x13S9).2.1 = x13S12 from rfl] at hpr
      have HPR := Lib.hid hpr
      clear hl26 hpr HAS2
      go_wp2_with fail
      refine HPR.out.mono ?_
      rintro e w27 ⟨rfl, l27, hl27, _⟩
      have had := lw_add hl27 1 (by decide) (fun c hc => ⟨(x13_get 0 (by decide) c hc).1, (x13_get 0 (by decide) c hc).2, by decide, by decide⟩) x13_o12 x13_s12
      rw [x13_last] at had
      have HAD := Lib.hid had
      clear hl27 had HPR
      go_wp2_with fail
      refine HAD.out.mono ?_
      rintro e w28 ⟨rfl, l28, hl28, _⟩
      have HL28 := Lib.hid hl28
      clear hl28 HAD
      go_wp2_with fail
      go_ret
      exact ⟨rfl, HL28.out.hb⟩
end Go.Proofs.YtobcnejecogfoaaGreat
namespace Go.Proofs.YtobcnejecogfoaaGreat
open Go.RowKit

/-- what started gives -/
structure Started (cs : List (List Int)) (w0 w : World) (lab : Nat → Nat) (b ab tb : Nat) (T : Trl) (its : List RIt) (S : Wst) (fl : Bool) : Prop where
  lw : Lw w0 w lab b ab tb (addAll arn0 0 cs) T S
  st : St (clsC cs) T its S
  kn : ∀ j, (S.kn j).isSome = (clsC cs j).isSome
  now : T.now = 0
  ok : fl = false → Run cs T its S
  bad : fl = true → ∃ c ∈ cs, ∀ y ∈ c, Has its (-y)
set_option maxRecDepth 100000 in
set_option maxHeartbeats 8000000 in
theorem law_started (Ac : Option Addr) (cc : Nat) (cs : List (List Int)) (w : World) (hc : ClsAt w (.slice Ac cs.length cc) cs) (h6 : Six cs) :
    Calls Tryz.prog 13 #[.slice Ac cs.length cc] w fun e w' => ∃ b a t lab T its S fl, e = .returned (.tuple #[.pointer (some ⟨b, 0, none⟩), .pointer (some ⟨a, 0, none⟩), .pointer (some ⟨t, 0, none⟩), .bool fl, .bool true]) ∧ Started cs w w' lab b a t T its S fl := by
  have hcl := h6.1
  have HC := Lib.hid hc
  have HST := Lib.hid (store_any 6 _ cs w (by decide) hc (by omega) (fun c hm => ⟨by have := (h6.right hm).2; omega, (h6.right hm).1⟩))
  clear hc
  go_enter Tryz.func13, Tryz.ntmps13
  go_wp2_with fail
  refine HST.out.mono ?_
  rintro e w1 ⟨a, t, rfl, hp, hb1⟩
  obtain ⟨A, hA⟩ : ∃ A, addAll arn0 0 cs = A := ⟨_, rfl⟩
  rw [hA] at hp
  have HA := Lib.hid hA
  have HNW := Lib.hid (wa_new_at hp)
  have HB1 := Lib.hid hb1
  clear hp hb1 HST hA
  go_wp2_with fail
  refine HNW.out.mono ?_
  rintro e w2 ⟨b, lab, rfl, hs2, hge, hb2⟩
  have HLW := Lib.hid (show Lw w w2 lab b a t A (trl0 6) ⟨[], [], 0⟩ from ⟨hs2, hge, HB1.out.trans (hb2.mono HB1.out.size)⟩)
  have HBG := Lib.hid (beg0 cs)
  clear hs2 hge hb2 HNW HB1
  go_wp2_with fail
  go_loopw [12, 43] (fun fv i wr => ∃ (k : Nat) (fl : Bool) (labr : Nat → Nat) (T : Trl) (its : List RIt) (S : Wst), k ≤ cs.length ∧ i = .int .i64 k ∧ fv = .bool fl ∧ Hid (Lw w wr labr b a t A T S) ∧ Hid (Beg cs k T its S fl)) (fun _ i _ => cs.length - (intOf i).toNat)
  case atStart => exact ⟨0, false, lab, _, [], _, Nat.zero_le _, rfl, rfl, HLW, HBG⟩
  case round =>
    obtain ⟨k, fl, labr, T, its, S, hk, rfl, rfl, HL, HG⟩ := hrel
    by_cases hlt : k < cs.length
    · obtain ⟨c, hck⟩ := getElem_of hlt
      obtain ⟨A', c', hAc, hxs⟩ := HC.out.below HL.out.hb
      simp only [Value.slice.injEq, true_and] at hAc
      obtain ⟨rfl, rfl⟩ := hAc
      obtain ⟨g, o, u, rfl, hg, d0, hu⟩ := hxs k c hck
      have hmem := List.mem_of_getElem? hck
      have hgw : g < w.heap.size := by
        obtain ⟨A2, c2, hA2, hys⟩ := HC.out
        simp only [Value.slice.injEq, true_and] at hA2
        obtain ⟨g2, o2, u2, he2, hg2, _⟩ := hys k c hck
        rw [← hA2.1] at he2
        cases he2
        exact hg2
      have HU := Lib.hid (show ∃ u0, w.cell? ⟨g, o + k, none⟩ = some u0 ∧ IntsIn (fun g => g < w.heap.size) w u0 c from by
        obtain ⟨A2, c2, hA2, hys⟩ := HC.out
        simp only [Value.slice.injEq, true_and] at hA2
        obtain ⟨g2, o2, u2, he2, hg2, hcell, hu2⟩ := hys k c hck
        rw [← hA2.1] at he2
        cases he2
        exact ⟨u2, hcell, hu2⟩)
      have HUU := Lib.hid (show IntsIn (fun g => g < w.heap.size) w u c from by
        obtain ⟨u0, h1, h2⟩ := HU.out
        have h3 := (HL.out.hb.cell (p := ⟨g, o + k, none⟩) hgw).trans h1
        rw [d0] at h3
        rwa [Option.some.inj h3])
      have hrt := h6.right hmem
      have hv7 := HG.out.st.vars
      have hsim := HG.out.st.sim
      have hfew := hsim.few hv7
      obtain ⟨f, hf, hff⟩ := k_its (fun x hx => hsim.litb hx) hsim.nodup
      rw [← hsim.order] at hf
      have HF := Lib.hid hf
      have HNX := Lib.hid (HG.out.next h6 hck hff)
      have HAS := Lib.hid (law_assigned t T wr HL.out.sys.tr (by omega))
      have HRT := Lib.hid hrt
      have HAG := Lib.hid (show A.get ((k : Int) + 1) = some c from by
        rw [← HA.out, get_cls h6]
        unfold clsC
        rw [if_pos (by omega), show ((k : Int) + 1 - 1).toNat = k by omega]
        exact hck)
      have HC7 := Lib.hid (h6.2 c hmem)
      have hwk : IntKind.i64.wrap ((k : Int) + 1) = (k : Int) + 1 := IntWalk.i64_in _ (by omega)
      obtain ⟨Au, cu, rfl, _⟩ := id hu
      clear hck hxs hu hmem HU hf hff hrt hsim
      go_wp2_with fail
      refine HAS.out.mono ?_
      rintro e w3 ⟨vn, rfl, hrn, hb3⟩
      have hin := HL.out.ints hrn
      have HIN := Lib.hid hin
      have HL3 := Lib.hid (HL.out.below hb3)
      have hadd := lw_add HL3.out ((k : Int) + 1) (wf64 (by omega) (by omega)) (fun d hd => by
        rw [HAG.out] at hd
        rw [← Option.some.inj hd]
        exact ⟨by have := HRT.out.2; omega, HRT.out.1, by omega, by omega⟩) (by omega) HG.out.st.inv.link
      have hkn : S.kn ((k : Int) + 1) = none := by
        have := HG.out.kn ((k : Int) + 1)
        rw [decide_eq_false (by omega)] at this
        exact Option.isSome_eq_false_iff.1 this |> Option.isNone_iff_eq_none.1
      have hw : addW A T S ((k : Int) + 1) = addOk T S ((k : Int) + 1) c := by
        unfold addW
        rw [hkn]
        simp only []
        rw [HAG.out]
        simp only []
        rw [if_neg (by
          rw [Bool.not_eq_true, List.any_eq_false]
          intro y hy
          have := (HC7.out.2 y hy).2
          rw [decide_eq_true_eq]
          omega)]
      rw [hw, addOk_err] at hadd
      obtain ⟨R, hR⟩ : ∃ R, addOk T S ((k : Int) + 1) c = R := ⟨_, rfl⟩
      rw [hR] at hadd
      have hnx := HNX.out
      rw [hR] at hnx
      obtain ⟨K, T', S', hRK⟩ : ∃ K T' S', R.res = K ∧ R.T = T' ∧ R.S = S' := ⟨_, _, _, rfl, rfl, rfl⟩
      rw [hRK.1, hRK.2.1, hRK.2.2] at hadd hnx
      obtain ⟨its', hbeg, hso⟩ := hnx
      obtain ⟨An, cn, rfl, _⟩ := mx_slice hrn
      have HADD := Lib.hid hadd
      have HBG' := Lib.hid hbeg
      have HSO := Lib.hid hso
      clear hrn hin hb3 hadd hkn hw hR hRK hbeg hso HAS HNX
      go_wp2_with fail
      refine HADD.out.mono ?_
      rintro e w4 ⟨rfl, lab4, hl4, hk4⟩
      have HL4 := Lib.hid hl4
      have HIN4 := Lib.hid (HIN.out.next hk4)
      have HU4 := Lib.hid (HUU.out.below hl4.hb)
      have hlk := rup_Look _ _ c T.order w4 HU4.out HIN4.out HRT.out.1 f HF.out (by have := HRT.out.2; omega) (by omega)
      obtain ⟨I, hI⟩ : ∃ I, (lookF f c).1 = I := ⟨_, rfl⟩
      obtain ⟨U, hU⟩ : ∃ U, (lookF f c).2 = U := ⟨_, rfl⟩
      have hso := HSO.out
      rw [hI, hU] at hlk hso
      have HLK := Lib.hid hlk
      have HSO2 := Lib.hid hso
      clear hl4 hk4 hlk hI hU hso HADD HSO HL3 HIN
      go_wp2_with fail
      refine HLK.out.mono ?_
      rintro e w5 ⟨rfl, hb5⟩
      have HL5 := Lib.hid (HL4.out.below hb5)
      have HALW := Lib.hid (always_any _ c w5 (HU4.out.below hb5) (by have := HRT.out.2; omega))
      clear hb5 HLK HL4 HIN4 HU4 HUU
      rcases HSO2.out with ⟨ha, rfl⟩ | ⟨ha, rfl, rfl, _⟩ | ⟨ha, rfl, rfl, hv, _⟩ | ⟨ha, rfl, hi, _⟩
      · rw [ha] at HALW
        clear HSO2
        go_wp2_with fail
        refine HALW.out.mono ?_
        rintro e w6 ⟨rfl, hb6⟩
        have HL6 := Lib.hid (HL5.out.below hb6)
        clear hb6 HALW HL5
        cases fl with
        | true =>
          go_wp2_with fail
          go_roundw
          case rel => exact ⟨k + 1, true, lab4, _, its', _, by omega, by go_num, rfl, HL6, Lib.hid (by have := HBG'.out; simpa using this)⟩
          case measure => simp [intOf]; omega
        | false =>
          go_wp2_with fail
          go_roundw
          case rel => exact ⟨k + 1, _, lab4, _, its', _, by omega, by go_num, rfl, HL6, Lib.hid (by have := HBG'.out; simpa using this)⟩
          case measure => simp [intOf]; omega
      · rw [ha] at HALW
        clear HSO2
        go_wp2_with fail
        refine HALW.out.mono ?_
        rintro e w6 ⟨rfl, hb6⟩
        have HL6 := Lib.hid (HL5.out.below hb6)
        clear hb6 HALW HL5
        cases fl with
        | true =>
          go_wp2_with fail
          go_roundw
          case rel => exact ⟨k + 1, true, lab4, _, its', _, by omega, by go_num, rfl, HL6, Lib.hid (by have := HBG'.out; simpa using this)⟩
          case measure => simp [intOf]; omega
        | false =>
          go_wp2_with fail
          go_roundw
          case rel => exact ⟨k + 1, _, lab4, _, its', _, by omega, by go_num, rfl, HL6, Lib.hid (by have := HBG'.out; simpa using this)⟩
          case measure => simp [intOf]; omega
      · rw [ha] at HALW
        clear HSO2
        go_wp2_with fail
        refine HALW.out.mono ?_
        rintro e w6 ⟨rfl, hb6⟩
        have HL6 := Lib.hid (HL5.out.below hb6)
        clear hb6 HALW HL5
        have hva := tr_value t T' U w6 HL6.out.sys.tr
        rw [hv] at hva
        have HVA := Lib.hid hva
        clear hva hv
        go_wp2_with fail
        refine HVA.out.mono ?_
        rintro e w7 ⟨rfl, hb7⟩
        have HL7 := Lib.hid (HL6.out.below hb7)
        clear hb7 HVA HL6
        cases fl with
        | true =>
          go_wp2_with fail
          go_roundw
          case rel => exact ⟨k + 1, true, lab4, _, its', _, by omega, by go_num, rfl, HL7, Lib.hid (by have := HBG'.out; simpa using this)⟩
          case measure => simp [intOf]; omega
        | false =>
          go_wp2_with fail
          go_roundw
          case rel => exact ⟨k + 1, _, lab4, _, its', _, by omega, by go_num, rfl, HL7, Lib.hid (by have := HBG'.out; simpa using this)⟩
          case measure => simp [intOf]; omega
      · rw [ha] at HALW
        have q3 : ((I : Int) == 3) = false := by simp; omega
        have q2 : ((I : Int) == 2) = false := by simp; omega
        clear hi
        clear HSO2
        go_wp2_with fail
        refine HALW.out.mono ?_
        rintro e w6 ⟨rfl, hb6⟩
        have HL6 := Lib.hid (HL5.out.below hb6)
        clear hb6 HALW HL5
        cases fl with
        | true =>
          go_wp2_with fail
          go_roundw
          case rel => exact ⟨k + 1, true, lab4, _, its', _, by omega, by go_num, rfl, HL6, Lib.hid (by have := HBG'.out; simpa using this)⟩
          case measure => simp [intOf]; omega
        | false =>
          go_wp2_with fail
          go_roundw
          case rel => exact ⟨k + 1, _, lab4, _, its', _, by omega, by go_num, rfl, HL6, Lib.hid (by have := HBG'.out; simpa using this)⟩
          case measure => simp [intOf]; omega
    · obtain rfl : k = cs.length := by omega
      cases fl with
      | true =>
        have HFIN := Lib.hid (show Started cs w wr labr b a t T its S true from ⟨by rw [HA.out]; exact HL.out, HG.out.st, HG.out.all, HG.out.now, (fun h => by cases h), HG.out.bad⟩)
        clear HG HL hlt
        go_wp2_with fail
        refine bodyPost_ret (v := .tuple #[.pointer (some ⟨b, 0, none⟩), .pointer (some ⟨a, 0, none⟩), .pointer (some ⟨t, 0, none⟩), .bool true, .bool true]) (by simp [results, Tryz.results13, go_sem]) rfl ?_
        exact ⟨b, a, t, labr, T, its, S, true, rfl, HFIN.out⟩
      | false =>
        obtain ⟨its', hst', hpre, hnow, hkn, hres⟩ := HG.out.st.prop (A := A) h6.fit (by rw [← HA.out]; exact HG.out.st.find h6)
        have hpr := lw_prop HL.out HG.out.st.inv.link ⟨_, HG.out.st.sim⟩ (by rw [HG.out.st.vars]; decide)
        obtain ⟨r, hr⟩ : ∃ r, (propW A T S).2.2 = r := ⟨_, rfl⟩
        rw [hr] at hpr hres
        obtain ⟨rs, hrs⟩ : ∃ rs, r.isSome = rs := ⟨_, rfl⟩
        obtain ⟨rg, hrg⟩ : ∃ rg, r.getD 0 = rg := ⟨_, rfl⟩
        rw [hrs, hrg] at hpr
        obtain ⟨T', hT'⟩ : ∃ T', (propW A T S).1 = T' := ⟨_, rfl⟩
        obtain ⟨S', hS'⟩ : ∃ S', (propW A T S).2.1 = S' := ⟨_, rfl⟩
        rw [hT', hS'] at hpr hst'
        rw [hT'] at hnow
        rw [hS'] at hkn hres
        have HPR := Lib.hid hpr
        have HFI := Lib.hid (show ∀ W lab', Lw w W lab' b a t A T' S' → Started cs w W lab' b a t T' its' S' rs from fun W lab' hl => by
          refine ⟨by rw [HA.out]; exact hl, hst', fun j => (hkn j).trans (HG.out.all j), hnow.trans HG.out.now, fun h => ?_, fun h => ?_⟩
          · rcases hres with ⟨h1, h2⟩ | ⟨id, c, h1, _⟩
            · exact ⟨hst', fun j => (hkn j).trans (HG.out.all j), HG.out.ones.pre hpre, h2⟩
            · rw [← hrs, h1] at h; cases h
          · rcases hres with ⟨h1, _⟩ | ⟨id, c, h1, h2, h3⟩
            · rw [← hrs, h1] at h; cases h
            · obtain ⟨n, _, hn, _⟩ := clsC_some h2
              exact ⟨c, List.mem_of_getElem? hn, h3⟩)
        clear hst' hpre hnow hkn hres hpr hr hrs hrg hT' hS' HG hlt
        go_wp2_with fail
        refine HPR.out.mono ?_
        rintro e w3 ⟨rfl, lab3, hl3, _⟩
        have HFIN := Lib.hid (HFI.out w3 lab3 hl3)
        clear hl3 HPR HFI HL
        go_wp2_with fail
        refine bodyPost_ret (v := .tuple #[.pointer (some ⟨b, 0, none⟩), .pointer (some ⟨a, 0, none⟩), .pointer (some ⟨t, 0, none⟩), .bool rs, .bool true]) (by simp [results, Tryz.results13, go_sem]) rfl ?_
        exact ⟨b, a, t, lab3, T', its', S', rs, rfl, HFIN.out⟩
end Go.Proofs.YtobcnejecogfoaaGreat
