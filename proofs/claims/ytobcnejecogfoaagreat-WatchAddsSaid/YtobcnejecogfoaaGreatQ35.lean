/- package salvorlaw13: awake. package salvorlaw13: WatchAdds. -/
import Derived.Test.YtobcnejecogfoaaGreatQ34
import Derived.Test.YtobcnejecogfoaaGreatQ15
namespace Go.Proofs.YtobcnejecogfoaaGreat
open Go.RowKit

theorem info_u8 : (Tryz.prog.info? 5).map (fun i => (i.zero, i.size, i.bytes)) = some (some (.int .u8 0), 1, 1) := by kernel_rfl
theorem Lw.lt0 {w0 w : World} {lab : Nat → Nat} {b ab tb : Nat} {A : Arn} {T : Trl} {S : Wst} (h : Lw w0 w lab b ab tb A T S) {g : Nat} (hg : w.heap.size ≤ g) : lab g = 0 := Classical.byContradiction fun e => by
  have := h.sys.lt g e
  omega
/-- a fresh row -/
theorem Lw.ints {w0 w w' : World} {lab : Nat → Nat} {b ab tb : Nat} {A : Arn} {T : Trl} {S : Wst} (h : Lw w0 w lab b ab tb A T S) {e : TypeId} {v : Value} {xs : List Int} (hr : w'.ownsRow w.heap.size e 1 v xs.length (xs.map (Value.int .i64))) : IntsIn (Fr w' lab) w' v xs := own_fr h.sys.lt hr
theorem Lw.al {w0 w : World} {lab : Nat → Nat} {b ab tb : Nat} {A : Arn} {T : Trl} {S : Wst} (h : Lw w0 w lab b ab tb A T S) (o : Obj) : Lw w0 (w.alloc o) lab b ab tb A T S := h.below (mx_al _ _)
theorem Lw.dr {w0 w : World} {lab : Nat → Nat} {b ab tb : Nat} {A : Arn} {T : Trl} {S : Wst} (h : Lw w0 w lab b ab tb A T S) (n : Nat) : Lw w0 (w.drewN n) lab b ab tb A T S := h.below (mx_drewN _ _)
theorem k_in {w : World} {n : Nat} {xs : List Int} {t : TypeId} {W : World} (hs : W.heap.size = n) (hb : Below (n + 1) (W.alloc (.cells (xs.map (Value.int .i64)).toArray t)) w) : IntsIn (fun g => g < w.heap.size) w (.slice (some ⟨n, 0, none⟩) xs.length xs.length) xs := by
  subst hs
  have hb' : Below (W.alloc (.cells (xs.map (Value.int .i64)).toArray t)).heap.size (W.alloc (.cells (xs.map (Value.int .i64)).toArray t)) w := by simpa using hb
  refine ((mx_ints W xs t).below hb').mono (fun g hg => ?_)
  have := hb.size
  simp at this
  omega
set_option maxRecDepth 100000 in
theorem x13_cls (w : World) : ∃ W6, ((((w.alloc (.cells #[.int .i64 1, .int .i64 2, .int .i64 3] 39)).alloc (.cells #[.int .i64 (-1), .int .i64 4] 39)).alloc (.cells #[.int .i64 (-4), .int .i64 (-2), .int .i64 (-2)] 39)).alloc (.cells #[.int .i64 5] 39)).alloc (.cells #[.slice (some ⟨w.heap.size, 0, none⟩) 3 3, .slice (some ⟨w.heap.size + 1, 0, none⟩) 2 2, .slice (some ⟨w.heap.size + 1 + 1, 0, none⟩) 3 3, .slice (some ⟨w.heap.size + 1 + 1 + 1, 0, none⟩) 1 1] 41) = W6 ∧ Below w.heap.size w W6 ∧ ClsAt W6 (.slice (some ⟨w.heap.size + 1 + 1 + 1 + 1, 0, none⟩) 4 4) x13L := by
  refine ⟨_, rfl, (((((mx_al _ _).alloc (by simp) _).alloc (by simp; omega) _).alloc (by simp; omega) _).alloc (by simp; omega) _), ?_⟩
  have key := cls_new ((((w.alloc (.cells #[.int .i64 1, .int .i64 2, .int .i64 3] 39)).alloc (.cells #[.int .i64 (-1), .int .i64 4] 39)).alloc (.cells #[.int .i64 (-4), .int .i64 (-2), .int .i64 (-2)] 39)).alloc (.cells #[.int .i64 5] 39)) [.slice (some ⟨w.heap.size, 0, none⟩) 3 3, .slice (some ⟨w.heap.size + 1, 0, none⟩) 2 2, .slice (some ⟨w.heap.size + 1 + 1, 0, none⟩) 3 3, .slice (some ⟨w.heap.size + 1 + 1 + 1, 0, none⟩) 1 1] x13L 41 (fun i xs hi => by
    match i, hi with
    | 0, hi =>
      obtain rfl := Option.some.inj hi
      exact ⟨_, rfl, k_in (xs := [1, 2, 3]) (W := w) rfl ((((mx_al _ _).mono (by simp)).alloc (by simp) _).alloc (by simp) _)⟩
    | 1, hi =>
      obtain rfl := Option.some.inj hi
      exact ⟨_, rfl, k_in (xs := [-1, 4]) (W := (w.alloc (.cells #[.int .i64 1, .int .i64 2, .int .i64 3] 39))) (by simp) (((mx_al _ _).mono (by simp)).alloc (by simp) _)⟩
    | 2, hi =>
      obtain rfl := Option.some.inj hi
      exact ⟨_, rfl, k_in (xs := [-4, -2, -2]) (W := ((w.alloc (.cells #[.int .i64 1, .int .i64 2, .int .i64 3] 39)).alloc (.cells #[.int .i64 (-1), .int .i64 4] 39))) (by simp) ((mx_al _ _).mono (by simp))⟩
    | 3, hi =>
      obtain rfl := Option.some.inj hi
      exact ⟨_, rfl, k_in (xs := [5]) (W := (((w.alloc (.cells #[.int .i64 1, .int .i64 2, .int .i64 3] 39)).alloc (.cells #[.int .i64 (-1), .int .i64 4] 39)).alloc (.cells #[.int .i64 (-4), .int .i64 (-2), .int .i64 (-2)] 39))) (by simp) (Below.refl _ _)⟩
    | n + 4, hi => exact absurd hi (by simp [x13L]))
  simpa [x13L] using key
set_option maxRecDepth 100000 in
set_option maxHeartbeats 8000000 in
theorem awake13 (w : World) : Calls Tryz.prog 11 #[] w fun e w' => e = .returned (.bool true) ∧ Below w.heap.size w w' := by
  obtain ⟨W6, hW6, hb6, hc6⟩ := x13_cls w
  have HW6 := Lib.hid hW6
  have HB6 := Lib.hid hb6
  have HST := Lib.hid (store_any 5 _ x13L W6 (by decide) hc6 (by decide) (by decide))
  clear hW6 hb6 hc6
  go_enter Tryz.func11, Tryz.ntmps11
  go_wp2_with fail
  rw [HW6.out]
  refine HST.out.mono ?_
  rintro e w1 ⟨a, t, rfl, hp, hb1⟩
  rw [show addAll arn0 0 x13L = x13A from rfl, show trl0 5 = x13T0 from rfl] at hp
  have HNW := Lib.hid (wa_new_at (hp.below (Below.refl _ _)))
  have HB1 := Lib.hid (HB6.out.trans (hb1.mono HB6.out.size))
  have hzz := HB6.out.size
  clear hp hb1 HST HW6
  go_wp2_with fail
  refine HNW.out.mono ?_
  rintro e w2 ⟨b, lab, rfl, hs2, hge, hb2⟩
  have hl2 : Lw w w2 lab b a t x13A x13T0 x13S0 := ⟨hs2, fun g hg => Nat.le_trans hzz (hge g hg), HB1.out.trans (hb2.mono HB1.out.size)⟩
  obtain ⟨WK, hWK⟩ : ∃ x, w2.alloc (.cells #[.int .u8 1, .int .u8 1, .int .u8 1, .int .u8 2] 5) = x := ⟨_, rfl⟩
  have hlk : Lw w WK lab b a t x13A x13T0 x13S0 := by rw [← hWK]; exact hl2.al _
  have hbk : WK.heap[w2.heap.size]? = some (.cells #[.int .u8 1, .int .u8 1, .int .u8 1, .int .u8 2] 5 (0, 0)) := by rw [← hWK]; exact World.alloc_heap_new _ _
  have hlb := hl2.lt0 (Nat.le_refl _)
  have HWK := Lib.hid hWK
  have HLK := Lib.hid hlk
  have HBK := Lib.hid (And.intro hbk hlb)
  clear hs2 hge hb2 hl2 hWK hlk hbk hlb HNW HB1 HB6 hzz
  go_wp2_with fail
  rw [HWK.out]
  obtain ⟨gk, hgk⟩ : ∃ g, w2.heap.size = g := ⟨_, rfl⟩
  rw [hgk] at HBK ⊢
  clear hgk HWK
  go_loopw [47] (fun i wr => ∃ (k : Nat) (labr : Nat → Nat), k ≤ 4 ∧ i = .int .i64 k ∧ Hid (Lw w wr labr b a t x13A (x13R k).1 (x13R k).2) ∧ Hid (wr.heap[gk]? = some (.cells #[.int .u8 1, .int .u8 1, .int .u8 1, .int .u8 2] 5 (0, 0)) ∧ labr gk = 0)) (fun i _ => 4 - (intOf i).toNat)
  case atStart => exact ⟨0, lab, by omega, rfl, HLK, HBK⟩
  case round =>
    obtain ⟨k, labr, hk, rfl, HL, HG⟩ := hrel
    by_cases hlt : k < 4
    · have hcell : wr.cell? ⟨gk, k, none⟩ = some (.int .u8 (x13K k : Nat)) := by
        rw [mx_cell HG.out.1]
        match k, hlt with
        | 0, _ => rfl
        | 1, _ => rfl
        | 2, _ => rfl
        | 3, _ => rfl
        | n + 4, h => exact absurd h (by omega)
      have hgl := heap_lt HG.out.1
      have hidk : ((k : Int) + 1) = ((k + 1 : Nat) : Int) := by omega
      have hAD := lw_add HL.out ((k : Int) + 1) (wf64 (by omega) (by omega)) (fun c hc => ⟨(x13_get k hlt c hc).1, (x13_get k hlt c hc).2, by omega, by omega⟩) (x13_or k hk) (x13_sr k hk)
      rw [x13_r k hlt] at hAD
      obtain ⟨K, hK⟩ : ∃ z : Int, ((x13K k : Nat) : Int) = z := ⟨_, rfl⟩
      simp only [hK] at hAD hcell
      have hKK : (K != K) = false := by simp
      have hwk : IntKind.i64.wrap ((k : Int) + 1) = (k : Int) + 1 := IntWalk.i64_in _ (by omega)
      have HAD := Lib.hid hAD
      clear hAD hK hidk
      go_wp2_with fail
      refine HAD.out.mono ?_
      rintro e w3 ⟨rfl, lab3, hl3, hk3⟩
      have HL3 := Lib.hid hl3
      have HG3 := Lib.hid (And.intro ((hk3.kept.block gk hgl (fun e => e HG.out.2)).trans HG.out.1) ((hk3.same gk hgl).trans HG.out.2))
      clear hl3 hk3 hcell hgl HAD
      go_wp2_with fail
      go_roundw
      case rel => exact ⟨k + 1, lab3, by omega, by go_num, HL3, HG3⟩
      case measure => simp [intOf]; omega
    · obtain rfl : k = 4 := by omega
      have hl := HL.out
      rw [show (x13R 4).1 = x13T4 from rfl, show (x13R 4).2 = x13S4 from rfl] at hl
      have HBY1 := Lib.hid (wa_by b a t x13A x13T4 x13S4 1 _ wr labr hl.sys (by decide) x13_k1)
      have HL4 := Lib.hid hl
      clear hl HG HL hlt
      go_wp2_with fail
      refine HBY1.out.mono ?_
      rintro e w5 ⟨v1, rfl, hr1, hb5⟩
      rw [show ([1, 2, 3] : List Int).filter ([1, 2] : List Int).contains = [1, 2] from rfl] at hr1
      have HX1 := Lib.hid (HL4.out.ints hr1)
      have HL5 := Lib.hid (HL4.out.below hb5)
      have HBY3 := Lib.hid (wa_by b a t x13A x13T4 x13S4 3 _ w5 labr HL5.out.sys (by decide) x13_k3)
      obtain ⟨A1, c1, rfl, _⟩ := mx_slice hr1
      clear hr1 hb5 HBY1 HL4
      go_wp2_with fail
      refine HBY3.out.mono ?_
      rintro e w6 ⟨v3, rfl, hr3, hb6⟩
      rw [show ([-4, -2] : List Int).filter ([-4, -2] : List Int).contains = [-4, -2] from rfl] at hr3
      have HX3 := Lib.hid (HL5.out.ints hr3)
      have HL6 := Lib.hid (HL5.out.below hb6)
      have HX1' := Lib.hid (HX1.out.frb hb6)
      obtain ⟨A3, c3, rfl, _⟩ := mx_slice hr3
      obtain ⟨W7, hW7⟩ : ∃ x, w6.alloc (.cells #[.int .i64 1, .int .i64 2] 39) = x := ⟨_, rfl⟩
      have hb7 : Below w6.heap.size w6 W7 := by rw [← hW7]; exact mx_al _ _
      have hy7 : IntsIn (fun g => g = w6.heap.size) W7 (.slice (some ⟨w6.heap.size, 0, none⟩) 2 2) [1, 2] := by rw [← hW7]; exact mx_ints w6 [1, 2] _
      have HW7 := Lib.hid hW7
      have HEQ1 := Lib.hid (eq_l _ _ [1, 2] [1, 2] W7 (HX1'.out.frb hb7) hy7 (by decide))
      have HL7 := Lib.hid (HL6.out.below hb7)
      have HX3' := Lib.hid (HX3.out.frb hb7)
      clear hr3 hb6 HBY3 HL5 HX1 hW7 hb7 hy7 HX1' HX3 HL6
      go_wp2_with fail
      rw [HW7.out]
      refine HEQ1.out.mono ?_
      rintro e w8 ⟨rfl, n8, hw8⟩
      have hb8 : Below W7.heap.size W7 w8 := by rw [hw8]; exact mx_drewN _ _
      have HL8 := Lib.hid (HL7.out.below hb8)
      have HX8 := Lib.hid (HX3'.out.frb hb8)
      obtain ⟨W9, hW9⟩ : ∃ x, w8.alloc (.cells #[.int .i64 (-4), .int .i64 (-2)] 39) = x := ⟨_, rfl⟩
      have hb9 : Below w8.heap.size w8 W9 := by rw [← hW9]; exact mx_al _ _
      have hy9 : IntsIn (fun g => g = w8.heap.size) W9 (.slice (some ⟨w8.heap.size, 0, none⟩) 2 2) [-4, -2] := by rw [← hW9]; exact mx_ints w8 [-4, -2] _
      have HW9 := Lib.hid hW9
      have HEQ3 := Lib.hid (eq_l _ _ [-4, -2] [-4, -2] W9 (HX8.out.frb hb9) hy9 (by decide))
      have HL9 := Lib.hid (HL8.out.below hb9)
      clear hw8 hb8 hW9 hb9 hy9 HEQ1 HL7 HX3' HX8 HL8 HW7
      rw [show (([1, 2] : List Int) == [1, 2]) = true from rfl]
      go_wp2_with fail
      rw [HW9.out]
      refine HEQ3.out.mono ?_
      rintro e w10 ⟨rfl, n10, hw10⟩
      have hb10 : Below W9.heap.size W9 w10 := by rw [hw10]; exact mx_drewN _ _
      have HL10 := Lib.hid (HL9.out.below hb10)
      have HPU := Lib.hid (lw_push HL10.out x13_o4.1)
      clear hw10 hb10 HEQ3 HL9 HW9
      rw [show (([-4, -2] : List Int) == [-4, -2]) = true from rfl]
      go_wp2_with fail
      refine HPU.out.mono ?_
      rintro e w11 ⟨rfl, l11, hl11, _⟩
      have has := lw_assign hl11 (-2) 0 x13_o4.2
      rw [x13_e5, show x13T4.push.assigned (-2) 0 = x13T5 from rfl] at has
      have HAS := Lib.hid has
      clear hl11 has HPU HL10
      go_wp2_with fail
      refine HAS.out.mono ?_
      rintro e w12 ⟨rfl, l12, hl12, _⟩
      have hpr := lw_prop hl12 x13_s4.2 x13_pt5.sim x13_v5
      rw [x13_p6, show (propW x13A x13T5 x13S4).1 = x13T6 from rfl, show (propW x13A x13T5 x13S4).2.1 = x13S6 from rfl] at hpr
      have HPR := Lib.hid hpr
      clear hl12 hpr HAS
      go_wp2_with fail
      refine HPR.out.mono ?_
      rintro e w13 ⟨rfl, l13, hl13, _⟩
      have HBY := Lib.hid (wa_by b a t x13A x13T6 x13S6 1 _ w13 l13 hl13.sys (by decide) x13_k6)
      have HL13 := Lib.hid hl13
      clear hl13 HPR
      go_wp2_with fail
      refine HBY.out.mono ?_
      rintro e w14 ⟨v1, rfl, hr1, hb14⟩
      rw [show ([1, 2, 3] : List Int).filter ([1, 3] : List Int).contains = [1, 3] from rfl] at hr1
      have HX14 := Lib.hid (HL13.out.ints hr1)
      have HL14 := Lib.hid (HL13.out.below hb14)
      obtain ⟨A1', c1', rfl, _⟩ := mx_slice hr1
      obtain ⟨W15, hW15⟩ : ∃ x, w14.alloc (.cells #[.int .i64 1, .int .i64 3] 39) = x := ⟨_, rfl⟩
      have hb15 : Below w14.heap.size w14 W15 := by rw [← hW15]; exact mx_al _ _
      have hy15 : IntsIn (fun g => g = w14.heap.size) W15 (.slice (some ⟨w14.heap.size, 0, none⟩) 2 2) [1, 3] := by rw [← hW15]; exact mx_ints w14 [1, 3] _
      have HW15 := Lib.hid hW15
      have HEQ := Lib.hid (eq_l _ _ [1, 3] [1, 3] W15 (HX14.out.frb hb15) hy15 (by decide))
      have HL15 := Lib.hid (HL14.out.below hb15)
      clear hr1 hb14 HBY HL13 HX14 HL14 hW15 hb15 hy15
      go_wp2_with fail
      rw [HW15.out]
      refine HEQ.out.mono ?_
      rintro e w16 ⟨rfl, n16, hw16⟩
      have hb16 : Below W15.heap.size W15 w16 := by rw [hw16]; exact mx_drewN _ _
      have HL16 := Lib.hid (HL15.out.below hb16)
      have HPU := Lib.hid (lw_push HL16.out x13_o6.1)
      clear hw16 hb16 HEQ HL15 HW15
      rw [show (([1, 3] : List Int) == [1, 3]) = true from rfl]
      go_wp2_with fail
      refine HPU.out.mono ?_
      rintro e w17 ⟨rfl, l17, hl17, _⟩
      have has := lw_assign hl17 (-3) 0 x13_o6.2
      rw [x13_e7, show x13T6.push.assigned (-3) 0 = x13T7 from rfl] at has
      have HAS := Lib.hid has
      clear hl17 has HPU HL16
      go_wp2_with fail
      refine HAS.out.mono ?_
      rintro e w18 ⟨rfl, l18, hl18, _⟩
      have hpr := lw_prop hl18 x13_s6.2 x13_pt7.sim x13_v7
      rw [x13_p8, show (propW x13A x13T7 x13S6).1 = x13T8 from rfl, show (propW x13A x13T7 x13S6).2.1 = x13S8 from rfl] at hpr
      have HPR := Lib.hid hpr
      clear hl18 hpr HAS
      go_wp2_with fail
      refine HPR.out.mono ?_
      rintro e w19 ⟨rfl, l19, hl19, _⟩
      have hre := tr_reason t x13T8 4 w19 hl19.sys.tr
      rw [x13_w8.1, x13_w8.2.1] at hre
      have HRE := Lib.hid hre
      have HL19 := Lib.hid hl19
      clear hl19 HPR hre
      go_wp2_with fail
      refine HRE.out.mono ?_
      rintro e w20 ⟨rfl, hb20⟩
      have HL20 := Lib.hid (HL19.out.below hb20)
      have hva := tr_value t x13T8 1 w20 HL20.out.sys.tr
      rw [x13_w8.2.2] at hva
      have HVA := Lib.hid hva
      clear hb20 HRE HL19 hva
      go_wp2_with fail
      refine HVA.out.mono ?_
      rintro e w21 ⟨rfl, hb21⟩
      have HL21 := Lib.hid (HL20.out.below hb21)
      have hba := lw_back HL21.out 0 x13_pt8.sta x13_pt8.fit
      rw [x13_b9, show x13T8.backed 0 = x13T9 from rfl, show (⟨x13S8.known, x13S8.of, min x13S8.looked x13T9.order.length⟩ : Wst) = x13S9 from rfl] at hba
      have HBA := Lib.hid hba
      clear hb21 HVA HL20 hba
      go_wp2_with fail
      refine HBA.out.mono ?_
      rintro e w22 ⟨rfl, l22, hl22, _⟩
      have hlo := wa_looked b a t x13A x13T9 x13S9 w22 l22 hl22.sys
      rw [x13_l9] at hlo
      have HLO := Lib.hid hlo
      have HL22 := Lib.hid hl22
      clear hl22 hlo HBA HL21
      go_wp2_with fail
      refine HLO.out.mono ?_
      rintro e w23 ⟨rfl, rfl⟩
      have HPU := Lib.hid (lw_push HL22.out x13_o9.1)
      clear HLO HL22
      go_wp2_with fail
      refine HPU.out.mono ?_
      rintro e w24 ⟨rfl, l24, hl24, _⟩
      have has := lw_assign hl24 2 0 x13_o9.2.1
      rw [x13_e10, show x13T9.push.assigned 2 0 = x13T10 from rfl] at has
      have HAS := Lib.hid has
      clear hl24 has HPU
      go_wp2_with fail
      refine HAS.out.mono ?_
      rintro e w25 ⟨rfl, l25, hl25, _⟩
      have has := lw_assign hl25 4 0 x13_o9.2.2
      rw [x13_e11, show x13T10.assigned 4 0 = x13T11 from rfl] at has
      have HAS2 := Lib.hid has
      clear hl25 has HAS
      go_wp2_with fail
      refine HAS2.out.mono ?_
      rintro e w26 ⟨rfl, l26, hl26, _⟩
      have hpr := lw_prop hl26 x13_s9 x13_pt11.sim x13_v11
      rw [x13_p12, show (propW x13A x13T11 x13S9).1 = x13T12 from rfl, show (propW x13A x13T11 x13S9).2.1 = x13S12 from rfl] at hpr
      have HPR := Lib.hid hpr
      clear hl26 hpr HAS2
      go_wp2_with fail
      refine HPR.out.mono ?_
      rintro e w27 ⟨rfl, l27, hl27, _⟩
      have had := lw_add hl27 1 (by decide) (fun c hc => ⟨(x13_get 0 (by decide) c hc).1, (x13_get 0 (by decide) c hc).2, by decide, by decide⟩) x13_o12 x13_s12
      rw [x13_last] at had
      have HAD := Lib.hid had
      clear hl27 had HPR
      go_wp2_with fail
      refine HAD.out.mono ?_
      rintro e w28 ⟨rfl, l28, hl28, _⟩
      have HL28 := Lib.hid hl28
      clear hl28 HAD
      go_wp2_with fail
      go_ret
      exact ⟨rfl, HL28.out.hb⟩
end Go.Proofs.YtobcnejecogfoaaGreat
namespace Go.Proofs.YtobcnejecogfoaaGreat
open Go.RowKit

/-- an operation under a guard that is on -/
theorem wpList_on {P : Program} {ops : Array Oper} {rest : List Oper} {o : Oper} {a : Act} {w : World} {Q : Exit → Act → World → Prop} (hw : Region.wanted o (yielded ops a.tmps) = true) (h : wpList P ops Q (⟨o.dst, o.op, o.type, o.pos, o.after, none⟩ :: rest) a w) : wpList P ops Q (o :: rest) a w := by
  unfold wpList at h ⊢
  rw [if_pos hw]
  rw [if_pos (by simp [Region.wanted])] at h
  exact h
theorem madeLit_six (x : Int) : litB (madeLit x) = true ∧ litV (madeLit x) < 7 := by
  obtain ⟨h1, h2⟩ := madeLit_rng x
  have hb : litB (madeLit x) = true := (litB_iff _).2 (by omega)
  exact ⟨hb, by have := (litV_pos hb).2; omega⟩
/-- one literal that is made -/
theorem made_one (n : Int) (w : World) (hn : (Lit.int .i8 n).wf = true) :
    Calls Tryz.prog 20 #[.slice (some ⟨w.heap.size, 0, none⟩) 1 1] (w.alloc (.cells #[.int .i8 n] 33)) fun e w' => ∃ g c, e = .returned (.slice (some ⟨g, 0, none⟩) 1 c) ∧ 1 ≤ c ∧ w'.cell? ⟨g, 0, none⟩ = some (.int .i64 (madeLit n)) ∧ Below w.heap.size w w' := by
  have hr : RowAt .i8 (w.alloc (.cells #[.int .i8 n] 33)) (.slice (some ⟨w.heap.size, 0, none⟩) 1 1) [n] := ⟨some ⟨w.heap.size, 0, none⟩, 1, rfl, Nat.le_refl _, by decide, (fun h => by cases h), (fun m hm => by rw [List.mem_singleton.1 hm]; exact hn), fun i x hi => ⟨w.heap.size, 0, rfl, by simp, by
    rw [cell_new, Nat.zero_add]
    match i, hi with
    | 0, hi =>
      obtain rfl : n = x := by simpa using hi
      rfl⟩⟩
  refine (made_any _ [n] _ hr).mono ?_
  rintro e w' ⟨v, rfl, ho, hb⟩
  obtain ⟨g, c, cs, rfl, hc, _, _, hg, hx⟩ := mx_some ho (by simp [madeL])
  refine ⟨g, c, rfl, hc, mx_at ho rfl, (mx_al _ _).trans (hb.mono (by simp))⟩
/-- a literal that is assigned if it has no value -/
def decA (T : Trl) (y : Int) : Trl := if T.val y = 0 then T.assigned y 0 else T
structure FewT (T : Trl) (k : Nat) : Prop where
  sim : ∃ its, Sim T its
  vars : T.vars.length = 7
  starts : T.starts.length ≤ k + 1
theorem FewT.push {T : Trl} {k : Nat} (h : FewT T k) : FewT T.push (k + 1) := by
  obtain ⟨⟨its, h1⟩, h2, h3⟩ := h
  exact ⟨⟨its, h1.pushT⟩, h2, by show (T.starts ++ [(T.order.length : Int)]).length ≤ _; rw [List.length_append]; simp; omega⟩
theorem FewT.assign {T : Trl} {k : Nat} (h : FewT T k) (l : Int) : FewT (T.assigned l 0) k := by
  obtain ⟨⟨its, h1⟩, h2, h3⟩ := h
  refine ⟨?_, (assigned_vars T l 0).trans h2, by rw [assigned_starts]; exact h3⟩
  by_cases he : T.assignErr l 0 = 0
  · exact ⟨_, h1.snoc he⟩
  · have e : T.assigned l 0 = T := by unfold Trl.assigned; rw [if_neg he]
    rw [e]
    exact ⟨its, h1⟩
theorem FewT.few {T : Trl} {k : Nat} (h : FewT T k) : T.order.length ≤ 6 := by
  obtain ⟨⟨its, h1⟩, h2, _⟩ := h
  exact h1.few h2
theorem FewT.mono {T : Trl} {k j : Nat} (h : FewT T k) (hj : k ≤ j) : FewT T j := ⟨h.sim, h.vars, by have := h.starts; omega⟩
theorem val_free {T : Trl} {y : Int} : T.fal y = false → T.tru y = false → T.val y = 0 := fun h1 h2 => by
  unfold Trl.fal at h1
  unfold Trl.tru at h2
  rw [decide_eq_false_iff_not] at h1 h2
  omega
/-- what Add of a clause tells, and what the clause is -/
inductive AddsO (T : Trl) (c : List Int) (K I : Nat) (U : Int) (T' : Trl) : Prop
  | alw (ha : alwL c = true) (hk : K = 4) (ht : T' = T)
  | unit (ha : alwL c = false) (hi : I = 3) (hk : K = 2) (ho : T'.order = T.order ++ [U]) (hs : T'.starts = T.starts) (hl : T'.level (litV U : Nat) = (T.starts.length : Int) - 1) (hr : T'.reason (litV U : Nat) = 1)
  | fails (ha : alwL c = false) (hi : I = 2) (hk : K = 3) (ht : T' = T)
  | rests (ha : alwL c = false) (hi : I ≠ 2 ∧ I ≠ 3) (hk : K = 1) (ht : T' = T)
theorem adds_out {T : Trl} {its : List RIt} {c : List Int} {S : Wst} {f : Int → Int} (hs : Sim T its) (hv : T.vars.length = 7) (hc : ∀ y ∈ c, litB y = true ∧ litV y < 7) (hf : ∀ y, litB y = true → ((0 < ofF f y ↔ Has its y) ∧ (ofF f y < 0 ↔ Has its (-y)))) :
    AddsO T c (addOk T S 1 c).res (lookF f c).1 (lookF f c).2 (addOk T S 1 c).T := by
  cases ha : alwL c with
  | true =>
    have e : addOk T S 1 c = ⟨4, 0, T, S.set 1 ⟨[], eachL c⟩⟩ := by unfold addOk; rw [if_pos ha]
    rw [e]
    exact .alw ha rfl rfl
  | false =>
    rw [addOk_no ha]
    rcases add_kind hs (fun y hy => (hc y hy).1) hf with ⟨h6, h7, _⟩ | ⟨a, h6, h7, ha1, ha2, ha3, ha4, ha5⟩ | ⟨h6, h7, _⟩ | ⟨h6, h7, _⟩
    · rw [h6, h7]
      exact .fails ha rfl rfl (by simp)
    · rw [h6, h7]
      have herr := free_err hv (hc a ha1).1 (hc a ha1).2 (val_free ha2 ha3) (r := 1) ⟨by omega, by omega⟩
      have hsn := hs.snoc herr
      have hp : (its ++ [(⟨a, 1, T.now⟩ : RIt)])[its.length]? = some ⟨a, 1, T.now⟩ := by simp
      refine .unit ha rfl rfl ?_ ?_ ?_ ?_
      · simp only [if_true, ha4]
        unfold Trl.assigned
        rw [if_pos herr]
        rfl
      · simp only [if_true, ha4]
        exact assigned_starts _ _
      · simp only [if_true, ha4]
        exact hsn.level hp
      · simp only [if_true, ha4]
        unfold Trl.reason
        have := hsn.why hp
        simp only at this
        rw [this]
    · rw [h6, h7]
      exact .rests ha (by simp) rfl (by simp)
    · rw [h6, h7]
      exact .rests ha (by simp) rfl (by simp)
end Go.Proofs.YtobcnejecogfoaaGreat
