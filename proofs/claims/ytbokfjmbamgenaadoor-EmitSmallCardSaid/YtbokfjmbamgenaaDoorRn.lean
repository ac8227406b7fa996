/- salvorlaw17.EmitPlays: the walk. -/
import Derived.Test.YtbokfjmbamgenaaDoorRm
namespace Go.Proofs.YtbokfjmbamgenaaDoor
open Go.RowKit

def Call17.long (a : Call17) : Bool := decide (10 < a.lits.length) || decide (20 < a.ids.length)
set_option maxHeartbeats 1000000 in
theorem act_long (a : Call17) (Al Ai : Option Addr) (cl ci : Nat) (w : World) (h1 : a.lits.length ≤ 9223372036854775807) (h2 : a.ids.length ≤ 9223372036854775807) :
    Calls Tryd.prog 7 #[.agg #[.bool a.forget, .slice Al a.lits.length cl, .slice Ai a.ids.length ci]] w fun e w' => e = .returned (.bool a.long) ∧ Below w.heap.size w w' := by
  obtain ⟨fg, lits, ids⟩ := a
  simp only [] at h1 h2
  unfold Call17.long
  simp only []
  obtain ⟨wb, hwb⟩ : ∃ x, w.alloc (.cells #[.bool fg, .slice Al lits.length cl, .slice Ai ids.length ci] 28) = x := ⟨_, rfl⟩
  have hB : Below w.heap.size w wb := by rw [← hwb]; exact below_al _ _
  have c1 : wb.cell? ⟨w.heap.size, 1, none⟩ = some (.slice Al lits.length cl) := by rw [← hwb]; exact cell_new _ _ _ _
  have c2 : wb.cell? ⟨w.heap.size, 2, none⟩ = some (.slice Ai ids.length ci) := by rw [← hwb]; exact cell_new _ _ _ _
  have HWB := Lib.hid hwb
  have HB := Lib.hid hB
  clear hwb hB
  by_cases q1 : 10 < lits.length
  · have d1 : decide ((10 : Int) < (lits.length : Int)) = true := by simp; omega
    have e1 : decide (10 < lits.length) = true := by simpa using q1
    go_enter Tryd.func7, Tryd.ntmps7
    go_wp2_with fail
    try rw [HWB.out]
    try go_wp2_with fail
    go_ret
    exact ⟨ret_bool (by rw [e1]; rfl), HB.out⟩
  · have d1 : decide ((10 : Int) < (lits.length : Int)) = false := by simp; omega
    have e1 : decide (10 < lits.length) = false := by simpa using q1
    rcases hd : decide (20 < ids.length) with _ | _
    · have d2 : decide ((20 : Int) < (ids.length : Int)) = false := by simp at hd; simp; omega
      have HD := Lib.hid hd
      clear hd
      go_enter Tryd.func7, Tryd.ntmps7
      go_wp2_with fail
      try rw [HWB.out]
      try go_wp2_with fail
      go_ret
      exact ⟨ret_bool (by rw [e1]; rfl), HB.out⟩
    · have d2 : decide ((20 : Int) < (ids.length : Int)) = true := by simp at hd; simp; omega
      have HD := Lib.hid hd
      clear hd
      go_enter Tryd.func7, Tryd.ntmps7
      go_wp2_with fail
      try rw [HWB.out]
      try go_wp2_with fail
      go_ret
      exact ⟨ret_bool (by rw [e1]; rfl), HB.out⟩
set_option maxHeartbeats 1000000 in
theorem idx_acts (v : Value) (al : List Call17) (w : World) (ha : ActsAt w v al) (hml : al.length ≤ 9223372036854775807) :
    Calls Tryd.prog 24 #[v, .func (.func 7) #[] #[]] w fun e w' => ∃ r : Int, e = .returned (.int .i64 r) ∧ decide (0 ≤ r) = al.any Call17.long ∧ Below w.heap.size w w' := by
  obtain ⟨A, c, rfl, hc, _, hx⟩ := ha
  have HX := Lib.hid hx
  clear hx
  go_enter Tryd.func24, Tryd.ntmps24
  go_wp2_with fail
  go_loopw [8] (fun i wr => ∃ k : Nat, k ≤ al.length ∧ i = .int .i64 k ∧ Hid (Below w.heap.size w wr) ∧ Hid (∀ j a, j < k → al[j]? = some a → a.long = false)) (fun i _ => al.length - (intOf i).toNat)
  case atStart => exact ⟨0, Nat.zero_le _, rfl, Lib.hid (Below.refl _ _), Lib.hid (fun j a hj => by omega)⟩
  case round =>
    obtain ⟨k, hk, rfl, HW, HE⟩ := hrel
    by_cases hlt : k < al.length
    · obtain ⟨a, hak⟩ := getElem_of hlt
      obtain ⟨g, o, lv, iv, rfl, hg, e0, e1, e2, hlv, hiv⟩ := HX.out k a hak
      have d0 := (HW.out.cell (p := ⟨g, o + k * 3, none⟩) hg).trans e0
      have d1 := (HW.out.cell (p := ⟨g, o + k * 3 + 1, none⟩) hg).trans e1
      have d2 := (HW.out.cell (p := ⟨g, o + k * 3 + 2, none⟩) hg).trans e2
      obtain ⟨Al, cl, rfl, h1, m1, _⟩ := hlv
      obtain ⟨Ai, ci, rfl, h2, m2, _⟩ := hiv
      have HAK := Lib.hid hak
      have HLG := Lib.hid (act_long a Al Ai cl ci wr (by unfold maxLen at m1; omega) (by unfold maxLen at m2; omega))
      obtain ⟨bx, hbx⟩ : ∃ bx, a.long = bx := ⟨_, rfl⟩
      rw [hbx] at HLG
      have HBX := Lib.hid hbx
      clear e0 e1 e2 hak hbx
      go_wp2_with fail
      refine HLG.out.mono ?_
      rintro e w1 ⟨rfl, hb1⟩
      have HB1 := Lib.hid (HW.out.trans (hb1.mono HW.out.size))
      clear d0 d1 d2 hb1 HLG
      rcases bx with _ | _
      · go_wp2_with fail
        go_roundw
        case rel => exact ⟨k + 1, by omega, by go_num, HB1, Lib.hid (fun j b hj hb => by
          rcases Nat.lt_or_ge j k with h | h
          · exact HE.out j b h hb
          · obtain rfl : j = k := by omega
            rw [HAK.out] at hb
            obtain rfl := Option.some.inj hb
            exact HBX.out)⟩
        case measure => simp [intOf]; omega
      · go_wp2_with fail
        go_ret
        refine ⟨k, rfl, ?_, HB1.out⟩
        rw [List.any_eq_true.2 ⟨a, List.mem_of_getElem? HAK.out, HBX.out⟩]
        simp
    · obtain rfl : k = al.length := by omega
      go_wp2_with fail
      go_ret
      refine ⟨-1, rfl, ?_, HW.out⟩
      have hn : al.any Call17.long = false := by
        cases h : al.any Call17.long with
        | false => rfl
        | true =>
          obtain ⟨a, ham, hal⟩ := List.any_eq_true.1 h
          obtain ⟨j, hj⟩ := List.getElem?_of_mem ham
          rw [HE.out j a (List.getElem?_eq_some_iff.1 hj).1 hj] at hal
          cases hal
      rw [hn]
      decide
theorem contains_acts (v : Value) (al : List Call17) (w : World) (ha : ActsAt w v al) (hml : al.length ≤ 9223372036854775807) :
    Calls Tryd.prog 6 #[v, .func (.func 7) #[] #[]] w fun e w' => e = .returned (.bool (al.any Call17.long)) ∧ Below w.heap.size w w' := by
  have HI := Lib.hid (idx_acts v al w ha hml)
  obtain ⟨A, c, rfl, hc, _, _⟩ := ha
  go_enter Tryd.func6, Tryd.ntmps6
  go_wp2_with fail
  refine HI.out.mono ?_
  rintro e w1 ⟨r, rfl, hr, hb1⟩
  have HB1 := Lib.hid hb1
  clear HI hb1
  go_wp2_with fail
  go_ret
  exact ⟨rfl, HB1.out⟩
set_option maxRecDepth 100000 in
set_option maxHeartbeats 1000000 in
theorem plays_bad (f : Int) (A : Option Addr) (n c : Nat) (w : World) (h : f < 0 ∨ 1048576 < f) :
    Calls Tryd.prog 9 #[.int .i64 f, .slice A n c] w fun e w' => e = .returned (.bool true) ∧ Below w.heap.size w w' := by
  have HN := Lib.hid (new_bad f w h)
  rcases h with h | h
  · have q1 : decide (f < 0) = true := by simpa using h
    go_enter Tryd.func9, Tryd.ntmps9
    go_wp2_with fail
    refine HN.out.mono ?_
    rintro e w1 ⟨rfl, rfl⟩
    go_wp2_with fail
    go_ret
    exact ⟨rfl, Below.refl _ _⟩
  · have q1 : decide (f < 0) = false := by simp; omega
    have q2 : decide ((1048576 : Int) < f) = true := by simpa using h
    go_enter Tryd.func9, Tryd.ntmps9
    go_wp2_with fail
    refine HN.out.mono ?_
    rintro e w1 ⟨rfl, rfl⟩
    go_wp2_with fail
    go_ret
    exact ⟨rfl, Below.refl _ _⟩
set_option maxHeartbeats 2000000 in
theorem emitPlays_any (f : Int) (v : Value) (al : List Call17) (w : World) (ht : TabW w) (ha : ActsAt w v al) (hml : al.length ≤ 9223372036854775807) :
    Calls Tryd.prog 3 #[.int .i64 f, v] w fun e w' => e = .returned (.bool true) ∧ Below w.heap.size w w' := by
  have HCO := Lib.hid (contains_acts v al w ha hml)
  have HT := Lib.hid ht
  have HA := Lib.hid ha
  obtain ⟨A, c, rfl, hc, _, _⟩ := ha
  clear ht
  by_cases h40 : 40 < f
  · have q1 : decide ((40 : Int) < f) = true := by simpa using h40
    by_cases hmx : f ≤ 1048576
    · have q2 : decide (f ≤ (1048576 : Int)) = true := by simpa using hmx
      go_enter Tryd.func3, Tryd.ntmps3
      go_wp2_with fail
      refine (awake_any w (HT.out)).mono ?_
      rintro e wz ⟨rfl, hbz⟩
      have HBZ := Lib.hid hbz
      clear hbz
      go_wp2_with fail
      go_ret
      exact ⟨rfl, HBZ.out⟩
    · have q2 : decide (f ≤ (1048576 : Int)) = false := by simpa using hmx
      have hbad : f < 0 ∨ 1048576 < f := .inr (by omega)
      go_enter Tryd.func3, Tryd.ntmps3
      by_cases hlen : 30 < al.length
      · have ql : decide ((30 : Int) < (al.length : Int)) = true := by simp; omega
        go_wp2_with fail
        refine (awake_any w (HT.out)).mono ?_
        rintro e wz ⟨rfl, hbz⟩
        have HBZ := Lib.hid hbz
        clear hbz
        go_wp2_with fail
        go_ret
        exact ⟨rfl, HBZ.out⟩
      · have ql : decide ((30 : Int) < (al.length : Int)) = false := by simp; omega
        rcases hlg : al.any Call17.long with _ | _
        · rw [hlg] at HCO
          have hfit : ∀ a ∈ al, a.Fits := fun a ha => by
            have h1 : a.long = false := by
              cases h2 : a.long with
              | false => rfl
              | true =>
                rw [List.any_eq_true.2 ⟨a, ha, h2⟩] at hlg
                cases hlg
            unfold Call17.long at h1
            simp only [Bool.or_eq_false_iff, decide_eq_false_iff_not] at h1
            exact ⟨by omega, by omega⟩
          have HFT := Lib.hid hfit
          clear hlg hfit
          go_wp2_with fail
          refine HCO.out.mono ?_
          rintro e w1 ⟨rfl, hb1⟩
          have HB1 := Lib.hid hb1
          have HT1 := Lib.hid (HT.out.next hb1)
          have HA1 := Lib.hid (HA.out.below hb1)
          clear HCO hb1
          go_wp2_with fail
          refine (plays_bad f A al.length c w1 hbad).mono ?_
          rintro e w2 ⟨rfl, hb2⟩
          have HB2 := Lib.hid (HB1.out.trans (hb2.mono HB1.out.size))
          have HT2 := Lib.hid (HT1.out.next hb2)
          clear hb2
          go_wp2_with fail
          refine (awake_any w2 HT2.out).mono ?_
          rintro e wz ⟨rfl, hbz⟩
          have HBZ := Lib.hid hbz
          clear hbz
          go_wp2_with fail
          go_ret
          exact ⟨rfl, HB2.out.trans (HBZ.out.mono HB2.out.size)⟩
        · rw [hlg] at HCO
          clear hlg
          go_wp2_with fail
          refine HCO.out.mono ?_
          rintro e w1 ⟨rfl, hb1⟩
          have HB1 := Lib.hid hb1
          have HT1 := Lib.hid (HT.out.next hb1)
          clear HCO hb1
          go_wp2_with fail
          refine (awake_any w1 (HT1.out)).mono ?_
          rintro e wz ⟨rfl, hbz⟩
          have HBZ := Lib.hid hbz
          clear hbz
          go_wp2_with fail
          go_ret
          exact ⟨rfl, HB1.out.trans (HBZ.out.mono HB1.out.size)⟩
  · have q1 : decide ((40 : Int) < f) = false := by simpa using h40
    by_cases hneg : f < 0
    · have hbad : f < 0 ∨ 1048576 < f := .inl hneg
      go_enter Tryd.func3, Tryd.ntmps3
      by_cases hlen : 30 < al.length
      · have ql : decide ((30 : Int) < (al.length : Int)) = true := by simp; omega
        go_wp2_with fail
        refine (awake_any w (HT.out)).mono ?_
        rintro e wz ⟨rfl, hbz⟩
        have HBZ := Lib.hid hbz
        clear hbz
        go_wp2_with fail
        go_ret
        exact ⟨rfl, HBZ.out⟩
      · have ql : decide ((30 : Int) < (al.length : Int)) = false := by simp; omega
        rcases hlg : al.any Call17.long with _ | _
        · rw [hlg] at HCO
          have hfit : ∀ a ∈ al, a.Fits := fun a ha => by
            have h1 : a.long = false := by
              cases h2 : a.long with
              | false => rfl
              | true =>
                rw [List.any_eq_true.2 ⟨a, ha, h2⟩] at hlg
                cases hlg
            unfold Call17.long at h1
            simp only [Bool.or_eq_false_iff, decide_eq_false_iff_not] at h1
            exact ⟨by omega, by omega⟩
          have HFT := Lib.hid hfit
          clear hlg hfit
          go_wp2_with fail
          refine HCO.out.mono ?_
          rintro e w1 ⟨rfl, hb1⟩
          have HB1 := Lib.hid hb1
          have HT1 := Lib.hid (HT.out.next hb1)
          have HA1 := Lib.hid (HA.out.below hb1)
          clear HCO hb1
          go_wp2_with fail
          refine (plays_bad f A al.length c w1 hbad).mono ?_
          rintro e w2 ⟨rfl, hb2⟩
          have HB2 := Lib.hid (HB1.out.trans (hb2.mono HB1.out.size))
          have HT2 := Lib.hid (HT1.out.next hb2)
          clear hb2
          go_wp2_with fail
          refine (awake_any w2 HT2.out).mono ?_
          rintro e wz ⟨rfl, hbz⟩
          have HBZ := Lib.hid hbz
          clear hbz
          go_wp2_with fail
          go_ret
          exact ⟨rfl, HB2.out.trans (HBZ.out.mono HB2.out.size)⟩
        · rw [hlg] at HCO
          clear hlg
          go_wp2_with fail
          refine HCO.out.mono ?_
          rintro e w1 ⟨rfl, hb1⟩
          have HB1 := Lib.hid hb1
          have HT1 := Lib.hid (HT.out.next hb1)
          clear HCO hb1
          go_wp2_with fail
          refine (awake_any w1 (HT1.out)).mono ?_
          rintro e wz ⟨rfl, hbz⟩
          have HBZ := Lib.hid hbz
          clear hbz
          go_wp2_with fail
          go_ret
          exact ⟨rfl, HB1.out.trans (HBZ.out.mono HB1.out.size)⟩
    · obtain ⟨n, rfl⟩ : ∃ n : Nat, f = (n : Int) := ⟨f.toNat, by omega⟩
      have hn40 : n ≤ 40 := by omega
      clear hneg h40
      go_enter Tryd.func3, Tryd.ntmps3
      by_cases hlen : 30 < al.length
      · have ql : decide ((30 : Int) < (al.length : Int)) = true := by simp; omega
        go_wp2_with fail
        refine (awake_any w (HT.out)).mono ?_
        rintro e wz ⟨rfl, hbz⟩
        have HBZ := Lib.hid hbz
        clear hbz
        go_wp2_with fail
        go_ret
        exact ⟨rfl, HBZ.out⟩
      · have ql : decide ((30 : Int) < (al.length : Int)) = false := by simp; omega
        rcases hlg : al.any Call17.long with _ | _
        · rw [hlg] at HCO
          have hfit : ∀ a ∈ al, a.Fits := fun a ha => by
            have h1 : a.long = false := by
              cases h2 : a.long with
              | false => rfl
              | true =>
                rw [List.any_eq_true.2 ⟨a, ha, h2⟩] at hlg
                cases hlg
            unfold Call17.long at h1
            simp only [Bool.or_eq_false_iff, decide_eq_false_iff_not] at h1
            exact ⟨by omega, by omega⟩
          have HFT := Lib.hid hfit
          clear hlg hfit
          go_wp2_with fail
          refine HCO.out.mono ?_
          rintro e w1 ⟨rfl, hb1⟩
          have HB1 := Lib.hid hb1
          have HT1 := Lib.hid (HT.out.next hb1)
          have HA1 := Lib.hid (HA.out.below hb1)
          clear HCO hb1
          go_wp2_with fail
          refine (plays_any n _ al w1 HT1.out (by omega) HA1.out (by omega) HFT.out).mono ?_
          rintro e w2 ⟨rfl, hb2⟩
          have HB2 := Lib.hid (HB1.out.trans (hb2.mono HB1.out.size))
          have HT2 := Lib.hid (HT1.out.next hb2)
          clear hb2
          go_wp2_with fail
          refine (awake_any w2 HT2.out).mono ?_
          rintro e wz ⟨rfl, hbz⟩
          have HBZ := Lib.hid hbz
          clear hbz
          go_wp2_with fail
          go_ret
          exact ⟨rfl, HB2.out.trans (HBZ.out.mono HB2.out.size)⟩
        · rw [hlg] at HCO
          clear hlg
          go_wp2_with fail
          refine HCO.out.mono ?_
          rintro e w1 ⟨rfl, hb1⟩
          have HB1 := Lib.hid hb1
          have HT1 := Lib.hid (HT.out.next hb1)
          clear HCO hb1
          go_wp2_with fail
          refine (awake_any w1 (HT1.out)).mono ?_
          rintro e wz ⟨rfl, hbz⟩
          have HBZ := Lib.hid hbz
          clear hbz
          go_wp2_with fail
          go_ret
          exact ⟨rfl, HB1.out.trans (HBZ.out.mono HB1.out.size)⟩
end Go.Proofs.YtbokfjmbamgenaaDoor
