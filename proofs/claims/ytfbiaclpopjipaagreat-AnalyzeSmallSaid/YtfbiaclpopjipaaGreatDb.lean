/- The references: Var, Place, Value, place, level, has, Find, Used. -/
import Derived.Test.YtfbiaclpopjipaaGreatDa
import Derived.Test.YtfbiaclpopjipaaGreatMk
import Derived.Deep.DeepCutAuto
import Derived.Deep.CutBlock
namespace Go.Proofs.YtfbiaclpopjipaaGreat
open Go.RowKit

theorem ref_var (x : Int) (w : World) : Calls Tryz.prog 54 #[.int .i64 x] w fun e w' => e = .returned (.int .i64 (litV x : Nat)) ∧ w = w' := by
  obtain ⟨b, hb⟩ : ∃ b, litB x = b := ⟨_, rfl⟩
  have HR := ref_right_lit x w
  rw [hb] at HR
  have HR := Lib.hid HR
  cases b with
  | false =>
    have HV := Lib.hid (show litV x = 0 from by unfold litV; rw [if_neg (by rw [hb]; decide)])
    clear hb
    go_enter Tryz.func54, Tryz.ntmps54
    go_wp2_with fail
    refine HR.out.mono ?_
    rintro e w' ⟨rfl, rfl⟩
    go_wp2_with fail
    go_ret
    exact ⟨by rw [HV.out]; rfl, rfl⟩
  | true =>
    have HV := Lib.hid (show litV x = x.natAbs from by unfold litV; rw [if_pos hb])
    have hbb := (litB_iff x).1 hb
    clear hb
    by_cases hx : x < 0
    · have q0 : decide (x < 0) = true := by simpa using hx
      have w1 : IntKind.i64.wrap (-x) = -x := IntWalk.i64_in _ (by omega)
      go_enter Tryz.func54, Tryz.ntmps54
      go_wp2_with fail
      refine HR.out.mono ?_
      rintro e w' ⟨rfl, rfl⟩
      go_wp2_with fail
      go_ret
      exact ⟨by rw [HV.out]; exact congrArg (fun z => Ending.returned (.int .i64 z)) (by omega), rfl⟩
    · have q0 : decide (x < 0) = false := by simpa using hx
      go_enter Tryz.func54, Tryz.ntmps54
      go_wp2_with fail
      refine HR.out.mono ?_
      rintro e w' ⟨rfl, rfl⟩
      go_wp2_with fail
      go_ret
      exact ⟨by rw [HV.out]; exact congrArg (fun z => Ending.returned (.int .i64 z)) (by omega), rfl⟩
theorem drop_at {α : Type} {l : List α} {k : Nat} {x : α} (h : l[k]? = some x) : l.drop k = x :: l.drop (k + 1) := by
  have hlt := (List.getElem?_eq_some_iff.1 h).1
  rw [List.drop_eq_getElem_cons hlt]
  rw [List.getElem?_eq_getElem hlt] at h
  rw [Option.some.inj h]
/-- bounds of a trail of the reference -/
structure RTr.Ok (t : RTr) : Prop where
  len : t.items.length ≤ 1000000
set_option maxRecDepth 100000 in
set_option maxHeartbeats 1000000 in
theorem ref_place (v : Int) (t : RTr) (tv : Value) (w : World) (h : RTAt w tv t) (ho : t.Ok) :
    Calls Tryz.prog 65 #[tv, .int .i64 v] w fun e w' => e = .returned (.int .i64 (rP t.items v)) ∧ Below w.heap.size w w' := by
  have hlen := ho.len
  obtain ⟨iv, sv, rfl, hi, hs⟩ := h
  obtain ⟨wa, hwa⟩ : ∃ z, w.alloc (.cells #[.int .i64 t.vars, .int .i64 t.now, iv, sv] 61) = z := ⟨_, rfl⟩
  have hba : Below w.heap.size w wa := by rw [← hwa]; exact mx_al _ _
  have hbn : wa.heap[w.heap.size]? = some (.cells #[.int .i64 t.vars, .int .i64 t.now, iv, sv] 61 (0, 0)) := by rw [← hwa]; exact World.alloc_heap_new _ _
  have HI := Lib.hid (hi.below hba)
  have HS := Lib.hid (hs.below hba)
  have HBA := Lib.hid hba
  have HBN := Lib.hid hbn
  have HWA := Lib.hid hwa
  obtain ⟨A, c, rfl, _, _, _⟩ := hi
  have c2 : wa.cell? ⟨w.heap.size, 2, none⟩ = some (.slice A t.items.length c) := mx_cell (j := 2) hbn
  clear hba hbn hs hwa
  go_enter Tryz.func65, Tryz.ntmps65
  go_wp2_with fail
  rw [HWA.out]
  go_loop [5] (fun i => ∃ k : Nat, k ≤ t.items.length ∧ i = .int .i64 k ∧ Hid (rP t.items v = rPl (t.items.drop k) v k)) (fun i => t.items.length - (intOf i).toNat)
  case atStart => exact ⟨0, Nat.zero_le _, rfl, Lib.hid rfl⟩
  case round =>
    obtain ⟨k, hk, rfl, HE⟩ := hrel
    by_cases hlt : k < t.items.length
    · obtain ⟨x, hx⟩ := getElem_of hlt
      obtain ⟨g, o, c', hA, _, hg, d0, d1, d2⟩ := HI.out.item hx
      simp only [Value.slice.injEq, true_and] at hA
      obtain ⟨rfl, rfl⟩ := hA
      have hdr := drop_at hx
      clear hx d1 d2
      by_cases hv : 0 < v
      · have q0 : decide (0 < v) = true := by simpa using hv
        by_cases hq : (litV x.lit : Int) = v
        · have q1 : ((litV x.lit : Int) == v) = true := by simpa using hq
          have HN := Lib.hid (show rP t.items v = k from by rw [HE.out, hdr]; exact if_pos ⟨hv, hq⟩)
          clear hq hdr hv
          go_wp2_with fail
          refine (ref_var x.lit wa).mono ?_
          rintro e w' ⟨rfl, rfl⟩
          go_wp2_with fail
          go_ret
          exact ⟨by rw [HN.out]; rfl, HBA.out⟩
        · have q1 : ((litV x.lit : Int) == v) = false := by simpa using hq
          have HN := Lib.hid (show rP t.items v = rPl (t.items.drop (k + 1)) v (k + 1) from by rw [HE.out, hdr]; exact if_neg (fun h => hq h.2))
          clear hq hdr hv
          go_wp2_with fail
          refine (ref_var x.lit wa).mono ?_
          rintro e w' ⟨rfl, rfl⟩
          go_wp2_with fail
          go_round
          case rel => exact ⟨k + 1, by omega, by go_num, HN⟩
          case measure => simp [intOf]; omega
      · have q0 : decide (0 < v) = false := by simpa using hv
        have HN := Lib.hid (show rP t.items v = rPl (t.items.drop (k + 1)) v (k + 1) from by rw [HE.out, hdr]; exact if_neg (fun h => hv h.1))
        clear hdr hv
        go_wp2_with fail
        go_round
        case rel => exact ⟨k + 1, by omega, by go_num, HN⟩
        case measure => simp [intOf]; omega
    · obtain rfl : k = t.items.length := by omega
      have hE := HE.out
      rw [List.drop_length] at hE
      have HN := Lib.hid (show rP t.items v = -1 from hE)
      clear hE
      go_wp2_with fail
      go_ret
      exact ⟨by rw [HN.out]; rfl, HBA.out⟩
set_option maxRecDepth 100000 in
set_option maxHeartbeats 1000000 in
theorem ref_value (y : Int) (t : RTr) (tv : Value) (w : World) (h : RTAt w tv t) (ho : t.Ok) :
    Calls Tryz.prog 55 #[tv, .int .i64 y] w fun e w' => e = .returned (.int .i64 (rVl t.items y)) ∧ Below w.heap.size w w' := by
  have hlen := ho.len
  obtain ⟨iv, sv, rfl, hi, hs⟩ := h
  obtain ⟨wa, hwa⟩ : ∃ z, w.alloc (.cells #[.int .i64 t.vars, .int .i64 t.now, iv, sv] 61) = z := ⟨_, rfl⟩
  have hba : Below w.heap.size w wa := by rw [← hwa]; exact mx_al _ _
  have hbn : wa.heap[w.heap.size]? = some (.cells #[.int .i64 t.vars, .int .i64 t.now, iv, sv] 61 (0, 0)) := by rw [← hwa]; exact World.alloc_heap_new _ _
  have HI := Lib.hid (hi.below hba)
  have HS := Lib.hid (hs.below hba)
  have HBA := Lib.hid hba
  have HBN := Lib.hid hbn
  have HWA := Lib.hid hwa
  obtain ⟨A, c, rfl, _, _, _⟩ := hi
  have c2 : wa.cell? ⟨w.heap.size, 2, none⟩ = some (.slice A t.items.length c) := mx_cell (j := 2) hbn
  clear hba hbn hs hwa
  obtain ⟨b, hb⟩ : ∃ b, litB y = b := ⟨_, rfl⟩
  have HR := fun w => ref_right_lit y w
  rw [hb] at HR
  have HR := Lib.hid HR
  have HY := Lib.hid hb
  go_enter Tryz.func55, Tryz.ntmps55
  go_wp2_with fail
  rw [HWA.out]
  go_loop [5] (fun i => ∃ k : Nat, k ≤ t.items.length ∧ i = .int .i64 k ∧ Hid (rVl t.items y = rVl (t.items.drop k) y)) (fun i => t.items.length - (intOf i).toNat)
  case atStart => exact ⟨0, Nat.zero_le _, rfl, Lib.hid rfl⟩
  case round =>
    obtain ⟨k, hk, rfl, HE⟩ := hrel
    by_cases hlt : k < t.items.length
    · obtain ⟨x, hx⟩ := getElem_of hlt
      obtain ⟨g, o, c', hA, _, hg, d0, d1, d2⟩ := HI.out.item hx
      simp only [Value.slice.injEq, true_and] at hA
      obtain ⟨rfl, rfl⟩ := hA
      have hdr := drop_at hx
      clear hx d1 d2
      cases b with
      | false =>
        have hne : ¬ litB y = true := by rw [HY.out]; decide
        have HN := Lib.hid (show rVl t.items y = rVl (t.items.drop (k + 1)) y from by rw [HE.out, hdr]; exact (if_neg (fun h => hne h.1)).trans (if_neg (fun h => hne h.1)))
        clear hdr hne
        go_wp2_with fail
        refine (HR.out wa).mono ?_
        rintro e w' ⟨rfl, rfl⟩
        go_wp2_with fail
        refine (HR.out wa).mono ?_
        rintro e w' ⟨rfl, rfl⟩
        go_wp2_with fail
        go_round
        case rel => exact ⟨k + 1, by omega, by go_num, HN⟩
        case measure => simp [intOf]; omega
      | true =>
        have hbb := (litB_iff y).1 HY.out
        have w1 : IntKind.i64.wrap (-y) = -y := IntWalk.i64_in _ (by omega)
        by_cases hq : x.lit = y
        · have q1 : (x.lit == y) = true := by simpa using hq
          have HN := Lib.hid (show rVl t.items y = 1 from by rw [HE.out, hdr]; exact if_pos ⟨HY.out, hq⟩)
          clear hq hdr
          go_wp2_with fail
          refine (HR.out wa).mono ?_
          rintro e w' ⟨rfl, rfl⟩
          go_wp2_with fail
          go_ret
          exact ⟨by rw [HN.out]; rfl, HBA.out⟩
        · have q1 : (x.lit == y) = false := by simpa using hq
          by_cases hq2 : x.lit = -y
          · have q2 : (x.lit == -y) = true := by simpa using hq2
            have HN := Lib.hid (show rVl t.items y = -1 from by rw [HE.out, hdr]; exact (if_neg (fun h => hq h.2)).trans (if_pos ⟨HY.out, hq2⟩))
            clear hq hq2 hdr
            go_wp2_with fail
            refine (HR.out wa).mono ?_
            rintro e w' ⟨rfl, rfl⟩
            go_wp2_with fail
            refine (HR.out wa).mono ?_
            rintro e w' ⟨rfl, rfl⟩
            go_wp2_with fail
            go_ret
            exact ⟨by rw [HN.out]; rfl, HBA.out⟩
          · have q2 : (x.lit == -y) = false := by simpa using hq2
            have HN := Lib.hid (show rVl t.items y = rVl (t.items.drop (k + 1)) y from by rw [HE.out, hdr]; exact (if_neg (fun h => hq h.2)).trans (if_neg (fun h => hq2 h.2)))
            clear hq hq2 hdr
            go_wp2_with fail
            refine (HR.out wa).mono ?_
            rintro e w' ⟨rfl, rfl⟩
            go_wp2_with fail
            refine (HR.out wa).mono ?_
            rintro e w' ⟨rfl, rfl⟩
            go_wp2_with fail
            go_round
            case rel => exact ⟨k + 1, by omega, by go_num, HN⟩
            case measure => simp [intOf]; omega
    · obtain rfl : k = t.items.length := by omega
      have hE := HE.out
      rw [List.drop_length] at hE
      have HN := Lib.hid (show rVl t.items y = 0 from hE)
      clear hE
      go_wp2_with fail
      go_ret
      exact ⟨by rw [HN.out]; rfl, HBA.out⟩
set_option maxRecDepth 100000 in
set_option maxHeartbeats 1000000 in
theorem ref_place14 (y : Int) (t : RTr) (tv : Value) (w : World) (h : RTAt w tv t) (ho : t.Ok) :
    Calls Tryz.prog 60 #[tv, .int .i64 y] w fun e w' => e = .returned (.int .i64 (rP t.items (litV y : Nat))) ∧ Below w.heap.size w w' := by
  have HOK := Lib.hid ho
  obtain ⟨iv, sv, rfl, hi, hs⟩ := h
  obtain ⟨wa, hwa⟩ : ∃ z, w.alloc (.cells #[.int .i64 t.vars, .int .i64 t.now, iv, sv] 61) = z := ⟨_, rfl⟩
  have hba : Below w.heap.size w wa := by rw [← hwa]; exact mx_al _ _
  have hbn : wa.heap[w.heap.size]? = some (.cells #[.int .i64 t.vars, .int .i64 t.now, iv, sv] 61 (0, 0)) := by rw [← hwa]; exact World.alloc_heap_new _ _
  have HI := Lib.hid (hi.below hba)
  have HS := Lib.hid (hs.below hba)
  have HBA := Lib.hid hba
  have HBN := Lib.hid hbn
  have HWA := Lib.hid hwa
  have C0 := Lib.hid (mx_cell (j := 0) hbn)
  have C1 := Lib.hid (mx_cell (j := 1) hbn)
  have C2 := Lib.hid (mx_cell (j := 2) hbn)
  have C3 := Lib.hid (mx_cell (j := 3) hbn)
  have hzw := heap_lt hbn
  have HT := Lib.hid (show RTAt wa (.agg #[.int .i64 t.vars, .int .i64 t.now, iv, sv]) t from ⟨iv, sv, rfl, HI.out, HS.out⟩)
  clear hba hbn hs hwa hi
  go_enter Tryz.func60, Tryz.ntmps60
  go_upto_region 1 with fail
  rw [HWA.out]
  refine wp_region_held_drew (S := fun w' => Below wa.heap.size wa w') (by kernel_rfl) (mx_drew wa) (fun hS => ?_)
  refine takeD 0 5 (v := ?_) rfl (by rfl) (by kernel_rfl) (by kernel_rfl) (by kernel_rfl) (fun _ _ _ h => h) (Or.inl ⟨by rfl, ?_⟩) (by assumption) ?_
  rotate_left
  · intro wq hSw
    have k0 := (hSw.cell (p := ⟨w.heap.size, 0, none⟩) hzw).trans C0.out
    have k1 := (hSw.cell (p := ⟨w.heap.size, 1, none⟩) hzw).trans C1.out
    have k2 := (hSw.cell (p := ⟨w.heap.size, 2, none⟩) hzw).trans C2.out
    have k3 := (hSw.cell (p := ⟨w.heap.size, 3, none⟩) hzw).trans C3.out
    clear hSw
    go_simp
    try with_reducible rfl
  simp only [Act.put, List.setIfInBounds_toArray, List.set_cons_zero, List.set_cons_succ]
  refine takeD 1 6 (v := ?_) rfl (by rfl) (by kernel_rfl) (by kernel_rfl) (by kernel_rfl) (fun _ _ _ h => h) (Or.inl ⟨by rfl, ?_⟩) (by assumption) ?_
  rotate_left
  · intro wq hSw
    clear hSw
    go_simp
    try with_reducible rfl
  simp only [Act.put, List.setIfInBounds_toArray, List.set_cons_zero, List.set_cons_succ]
  refine wpAnyH_ready (rs := [2]) (by kernel_rfl) (by simp) ?_
  refine AllReadyH.cons rfl (fun K hK => ?_) AllReadyH.nil
  go_simp
  refine (ref_var y _).mono ?_
  rintro e w' ⟨rfl, rfl⟩
  refine hK.out _ _ hS (fun _ => ?_)
  clear hK
  refine wpAnyH_ready (rs := [3]) (by kernel_rfl) (by simp) ?_
  refine AllReadyH.cons rfl (fun K hK => ?_) AllReadyH.nil
  go_simp
  refine (ref_place (litV y : Nat) t _ _ (HT.out.below hS) HOK.out).mono ?_
  rintro e w2 ⟨rfl, hbN⟩
  have hSN := hS.trans (hbN.mono hS.size)
  refine hK.out _ _ hSN (fun _ => ?_)
  clear hK hbN hS
  have hS := hSN
  clear hSN
  refine takeD 4 4 (v := ?_) rfl (by rfl) (by kernel_rfl) (by kernel_rfl) (by kernel_rfl) (fun _ _ _ h => h) (Or.inl ⟨by rfl, ?_⟩) (by assumption) ?_
  rotate_left
  · intro wq hSw
    clear hSw
    go_simp
    try with_reducible rfl
  simp only [Act.put, List.setIfInBounds_toArray, List.set_cons_zero, List.set_cons_succ]
  refine wpAnyH_done (by kernel_rfl) ?_ _
  go_wp2_with fail
  go_ret
  exact ⟨rfl, HBA.out.trans (hS.mono HBA.out.size)⟩
set_option maxRecDepth 100000 in
set_option maxHeartbeats 1000000 in
theorem ref_level14 (y : Int) (t : RTr) (tv : Value) (w : World) (h : RTAt w tv t) (ho : t.Ok) (hp : 0 ≤ rP t.items (litV y : Nat)) :
    Calls Tryz.prog 63 #[tv, .int .i64 y] w fun e w' => e = .returned (.int .i64 (rL t.items y)) ∧ Below w.heap.size w w' := by
  have hlen := ho.len
  have HOK := Lib.hid ho
  obtain ⟨p, hp1⟩ : ∃ p : Nat, rP t.items (litV y : Nat) = p := ⟨_, (Int.toNat_of_nonneg hp).symm⟩
  have hpl : p < t.items.length := by
    have := rP_lt t.items (litV y : Nat)
    omega
  obtain ⟨x, hx⟩ := getElem_of hpl
  have HL := Lib.hid (show rL t.items y = x.level from by unfold rL; rw [hp1, Int.toNat_natCast, hx])
  have HP := Lib.hid (fun (w : World) tv (h : RTAt w tv t) => hp1 ▸ ref_place14 y t tv w h ho)
  obtain ⟨iv, sv, rfl, hi, hs⟩ := h
  obtain ⟨wa, hwa⟩ : ∃ z, w.alloc (.cells #[.int .i64 t.vars, .int .i64 t.now, iv, sv] 61) = z := ⟨_, rfl⟩
  have hba : Below w.heap.size w wa := by rw [← hwa]; exact mx_al _ _
  have hbn : wa.heap[w.heap.size]? = some (.cells #[.int .i64 t.vars, .int .i64 t.now, iv, sv] 61 (0, 0)) := by rw [← hwa]; exact World.alloc_heap_new _ _
  have HI := Lib.hid (hi.below hba)
  have HS := Lib.hid (hs.below hba)
  have HBA := Lib.hid hba
  have HBN := Lib.hid hbn
  have HWA := Lib.hid hwa
  have C0 := Lib.hid (mx_cell (j := 0) hbn)
  have C1 := Lib.hid (mx_cell (j := 1) hbn)
  have C2 := Lib.hid (mx_cell (j := 2) hbn)
  have C3 := Lib.hid (mx_cell (j := 3) hbn)
  have hzw := heap_lt hbn
  have HT := Lib.hid (show RTAt wa (.agg #[.int .i64 t.vars, .int .i64 t.now, iv, sv]) t from ⟨iv, sv, rfl, HI.out, HS.out⟩)
  obtain ⟨g, o, c, rfl, hlc, hg, d0, d1, d2⟩ := HI.out.item hx
  have D2 := Lib.hid d2
  have hpc : p < c := by omega
  clear hba hbn hs hwa hi d0 d1 d2 hx hp hp1 ho
  go_enter Tryz.func63, Tryz.ntmps63
  go_upto_region 1 with fail
  rw [HWA.out]
  refine wp_region_held_drew (S := fun w' => Below wa.heap.size wa w') (by kernel_rfl) (mx_drew wa) (fun hS => ?_)
  refine takeD 0 5 (v := ?_) rfl (by rfl) (by kernel_rfl) (by kernel_rfl) (by kernel_rfl) (fun _ _ _ h => h) (Or.inl ⟨by rfl, ?_⟩) (by assumption) ?_
  rotate_left
  · intro wq hSw
    clear hSw
    go_simp
    try with_reducible rfl
  simp only [Act.put, List.setIfInBounds_toArray, List.set_cons_zero, List.set_cons_succ]
  refine takeD 1 6 (v := ?_) rfl (by rfl) (by kernel_rfl) (by kernel_rfl) (by kernel_rfl) (fun _ _ _ h => h) (Or.inl ⟨by rfl, ?_⟩) (by assumption) ?_
  rotate_left
  · intro wq hSw
    have k0 := (hSw.cell (p := ⟨w.heap.size, 0, none⟩) hzw).trans C0.out
    have k1 := (hSw.cell (p := ⟨w.heap.size, 1, none⟩) hzw).trans C1.out
    have k2 := (hSw.cell (p := ⟨w.heap.size, 2, none⟩) hzw).trans C2.out
    have k3 := (hSw.cell (p := ⟨w.heap.size, 3, none⟩) hzw).trans C3.out
    clear hSw
    go_simp
    try with_reducible rfl
  simp only [Act.put, List.setIfInBounds_toArray, List.set_cons_zero, List.set_cons_succ]
  refine takeD 2 7 (v := ?_) rfl (by rfl) (by kernel_rfl) (by kernel_rfl) (by kernel_rfl) (fun _ _ _ h => h) (Or.inl ⟨by rfl, ?_⟩) (by assumption) ?_
  rotate_left
  · intro wq hSw
    have k0 := (hSw.cell (p := ⟨w.heap.size, 0, none⟩) hzw).trans C0.out
    have k1 := (hSw.cell (p := ⟨w.heap.size, 1, none⟩) hzw).trans C1.out
    have k2 := (hSw.cell (p := ⟨w.heap.size, 2, none⟩) hzw).trans C2.out
    have k3 := (hSw.cell (p := ⟨w.heap.size, 3, none⟩) hzw).trans C3.out
    clear hSw
    go_simp
    try with_reducible rfl
  simp only [Act.put, List.setIfInBounds_toArray, List.set_cons_zero, List.set_cons_succ]
  refine takeD 3 8 (v := ?_) rfl (by rfl) (by kernel_rfl) (by kernel_rfl) (by kernel_rfl) (fun _ _ _ h => h) (Or.inl ⟨by rfl, ?_⟩) (by assumption) ?_
  rotate_left
  · intro wq hSw
    clear hSw
    go_simp
    try with_reducible rfl
  simp only [Act.put, List.setIfInBounds_toArray, List.set_cons_zero, List.set_cons_succ]
  refine wpAnyH_ready (rs := [4]) (by kernel_rfl) (by simp) ?_
  refine AllReadyH.cons rfl (fun K hK => ?_) AllReadyH.nil
  go_simp
  refine (HP.out _ _ (HT.out.below hS)).mono ?_
  rintro e w2 ⟨rfl, hbN⟩
  have hSN := hS.trans (hbN.mono hS.size)
  refine hK.out _ _ hSN (fun _ => ?_)
  clear hK hbN hS
  have hS := hSN
  clear hSN
  refine takeD 5 10 (v := ?_) rfl (by rfl) (by kernel_rfl) (by kernel_rfl) (by kernel_rfl) (fun _ _ _ h => h) (Or.inl ⟨by rfl, ?_⟩) (by assumption) ?_
  rotate_left
  · intro wq hSw
    clear hSw
    go_simp
    try with_reducible rfl
  simp only [Act.put, List.setIfInBounds_toArray, List.set_cons_zero, List.set_cons_succ]
  refine takeD 6 11 (v := ?_) rfl (by rfl) (by kernel_rfl) (by kernel_rfl) (by kernel_rfl) (fun _ _ _ h => h) (Or.inl ⟨by rfl, ?_⟩) (by assumption) ?_
  rotate_left
  · intro wq hSw
    clear hSw
    go_simp
    try with_reducible rfl
  simp only [Act.put, List.setIfInBounds_toArray, List.set_cons_zero, List.set_cons_succ]
  refine takeD 7 12 (v := ?_) rfl (by rfl) (by kernel_rfl) (by kernel_rfl) (by kernel_rfl) (fun _ _ _ h => h) (Or.inl ⟨by rfl, ?_⟩) (by assumption) ?_
  rotate_left
  · intro wq hSw
    have k0 := (hSw.cell (p := ⟨g, o + p * 3 + 2, none⟩) hg).trans D2.out
    clear hSw
    go_simp
    try with_reducible rfl
  simp only [Act.put, List.setIfInBounds_toArray, List.set_cons_zero, List.set_cons_succ]
  refine takeD 8 4 (v := ?_) rfl (by rfl) (by kernel_rfl) (by kernel_rfl) (by kernel_rfl) (fun _ _ _ h => h) (Or.inl ⟨by rfl, ?_⟩) (by assumption) ?_
  rotate_left
  · intro wq hSw
    clear hSw
    go_simp
    try with_reducible rfl
  simp only [Act.put, List.setIfInBounds_toArray, List.set_cons_zero, List.set_cons_succ]
  refine wpAnyH_done (by kernel_rfl) ?_ _
  go_wp2_with fail
  go_ret
  exact ⟨by rw [HL.out]; rfl, HBA.out.trans (hS.mono HBA.out.size)⟩
end Go.Proofs.YtfbiaclpopjipaaGreat
