/- Literals as numbers: salvorlaw02.Ints, salvorlaw08.Ints. -/
import Derived.Test.YtbokfjmbamgenaaDoorRc
namespace Go.Proofs.YtbokfjmbamgenaaDoor
open Go.RowKit

set_option maxRecDepth 100000 in
set_option maxHeartbeats 1000000 in
theorem ints02 {O : Nat → Prop} (u : Value) (xs : List Int) (w : World) (h1 : IntsIn O w u xs) (hs : xs.length ≤ 1000000) :
    Calls Tryd.prog 70 #[u] w fun e w' => ∃ v, e = .returned v ∧ w'.ownsRow w.heap.size 3 1 v xs.length (xs.map (Value.int .i64)) ∧ Below w.heap.size w w' := by
  obtain ⟨i0, hi, hz0, hz1, hz2⟩ := info_parts info_int
  obtain ⟨A, c, rfl, hc, _, hx⟩ := h1
  have HX := Lib.hid hx
  clear hx
  go_enter Tryd.func70, Tryd.ntmps70
  go_wp2_with fail
  go_loopw [3, 8] (fun t i wr => ∃ k : Nat, k ≤ xs.length ∧ i = .int .i64 k ∧ Hid (wr.ownsRow w.heap.size 3 1 t k ((xs.take k).map (Value.int .i64))) ∧ Hid (Below w.heap.size w wr)) (fun _ i _ => xs.length - (intOf i).toNat)
  case atStart => exact ⟨0, Nat.zero_le _, rfl, Lib.hid (World.ownsRow_nil _ _ _ _), Lib.hid (Below.refl _ _)⟩
  case round =>
    obtain ⟨k, hk, rfl, HV, HW⟩ := hrel
    have hzw := HW.out.size
    obtain ⟨Av, cv, hv, _⟩ := own_slice HV.out
    subst hv
    by_cases hlt : k < xs.length
    · obtain ⟨x, hxk⟩ := getElem_of hlt
      obtain ⟨g, o, rfl, hg, _, d0⟩ := HX.out k x hxk
      have d1 := (HW.out.cell (p := ⟨g, o + k, none⟩) hg).trans d0
      have hnx : (xs.take (k + 1)).map (Value.int .i64) = (xs.take k).map (Value.int .i64) ++ [.int .i64 x] := by rw [List.take_add_one, hxk]; simp
      have HNX := Lib.hid hnx
      obtain ⟨XS, hXS⟩ : ∃ XS, (xs.take k).map (Value.int .i64) = XS := ⟨_, rfl⟩
      rw [hXS] at HV HNX
      clear hXS hnx hxk d0
      go_wp2_with (at_builtin; refine wpList_append_own_at _ rfl _ _ 26 rfl w.heap.size 3 i0 (.int .i64 0) 1 8 Tryd.underlying26 hi hz0 hz1 hz2 rfl (by decide) _ k _ rfl (own_below HV.out (below_al wr _)) ⟨wr.heap.size, 0, none⟩ 1 1 [.int .i64 x] rfl rfl (cell_one_new' _ _ _) (by simp [Value.oneCell']) (by unfold maxLen; omega) (by omega) (by simp; omega) ?_; intro v' w1 hown hgrow hnl hat; obtain ⟨Aw, kw, hv2, _⟩ := own_slice hown; subst hv2; have HOWN := Lib.hid hown; have HG := Lib.hid hgrow; clear hown hgrow hnl hat)
      have hw1 : Below w.heap.size w w1 := (HW.out.trans ((below_al wr (.cells #[.int .i64 x] 3)).mono hzw)).grown HG.out (by simp; omega) (fun g hg => (own_lt HV.out g hg).1)
      go_roundw
      case rel => exact ⟨k + 1, by omega, by go_num, Lib.hid (by rw [HNX.out]; exact HOWN.out), Lib.hid hw1⟩
      case measure => simp [intOf]; omega
    · obtain rfl : k = xs.length := by omega
      rw [List.take_length] at HV
      go_wp2_with fail
      go_ret
      exact ⟨_, rfl, HV.out, HW.out⟩
set_option maxRecDepth 100000 in
set_option maxHeartbeats 1000000 in
theorem ints08 {O : Nat → Prop} (u : Value) (xs : List Int) (w : World) (h1 : IntsIn O w u xs) (hs : xs.length ≤ 1000000) :
    Calls Tryd.prog 30 #[u] w fun e w' => ∃ v, e = .returned v ∧ w'.ownsRow w.heap.size 3 1 v xs.length (xs.map (Value.int .i64)) ∧ Below w.heap.size w w' := by
  obtain ⟨i0, hi, hz0, hz1, hz2⟩ := info_parts info_int
  obtain ⟨A, c, rfl, hc, _, hx⟩ := h1
  have HX := Lib.hid hx
  clear hx
  go_enter Tryd.func30, Tryd.ntmps30
  go_wp2_with fail
  go_loopw [3, 8] (fun t i wr => ∃ k : Nat, k ≤ xs.length ∧ i = .int .i64 k ∧ Hid (wr.ownsRow w.heap.size 3 1 t k ((xs.take k).map (Value.int .i64))) ∧ Hid (Below w.heap.size w wr)) (fun _ i _ => xs.length - (intOf i).toNat)
  case atStart => exact ⟨0, Nat.zero_le _, rfl, Lib.hid (World.ownsRow_nil _ _ _ _), Lib.hid (Below.refl _ _)⟩
  case round =>
    obtain ⟨k, hk, rfl, HV, HW⟩ := hrel
    have hzw := HW.out.size
    obtain ⟨Av, cv, hv, _⟩ := own_slice HV.out
    subst hv
    by_cases hlt : k < xs.length
    · obtain ⟨x, hxk⟩ := getElem_of hlt
      obtain ⟨g, o, rfl, hg, _, d0⟩ := HX.out k x hxk
      have d1 := (HW.out.cell (p := ⟨g, o + k, none⟩) hg).trans d0
      have hnx : (xs.take (k + 1)).map (Value.int .i64) = (xs.take k).map (Value.int .i64) ++ [.int .i64 x] := by rw [List.take_add_one, hxk]; simp
      have HNX := Lib.hid hnx
      obtain ⟨XS, hXS⟩ : ∃ XS, (xs.take k).map (Value.int .i64) = XS := ⟨_, rfl⟩
      rw [hXS] at HV HNX
      clear hXS hnx hxk d0
      go_wp2_with (at_builtin; refine wpList_append_own_at _ rfl _ _ 26 rfl w.heap.size 3 i0 (.int .i64 0) 1 8 Tryd.underlying26 hi hz0 hz1 hz2 rfl (by decide) _ k _ rfl (own_below HV.out (below_al wr _)) ⟨wr.heap.size, 0, none⟩ 1 1 [.int .i64 x] rfl rfl (cell_one_new' _ _ _) (by simp [Value.oneCell']) (by unfold maxLen; omega) (by omega) (by simp; omega) ?_; intro v' w1 hown hgrow hnl hat; obtain ⟨Aw, kw, hv2, _⟩ := own_slice hown; subst hv2; have HOWN := Lib.hid hown; have HG := Lib.hid hgrow; clear hown hgrow hnl hat)
      have hw1 : Below w.heap.size w w1 := (HW.out.trans ((below_al wr (.cells #[.int .i64 x] 3)).mono hzw)).grown HG.out (by simp; omega) (fun g hg => (own_lt HV.out g hg).1)
      go_roundw
      case rel => exact ⟨k + 1, by omega, by go_num, Lib.hid (by rw [HNX.out]; exact HOWN.out), Lib.hid hw1⟩
      case measure => simp [intOf]; omega
    · obtain rfl : k = xs.length := by omega
      rw [List.take_length] at HV
      go_wp2_with fail
      go_ret
      exact ⟨_, rfl, HV.out, HW.out⟩
end Go.Proofs.YtbokfjmbamgenaaDoor
