/- Grow, Concat (package slices), at clauses. -/
import Derived.Test.YtfbiaclpopjipaaAp
import Derived.Lib.AppendZeros
namespace Go.Proofs.Ytfbiaclpopjipaa
open Go.RowKit

set_option maxRecDepth 100000 in
theorem grow_c (k : Nat) (w : World) (hk : k ≤ 1000000) :
    Calls Try.prog 38 #[.slice none 0 0, .int .i64 (k : Int)] w fun e w' => ∃ v, e = .returned v ∧ w'.ownsRow w.heap.size 33 1 v 0 [] ∧ Below w.heap.size w w' := by
  by_cases h0 : k = 0
  · subst h0
    go_enter Try.func38, Try.ntmps38
    go_wp2_with fail
    go_ret
    exact ⟨_, rfl, World.ownsRow_nil _ _ _ _, Below.refl _ _⟩
  · have q0 : decide ((k : Int) < 0) = false := by simp
    have q1 : decide ((0 : Int) < (k : Int)) = true := by simp; omega
    have q2 : decide (0 < k) = true := by simp; omega
    obtain ⟨i0, hi0, hz0, hz1, hz2⟩ := info_parts tinfo_lit
    have hrun := fun ty => Lib.run_append_nil_zeros (P := Try.prog) w 29 3 ty 33 i0 (.int .i64 0) .i64 .i64 Try.underlying29 Try.underlying3 hi0 hz0 k (by omega) (by rw [hz1]; omega) (by omega) (by rw [hz2]; omega)
    have hge := grownCap_ge w k 0 33
    have hle := grownCap_le_maxLen w k 0 33 (by unfold maxLen; omega)
    obtain ⟨cap, hcap⟩ : ∃ c, grownCap w k 0 33 = c := ⟨_, rfl⟩
    rw [hcap] at hrun hge hle
    obtain ⟨W1, hW1⟩ : ∃ x, w.drew.alloc (.cells (Builtin.zeroCells (Value.int .i64 0).cells k ++ Builtin.zeroCells (Value.int .i64 0).cells (cap - k)) 33) = x := ⟨_, rfl⟩
    rw [hW1] at hrun
    have hb1 : Below w.heap.size w W1 := by rw [← hW1]; exact (mx_drew w).trans (mx_al w.drew _)
    have hn1 : W1.heap[w.heap.size]? = some (.cells (Builtin.zeroCells (Value.int .i64 0).cells k ++ Builtin.zeroCells (Value.int .i64 0).cells (cap - k)) 33 (0, 0)) := by
      rw [← hW1]
      exact World.alloc_heap_new w.drew _
    have hown : W1.ownsRow w.heap.size 33 1 (.slice (some ⟨w.heap.size, 0, none⟩) 0 cap) 0 [] := by
      refine ⟨rfl, .inr ⟨w.heap.size, cap, _, rfl, Nat.le_refl _, hn1, Nat.zero_le _, hle, ?_, by simp⟩⟩
      rw [Array.size_append, size_zeroCells, size_zeroCells]
      show k * 1 + (cap - k) * 1 = cap * 1
      omega
    have HOWN := Lib.hid hown
    have HB1 := Lib.hid hb1
    have HRUN := Lib.hid hrun
    clear hrun hcap hW1 hb1 hn1 hown hi0 hz0 hz1 hz2
    go_enter Try.func38, Try.ntmps38
    go_wp2_with (at_builtin; refine Lib.wpList_append_run _ rfl _ _ 29 3 rfl _ _ rfl rfl _ _ (HRUN.out _) ?_)
    go_ret
    exact ⟨_, rfl, HOWN.out, HB1.out⟩
theorem flat_take {l : List (List Int)} {k : Nat} {c : List Int} (h : l[k]? = some c) : (l.take (k + 1)).flatten = (l.take k).flatten ++ c := by
  rw [List.take_add_one, h]
  simp
theorem flat_le (l : List (List Int)) (k : Nat) : (l.take k).flatten.length ≤ l.flatten.length := by
  have : l.flatten.length = (l.take k).flatten.length + (l.drop k).flatten.length := by
    rw [← List.length_append, ← List.flatten_append, List.take_append_drop]
  omega
set_option maxRecDepth 100000 in
set_option maxHeartbeats 1000000 in
theorem concat_c (u : Value) (cs : List (List Int)) (w : World) (h : ClsAt w u cs) (hl : cs.flatten.length ≤ 1000000) (hcl : cs.length ≤ 1000000) :
    Calls Try.prog 14 #[u] w fun e w' => ∃ v, e = .returned v ∧ w'.ownsRow w.heap.size 33 1 v cs.flatten.length (cs.flatten.map (Value.int .i64)) ∧ Below w.heap.size w w' := by
  obtain ⟨A, c, rfl, hx⟩ := h
  have HX := Lib.hid hx
  clear hx
  obtain ⟨i0, hi0, hz0, hz1, hz2⟩ := info_parts tinfo_lit
  have I0 := Lib.hid hi0
  have I1 := Lib.hid hz0
  have I2 := Lib.hid hz1
  have I3 := Lib.hid hz2
  clear hi0 hz0 hz1 hz2
  go_enter Try.func14, Try.ntmps14
  go_wp2_with fail
  go_loop [3, 11] (fun s i => ∃ (k z : Nat), k ≤ cs.length ∧ i = .int .i64 k ∧ s = .int .i64 z ∧ z ≤ 1000000 ∧ Hid (z = (cs.take k).flatten.length)) (fun _ i => cs.length - (intOf i).toNat)
  case atStart => exact ⟨0, 0, Nat.zero_le _, rfl, rfl, by omega, Lib.hid rfl⟩
  case round =>
    obtain ⟨k, z, hk, rfl, rfl, hz, HZ⟩ := hrel
    by_cases hlt : k < cs.length
    · obtain ⟨xs, hxs⟩ := getElem_of hlt
      obtain ⟨g, o, v, rfl, hg, d0, hv⟩ := HX.out k xs hxs
      obtain ⟨Av, cv, rfl, _⟩ := hv
      have hft := flat_take hxs
      have hfl := flat_le cs (k + 1)
      have hz2 : z + xs.length ≤ 1000000 := by
        have := HZ.out
        rw [hft, List.length_append] at hfl
        omega
      have HZ2 := Lib.hid (show z + xs.length = (cs.take (k + 1)).flatten.length from by rw [hft, List.length_append, ← HZ.out])
      clear hxs hft hfl
      have q0 : decide ((z : Int) + (xs.length : Int) < 0) = false := by simp; omega
      go_wp2
      go_round
      case rel => exact ⟨k + 1, z + xs.length, by omega, by go_num, by go_num, hz2, HZ2⟩
      case measure => simp [intOf]; omega
    · obtain rfl : k = cs.length := by omega
      go_wp2_with fail
      refine (grow_c z w hz).mono ?_
      rintro e w1 ⟨v1, rfl, hown1, hb1⟩
      have HO1 := Lib.hid hown1
      have HB1 := Lib.hid hb1
      clear hown1 hb1
      go_wp2_with fail
      go_loopw [6, 27] (fun s i wr => ∃ (k : Nat) (v : Value), k ≤ cs.length ∧ i = .int .i64 k ∧ v = s ∧ Hid (Below w.heap.size w wr) ∧ Hid (wr.ownsRow w.heap.size 33 1 v (cs.take k).flatten.length ((cs.take k).flatten.map (Value.int .i64)))) (fun _ i _ => cs.length - (intOf i).toNat)
      case atStart => exact ⟨0, v1, Nat.zero_le _, rfl, rfl, HB1, HO1⟩
      case round =>
        obtain ⟨k, v, hk, rfl, rfl, HB, HO⟩ := hrel
        by_cases hlt2 : k < cs.length
        · obtain ⟨xs, hxs⟩ := getElem_of hlt2
          obtain ⟨g, o, v2, rfl, hg, d0', hv⟩ := HX.out k xs hxs
          have d0 := (HB.out.cell (p := ⟨g, o + k, none⟩) hg).trans d0'
          have hsrc := (hv.below HB.out).src
          obtain ⟨Av, cv, rfl, _⟩ := hv
          have hft := flat_take hxs
          have hfl := flat_le cs (k + 1)
          rw [hft, List.length_append] at hfl
          have HFT := Lib.hid hft
          have HSRC := Lib.hid hsrc
          clear hxs hft hsrc d0'
          go_wp2_with (at_builtin; refine wpList_append_any rfl _ _ 29 rfl w.heap.size 33 i0 (.int .i64 0) 1 8 Try.underlying29 I0.out I1.out I2.out I3.out rfl (by decide) _ (cs.take k).flatten.length _ rfl HO.out _ xs.length (xs.map (Value.int .i64)) rfl HSRC.out (by simp) (by simp [Value.oneCell']) (by unfold maxLen; omega) (by omega) HB.out.size ?_; intro v' w4 hown hgrow _; have HO4 := Lib.hid hown; have HB4 := Lib.hid (below_kept HB.out (Kept.grown hgrow) (fun j hj => (own_lt HO.out j hj.symm).1) HB.out.size); clear hown hgrow)
          go_roundw
          case rel => exact ⟨k + 1, v', by omega, by go_num, rfl, HB4, Lib.hid (by rw [HFT.out, List.length_append, List.map_append]; exact HO4.out)⟩
          case measure => simp [intOf]; omega
        · obtain rfl : k = cs.length := by omega
          go_wp2_with fail
          go_ret
          have ho := HO.out
          rw [List.take_length] at ho
          exact ⟨_, rfl, ho, HB.out⟩
end Go.Proofs.Ytfbiaclpopjipaa
