/- The trail: New. -/
import Derived.Test.YtiodfolcnnkdjaaGreatTd
import Derived.Laws.OwnMore
namespace Go.Proofs.YtiodfolcnnkdjaaGreat
open Go.RowKit

theorem tinfo_state : (Tryz.prog.info? 139).map (fun i => (i.zero, i.size, i.bytes)) = some (some (.agg #[.int .i64 0, .int .i64 0, .int .i64 0, .int .i64 0]), 4, 32) := by kernel_rfl
theorem made_state (m : Nat) : (madeCells (Value.agg #[.int .i64 0, .int .i64 0, .int .i64 0, .int .i64 0]).cells (m * 4)).toList = (List.replicate m (⟨0, 0, 0, 0⟩ : TV)).flatMap TV.cells := by
  apply List.ext_getElem?
  intro q
  rw [tvCells_div, List.getElem?_replicate, Array.getElem?_toList]
  have hz : (Value.agg #[.int .i64 0, .int .i64 0, .int .i64 0, .int .i64 0]).cells = #[.int .i64 0, .int .i64 0, .int .i64 0, .int .i64 0] := rfl
  rw [hz]
  unfold madeCells
  rw [Array.getElem?_map]
  by_cases hq : q < m * 4
  · rw [if_pos (show q / 4 < m by omega), Array.getElem?_range, if_pos hq]
    have h4 : q % 4 = 0 ∨ q % 4 = 1 ∨ q % 4 = 2 ∨ q % 4 = 3 := by omega
    rcases h4 with e | e | e | e
    all_goals
      show some (#[Value.int .i64 0, .int .i64 0, .int .i64 0, .int .i64 0][q % 4]!) = _
      rw [e]
      rfl
  · rw [if_neg (show ¬ q / 4 < m by omega), Array.getElem?_range, if_neg hq]
    rfl
set_option maxRecDepth 100000 in
set_option maxHeartbeats 1000000 in
theorem tr_new (n : Nat) (w : World) (hn : n ≤ 1048576) :
    Calls Tryz.prog 36 #[.int .i64 (n : Int)] w fun e w' => ∃ b, e = .returned (.tuple #[.pointer (some ⟨b, 0, none⟩), .int .i64 0]) ∧ TrAt (fun g => w.heap.size ≤ g ∧ g < w'.heap.size) w' b ⟨List.replicate (n + 1) ⟨0, 0, 0, 0⟩, [], [0]⟩ ∧ Below w.heap.size w w' := by
  have q0 : decide ((n : Int) < 0) = false := by simp
  have q1 : decide ((1048576 : Int) < (n : Int)) = false := by simp; omega
  obtain ⟨i0, hi0, hz0, hz1, hz2⟩ := info_parts tinfo_state
  obtain ⟨w1, hrun, hown, hgr⟩ := run_make_full (P := Tryz.prog) (w := w) w.heap.size 123 139 i0 _ 4 Tryz.underlying123 hi0 hz0 hz1 .i64 .i64 (n + 1) (by rw [hz2]; omega) (by unfold maxLen; omega) (Nat.le_refl _)
  rw [made_state] at hown
  rw [show ((n + 1 : Nat) : Int) = (n : Int) + 1 from by omega] at hrun
  have hk1 : Below w.heap.size w w1 := (Below.refl _ _).grown hgr (Nat.le_refl _) (fun g hg => by cases hg)
  have HOWN := Lib.hid hown
  have HK1 := Lib.hid hk1
  have hz := hk1.size
  have hg1 := (own_lt hown w.heap.size rfl).2
  clear hown hgr hk1 hi0 hz0 hz1 hz2
  clear i0
  go_enter Tryz.func36, Tryz.ntmps36
  go_wp2_with fail
  obtain ⟨w2, hw2⟩ : ∃ x, w1.alloc (.cells #[.int .i64 0] 3) = x := ⟨_, rfl⟩
  have hb2 : Below w1.heap.size w1 w2 := by rw [← hw2]; exact mx_al _ _
  have ho2 : w2.ownsRow 0 3 1 (.slice (some ⟨w1.heap.size, 0, none⟩) 1 1) 1 [.int .i64 0] := by
    rw [← hw2]
    exact ⟨rfl, .inr ⟨w1.heap.size, 1, #[.int .i64 0], rfl, Nat.zero_le _, World.alloc_heap_new _ _, Nat.le_refl _, by decide, rfl, rfl⟩⟩
  have hz2 : w2.heap.size = w1.heap.size + 1 := by rw [← hw2]; simp
  obtain ⟨w3, hw3⟩ : ∃ x, w2.alloc (.cells #[.slice (some ⟨w.heap.size, 0, none⟩) (n + 1) (n + 1), .slice none 0 0, .slice (some ⟨w1.heap.size, 0, none⟩) 1 1, .bool true] 125) = x := ⟨_, rfl⟩
  have hb3 : Below w2.heap.size w2 w3 := by rw [← hw3]; exact mx_al _ _
  have hn3 : w3.heap[w2.heap.size]? = some (.cells #[.slice (some ⟨w.heap.size, 0, none⟩) (n + 1) (n + 1), .slice none 0 0, .slice (some ⟨w1.heap.size, 0, none⟩) 1 1, .bool true] 125 (0, 0)) := by rw [← hw3]; exact World.alloc_heap_new _ _
  have hz3 : w3.heap.size = w2.heap.size + 1 := by rw [← hw3]; simp
  rw [hw2, hw3]
  go_ret2
  refine ⟨w2.heap.size, by rw [hz2]; rfl, ⟨⟨?_, by simp, by simp, fun s hs => ?_⟩, w.heap.size, n + 1, .slice none 0 0, .slice (some ⟨w1.heap.size, 0, none⟩) 1 1, ⟨fun g hg => hg.2, ⟨by omega, by omega⟩, ⟨Nat.le_refl _, by omega⟩, ?_, ?_, World.ownsRow_nil _ _ _ _, (fun g hg => by cases hg), own_below ho2 hb3, fun g hg => ?_⟩⟩, HK1.out.trans ((hb2.trans (hb3.mono hb2.size)).mono HK1.out.size)⟩
  · show 1 ≤ (List.replicate (n + 1) _).length ∧ (List.replicate (n + 1) _).length ≤ 1048577
    rw [List.length_replicate]
    omega
  · rw [List.eq_of_mem_replicate hs]
    exact .inl rfl
  · show w3.heap[w2.heap.size]? = some (.cells #[.slice _ (List.replicate (n + 1) _).length _, _, _, _] _ _)
    rw [List.length_replicate]
    exact hn3
  · show w3.ownsRow 0 _ 4 (.slice _ (List.replicate (n + 1) _).length _) (List.replicate (n + 1) _).length _
    rw [List.length_replicate]
    exact own_mono (own_below (own_below HOWN.out hb2) hb3) (Nat.zero_le _)
  · obtain rfl : w1.heap.size = g := Option.some.inj hg
    omega
end Go.Proofs.YtiodfolcnnkdjaaGreat
