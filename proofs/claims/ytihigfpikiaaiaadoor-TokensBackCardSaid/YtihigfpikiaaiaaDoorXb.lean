/- The walk of awake: the examples of the chapter. -/
import Derived.Test.YtihigfpikiaaiaaDoorXa
namespace Go.Proofs.YtihigfpikiaaiaaDoor
open Go.RowKit

theorem says_lit (s : ByteArray) (ws : List ByteArray) (n : Nat) (w : World) (cs : Array Value) (hs : s.size ≤ 65536) (h1 : scanErr s = 0) (h2 : stopAt s = s.size) (h3 : (scanL s).map (tokS s) = ws) (hn : ws.length = n) (hc : cs = (ws.map Value.string).toArray) :
    Calls Tryd.prog 31 #[.string s, .slice (some ⟨w.heap.size, 0, none⟩) n n] (w.alloc (.cells cs 9)) fun e w' => e = .returned (.bool true) ∧ Below w.heap.size w w' := by
  have hl : (scanL s).length = n := by rw [← hn, ← h3, List.length_map]
  rw [← hl]
  refine (says_true s w.heap.size _ (w.alloc (.cells cs 9)) hs h1 h2 (by simp) (fun i p hp => ?_)).mono ?_
  · rw [cell_of_row _ _ _ _ _ _ (World.alloc_heap_new w _), hc, ← h3]
    simp [hp]
  · rintro e w' ⟨he, hb⟩
    exact ⟨he, ((Below.refl _ _).alloc (Nat.le_refl _) _).trans (hb.mono (by simp))⟩

theorem says1 (w : World) : Calls Tryd.prog 31 #[.string { data := #[97, 46, 98, 49, 61, 49, 50, 58, 52, 60, 61, 120, 35, 32, 99] }, .slice (some ⟨w.heap.size, 0, none⟩) 5 5] (w.alloc (.cells #[.string { data := #[97, 46, 98, 49] }, .string { data := #[61] }, .string { data := #[49, 50, 58, 52] }, .string { data := #[60, 61] }, .string { data := #[120] }] 9)) fun e w' => e = .returned (.bool true) ∧ Below w.heap.size w w' :=
  says_lit _ [⟨#[97, 46, 98, 49]⟩, ⟨#[61]⟩, ⟨#[49, 50, 58, 52]⟩, ⟨#[60, 61]⟩, ⟨#[120]⟩] 5 w _ (by decide) (by kernel_rfl) (by kernel_rfl) (by kernel_rfl) rfl rfl
theorem says2 (w : World) : Calls Tryd.prog 31 #[.string { data := #[49, 58, 32, 50] }, .slice (some ⟨w.heap.size, 0, none⟩) 3 3] (w.alloc (.cells #[.string { data := #[49] }, .string { data := #[58] }, .string { data := #[50] }] 9)) fun e w' => e = .returned (.bool true) ∧ Below w.heap.size w w' :=
  says_lit _ [⟨#[49]⟩, ⟨#[58]⟩, ⟨#[50]⟩] 3 w _ (by decide) (by kernel_rfl) (by kernel_rfl) (by kernel_rfl) rfl rfl
theorem says3 (w : World) : Calls Tryd.prog 31 #[.string { data := #[49, 58, 50, 58, 51] }, .slice (some ⟨w.heap.size, 0, none⟩) 3 3] (w.alloc (.cells #[.string { data := #[49, 58, 50] }, .string { data := #[58] }, .string { data := #[51] }] 9)) fun e w' => e = .returned (.bool true) ∧ Below w.heap.size w w' :=
  says_lit _ [⟨#[49, 58, 50]⟩, ⟨#[58]⟩, ⟨#[51]⟩] 3 w _ (by decide) (by kernel_rfl) (by kernel_rfl) (by kernel_rfl) rfl rfl
theorem says4 (w : World) : Calls Tryd.prog 31 #[.string { data := #[60, 60, 60] }, .slice (some ⟨w.heap.size, 0, none⟩) 2 2] (w.alloc (.cells #[.string { data := #[60, 60] }, .string { data := #[60] }] 9)) fun e w' => e = .returned (.bool true) ∧ Below w.heap.size w w' :=
  says_lit _ [⟨#[60, 60]⟩, ⟨#[60]⟩] 2 w _ (by decide) (by kernel_rfl) (by kernel_rfl) (by kernel_rfl) rfl rfl
theorem says5 (w : World) : Calls Tryd.prog 31 #[.string { data := #[33, 61] }, .slice (some ⟨w.heap.size, 0, none⟩) 1 1] (w.alloc (.cells #[.string { data := #[33, 61] }] 9)) fun e w' => e = .returned (.bool true) ∧ Below w.heap.size w w' :=
  says_lit _ [⟨#[33, 61]⟩] 1 w _ (by decide) (by kernel_rfl) (by kernel_rfl) (by kernel_rfl) rfl rfl
theorem scanA (w : World) : Calls Tryd.prog 11 #[.string { data := #[65] }] w fun e w' => ∃ A c, e = .returned (.tuple #[.slice A 0 c, .int .i64 0, .int .i64 280]) ∧ Below w.heap.size w w' := by
  have e1 : scanL { data := #[65] } = [] := by kernel_rfl
  have e2 : stopAt { data := #[65] } = 0 := by kernel_rfl
  have e3 : scanErr { data := #[65] } = 280 := by kernel_rfl
  refine (scan_toks _ (by decide) w).mono ?_
  rintro e w' ⟨A, c, he, _, hb⟩
  rw [e1, e2, e3] at he
  exact ⟨A, c, he, hb⟩
theorem scanB (w : World) : Calls Tryd.prog 11 #[.string { data := #[97, 33, 98] }] w fun e w' => ∃ A c, e = .returned (.tuple #[.slice A 0 c, .int .i64 1, .int .i64 280]) ∧ Below w.heap.size w w' := by
  have e1 : scanL { data := #[97, 33, 98] } = [] := by kernel_rfl
  have e2 : stopAt { data := #[97, 33, 98] } = 1 := by kernel_rfl
  have e3 : scanErr { data := #[97, 33, 98] } = 280 := by kernel_rfl
  refine (scan_toks _ (by decide) w).mono ?_
  rintro e w' ⟨A, c, he, _, hb⟩
  rw [e1, e2, e3] at he
  exact ⟨A, c, he, hb⟩
theorem value7 (w : World) : Calls Tryd.prog 29 #[.string { data := #[48, 48, 55] }] w fun e w' => e = .returned (.tuple #[.int .i64 7, .int .i64 0]) ∧ w = w' := by
  have e1 : valN { data := #[48, 48, 55] } = 7 := by kernel_rfl
  have e2 : valE { data := #[48, 48, 55] } = 0 := by kernel_rfl
  have := value_any { data := #[48, 48, 55] } w (by decide)
  rw [e1, e2] at this
  exact this
theorem valueBig (w : World) : Calls Tryd.prog 29 #[.string { data := #[49, 48, 48, 48, 48, 48, 48, 48, 48, 49] }] w fun e w' => e = .returned (.tuple #[.int .i64 0, .int .i64 281]) ∧ w = w' := by
  have e1 : valN { data := #[49, 48, 48, 48, 48, 48, 48, 48, 48, 49] } = 0 := by kernel_rfl
  have e2 : valE { data := #[49, 48, 48, 48, 48, 48, 48, 48, 48, 49] } = 281 := by kernel_rfl
  have := value_any { data := #[49, 48, 48, 48, 48, 48, 48, 48, 48, 49] } w (by decide)
  rw [e1, e2] at this
  exact this
theorem line2 (w : World) (hm : MaxL w) : Calls Tryd.prog 15 #[.string { data := #[97, 10, 98] }, .int .i64 2] w fun e w' => e = .returned (.tuple #[.int .i64 2, .int .i64 1]) ∧ Below w.heap.size w w' := by
  have e1 : lineAtN { data := #[97, 10, 98] } 2 = 2 := by kernel_rfl
  have e2 : colAtN { data := #[97, 10, 98] } 2 = 1 := by kernel_rfl
  have := line_any' { data := #[97, 10, 98] } 2 w (by decide) (by decide) hm
  rw [e1, e2] at this
  exact this

set_option maxRecDepth 100000 in
set_option maxHeartbeats 1000000 in
theorem awake_any (w : World) (hm : MaxL w) : Calls Tryd.prog 10 #[] w fun e w' => e = .returned (.bool true) ∧ Below w.heap.size w w' := by
  go_enter Tryd.func10, Tryd.ntmps10
  go_wp2_with fail
  refine (scanA _).mono ?_
  rintro e w1 ⟨A1, c1, rfl, hb1⟩
  go_wp2_with fail
  refine (scanB _).mono ?_
  rintro e w2 ⟨A2, c2, rfl, hb2⟩
  go_wp2_with fail
  refine (value7 _).mono ?_
  rintro e w' ⟨rfl, rfl⟩
  go_wp2_with fail
  refine (valueBig _).mono ?_
  rintro e w' ⟨rfl, rfl⟩
  go_wp2_with fail
  refine (line2 _ ((hm.next hb1).next hb2)).mono ?_
  rintro e w3 ⟨rfl, hb3⟩
  go_wp2_with fail
  refine (says1 _).mono ?_
  rintro e v1 ⟨rfl, hv1⟩
  go_wp2_with fail
  refine (says2 _).mono ?_
  rintro e v2 ⟨rfl, hv2⟩
  go_wp2_with fail
  refine (says3 _).mono ?_
  rintro e v3 ⟨rfl, hv3⟩
  go_wp2_with fail
  refine (says4 _).mono ?_
  rintro e v4 ⟨rfl, hv4⟩
  go_wp2_with fail
  refine (says5 _).mono ?_
  rintro e v5 ⟨rfl, hv5⟩
  go_wp2_with fail
  go_ret
  have h2 := hb1.trans (hb2.mono hb1.size)
  have h3 := h2.trans (hb3.mono h2.size)
  have h4 := h3.trans (hv1.mono h3.size)
  have h5 := h4.trans (hv2.mono h4.size)
  have h6 := h5.trans (hv3.mono h5.size)
  have h7 := h6.trans (hv4.mono h6.size)
  exact ⟨rfl, h7.trans (hv5.mono h7.size)⟩
end Go.Proofs.YtihigfpikiaaiaaDoor
