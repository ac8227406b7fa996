/- The walk of Line. -/
import Derived.Test.YtihigfpikiaaiaaDoorWi
namespace Go.Proofs.YtihigfpikiaaiaaDoor
open Go.RowKit

/-- a variable of the library holds a number -/
def MaxL (w : World) : Prop := 0 < w.heap.size ∧ ∃ m : Int, w.cell? ⟨0, 0, none⟩ = some (.int .i64 m)
theorem MaxL.below {B : Nat} {w w' : World} (h : MaxL w) (hb : Below B w w') (hB : 0 < B) : MaxL w' := by
  obtain ⟨h0, m, hm⟩ := h
  exact ⟨Nat.lt_of_lt_of_le h0 hb.size, m, (hb.cell (p := ⟨0, 0, none⟩) hB).trans hm⟩
theorem MaxL.next {w w' : World} (h : MaxL w) (hb : Below w.heap.size w w') : MaxL w' := h.below hb h.1
theorem MaxL.drewN {w : World} (h : MaxL w) (n : Nat) : MaxL (w.drewN n) := h

/-- the line and the column of an index -/
def lineAtN (s : ByteArray) (a : Nat) : Nat := Tk.lineN (s.data.toList.take a)
def colAtN (s : ByteArray) (a : Nat) : Nat := Tk.colN (s.data.toList.take a)
theorem count_le (l : List UInt8) : l.count 10 ≤ l.length := List.count_le_length
theorem lineAtN_le (s : ByteArray) (a : Nat) : lineAtN s a ≤ s.size + 1 := by
  unfold lineAtN
  rw [Tk.lineN_eq]
  have := count_le (s.data.toList.take a)
  simp at this
  omega
theorem colAtN_le (s : ByteArray) (a : Nat) (h : a ≤ s.size) : colAtN s a ≤ a + 1 ∧ 1 ≤ colAtN s a := by
  unfold colAtN
  have h2 : ∀ (l : List UInt8) (n : Nat), 1 ≤ n → l.foldl (fun n c => if c == 10 then 1 else n + 1) n ≤ n + l.length ∧ 1 ≤ l.foldl (fun n c => if c == 10 then 1 else n + 1) n := by
    intro l
    induction l with
    | nil => intro n hn; exact ⟨by simp, hn⟩
    | cons c r ih =>
      intro n hn
      simp only [List.foldl_cons, List.length_cons]
      have h3 := ih (if c == 10 then 1 else n + 1) (by split <;> omega)
      split at h3
      · rename_i hc; rw [if_pos hc]; exact ⟨by omega, h3.2⟩
      · rename_i hc; rw [if_neg hc]; exact ⟨by omega, h3.2⟩
  have := h2 (s.data.toList.take a) 1 (by omega)
  simp only [List.length_take, size_list] at this
  unfold Tk.colN
  exact ⟨by omega, this.2⟩

theorem split_line (s : ByteArray) (a : Nat) (w : World) (hs : s.size < 4294967281) (ha : a ≤ s.size) (hm : MaxL w) :
    Calls Tryd.prog 34 #[.string (s.extract 0 a), .string ⟨#[10]⟩] w fun e w' => ∃ (n : Nat) (t : ByteArray), e = .returned (.slice (some ⟨w.heap.size, 0, none⟩) (n + 1) (n + 1)) ∧ w'.cell? ⟨w.heap.size, n, none⟩ = some (.string t) ∧ n + 1 = lineAtN s a ∧ t.size + 1 = colAtN s a ∧ Below w.heap.size w w' := by
  obtain ⟨h0, m, hc⟩ := hm
  refine (Tryd.strings_Split _ _ m w (by rw [size_ext0 _ _ ha]; omega) hc (by decide)).mono ?_
  rintro e w' ⟨he, hw⟩
  obtain ⟨h1, h2, t, h3, h4⟩ := Tk.split_lines _ (s.extract 0 a) (Nat.le_refl _)
  rw [Lib.extract_from_zero] at h2 h4
  refine ⟨Lib.countB (s.extract 0 a) ⟨#[10]⟩, t, he, ?_, h2, h4, ?_⟩
  · rw [hw, cell_of_row _ _ _ _ _ _ (World.alloc_heap_new w _)]
    simp [h3]
  · rw [hw]; exact (Below.refl _ _).alloc (Nat.le_refl _) _

set_option maxHeartbeats 400000 in
theorem line_out (s : ByteArray) (a : Int) (w : World) (h : a < 0 ∨ (s.size : Int) < a) :
    Calls Tryd.prog 15 #[.string s, .int .i64 a] w fun e w' => e = .returned (.tuple #[.int .i64 0, .int .i64 0]) ∧ w = w' := by
  rcases h with h | h
  · go_enter Tryd.func15, Tryd.ntmps15
    go_wp2
    go_ret2
    exact ⟨rfl, rfl⟩
  · have h' : ¬ a < 0 := by omega
    go_enter Tryd.func15, Tryd.ntmps15
    go_wp2
    go_ret2
    exact ⟨rfl, rfl⟩

set_option maxHeartbeats 400000 in
theorem line_any' (s : ByteArray) (a : Nat) (w : World) (hs : s.size < 4294967281) (ha : a ≤ s.size) (hm : MaxL w) :
    Calls Tryd.prog 15 #[.string s, .int .i64 (a : Int)] w fun e w' => e = .returned (.tuple #[.int .i64 (lineAtN s a : Nat), .int .i64 (colAtN s a : Nat)]) ∧ Below w.heap.size w w' := by
  have hsp := fun w (hm : MaxL w) => split_line s a w hs ha hm
  have HSP := Lib.hid hsp
  have HM := Lib.hid hm
  clear hsp hm
  have l1 := lineAtN_le s a
  have l2 := (colAtN_le s a ha).1
  go_enter Tryd.func15, Tryd.ntmps15
  go_wp2_with fail
  refine (HSP.out _ HM.out).mono ?_
  rintro e w' ⟨n, t, rfl, hc, hn, ht, hb⟩
  have HN := Lib.hid hn
  have HT := Lib.hid ht
  have g1 : n ≤ s.size := by omega
  have g2 : t.size ≤ s.size := by omega
  clear hn ht
  go_wp2_with fail
  go_quiet (fail)
  go_wp2
  go_ret2
  refine ⟨?_, below_drewN hb _⟩
  rw [← HN.out, ← HT.out]
  rfl
end Go.Proofs.YtihigfpikiaaiaaDoor
