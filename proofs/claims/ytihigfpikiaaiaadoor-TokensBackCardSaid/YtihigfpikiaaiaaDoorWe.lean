/- The walk of Next. -/
import Derived.Test.YtihigfpikiaaiaaDoorWd
namespace Go.Proofs.YtihigfpikiaaiaaDoor
open Go.RowKit

theorem bcell {W w1 : World} (hb : Below W.heap.size W w1) : (∀ b o, b < W.heap.size → w1.cell? ⟨b, o, none⟩ = W.cell? ⟨b, o, none⟩) ∧ (∀ b o, b < W.heap.size → w1.frozen? ⟨b, o, none⟩ = W.frozen? ⟨b, o, none⟩) :=
  ⟨fun b o h => hb.cell (p := ⟨b, o, none⟩) h, fun b o h => hb.frozen (p := ⟨b, o, none⟩) h⟩
theorem token_agg (s : ByteArray) (a : Nat) (w : World) (hs : s.size ≤ 140737488355328) (h0 : a < s.size) :
    Calls Tryd.prog 48 #[.string s, .int .i64 (a : Int)] w fun e w' => e = .returned (.agg #[.int .u8 (tkKind s a : Nat), .int .i64 (a : Int), .int .i64 (tkEnd s a : Nat)]) ∧ Below w.heap.size w w' := token_any s a w hs h0
/-- Next: the error -/
def nxErr (s : ByteArray) (a : Nat) : Nat := if tkKind s a = 0 ∧ a < s.size then 280 else 0
theorem tkKind_end (s : ByteArray) : tkKind s s.size = 0 := by unfold tkKind; rw [drop_end s s.size (Nat.le_refl _)]; rfl
theorem tkEnd_end (s : ByteArray) : tkEnd s s.size = s.size := by unfold tkEnd; rw [drop_end s s.size (Nat.le_refl _)]; rfl

set_option maxHeartbeats 400000 in
theorem next_any (s : ByteArray) (a : Nat) (w : World) (hs : s.size ≤ 140737488355328) (h0 : a ≤ s.size) :
    Calls Tryd.prog 26 #[.string s, .int .i64 (a : Int)] w fun e w' => e = .returned (.tuple #[tokV (tkKind s (skipTo s a)) (skipTo s a) (tkEnd s (skipTo s a)), .int .i64 (nxErr s (skipTo s a) : Nat)]) ∧ Below w.heap.size w w' := by
  have hle := skipTo_le s a h0
  by_cases hz : skipTo s a = s.size
  · have fin : Value.tuple #[.agg #[.int .u8 0, .int .i64 (s.size : Int), .int .i64 (s.size : Int)], .int .i64 0] = .tuple #[tokV (tkKind s (skipTo s a)) (skipTo s a) (tkEnd s (skipTo s a)), .int .i64 (nxErr s (skipTo s a) : Nat)] := by
      rw [hz, tkKind_end, tkEnd_end]; unfold nxErr tokV; rw [if_neg (by omega)]; rfl
    have FIN := Lib.hid fin
    have ez : ((skipTo s a : Int) == (s.size : Int)) = true := by rw [hz]; simp
    have HZ := Lib.hid hz
    clear fin hz
    go_enter Tryd.func26, Tryd.ntmps26
    go_wp2_with (go_at_call 47; refine (skip_any _ _ _ hs h0).mono ?_; rintro e w' ⟨rfl, rfl⟩)
    go_returns
    exact ⟨by rw [← FIN.out, HZ.out], by go_grown⟩
  · have ez : ((skipTo s a : Int) == (s.size : Int)) = false := by simp; omega
    have hlt : skipTo s a < s.size := by omega
    have hkl := tkKind_le s (skipTo s a)
    clear hz
    by_cases hk : tkKind s (skipTo s a) = 0
    · have ek : ((tkKind s (skipTo s a) : Int) == 0) = true := by rw [hk]; rfl
      have FIN := Lib.hid (show (280 : Int) = ((nxErr s (skipTo s a) : Nat) : Int) by unfold nxErr; rw [if_pos ⟨hk, hlt⟩]; rfl)
      clear hk
      go_enter Tryd.func26, Tryd.ntmps26
      go_wp2_with (first | (go_at_call 47; refine (skip_any _ _ _ hs h0).mono ?_; rintro e w' ⟨rfl, rfl⟩) | (go_at_call 48; refine (token_agg _ _ _ hs hlt).mono ?_; rintro e w1 ⟨rfl, hb⟩; obtain ⟨hc, hf⟩ := bcell hb; have hz : w.heap.size < w1.heap.size := (by have := hb.size; simp at this; omega); have hB : Below w.heap.size w w1 := ((Below.refl _ _).alloc (Nat.le_refl _) _).trans (hb.mono (by simp))))
      refine bodyPost_ret (v := .tuple #[.agg #[.int .u8 (tkKind s (skipTo s a) : Nat), .int .i64 (skipTo s a : Nat), .int .i64 (tkEnd s (skipTo s a) : Nat)], .int .i64 280]) (by simp [results, Tryd.results26, go_sem, hc, hz]) rfl ⟨?_, by go_grown⟩
      rw [FIN.out]; rfl
    · have ek : ((tkKind s (skipTo s a) : Int) == 0) = false := by simpa using hk
      have FIN := Lib.hid (show (0 : Int) = ((nxErr s (skipTo s a) : Nat) : Int) by unfold nxErr; rw [if_neg (fun h => hk h.1)]; rfl)
      clear hk
      go_enter Tryd.func26, Tryd.ntmps26
      go_wp2_with (first | (go_at_call 47; refine (skip_any _ _ _ hs h0).mono ?_; rintro e w' ⟨rfl, rfl⟩) | (go_at_call 48; refine (token_agg _ _ _ hs hlt).mono ?_; rintro e w1 ⟨rfl, hb⟩; obtain ⟨hc, hf⟩ := bcell hb; have hz : w.heap.size < w1.heap.size := (by have := hb.size; simp at this; omega); have hB : Below w.heap.size w w1 := ((Below.refl _ _).alloc (Nat.le_refl _) _).trans (hb.mono (by simp))))
      refine bodyPost_ret (v := .tuple #[.agg #[.int .u8 (tkKind s (skipTo s a) : Nat), .int .i64 (skipTo s a : Nat), .int .i64 (tkEnd s (skipTo s a) : Nat)], .int .i64 0]) (by simp [results, Tryd.results26, go_sem, hc, hz]) rfl ⟨?_, by go_grown⟩
      rw [FIN.out]; rfl

set_option maxHeartbeats 400000 in
theorem next_out (s : ByteArray) (a : Int) (w : World) (hs : s.size ≤ 140737488355328) (h0 : a < 0 ∨ (s.size : Int) < a) :
    Calls Tryd.prog 26 #[.string s, .int .i64 a] w fun e w' => e = .returned (.tuple #[tokV 0 0 0, .int .i64 2]) ∧ Below w.heap.size w w' := by
  rcases h0 with h | h
  · go_enter Tryd.func26, Tryd.ntmps26
    go_wp2
    go_returns
    exact ⟨rfl, by go_grown⟩
  · have h' : ¬ a < 0 := by omega
    go_enter Tryd.func26, Tryd.ntmps26
    go_wp2
    go_returns
    exact ⟨rfl, by go_grown⟩
end Go.Proofs.YtihigfpikiaaiaaDoor
