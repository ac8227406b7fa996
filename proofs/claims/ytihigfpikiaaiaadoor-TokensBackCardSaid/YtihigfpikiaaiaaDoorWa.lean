/- The walks of the small functions of package tokens. -/
import Derived.Test.YtihigfpikiaaiaaDoorRows
import Derived.Test.YtihigfpikiaaiaaDoorPa
import Derived.WalkKit
import Derived.WalkSpells
import Derived.WalkLawsBesides
import Derived.Lib.Hide
namespace Go.Proofs.YtihigfpikiaaiaaDoor
open Go.RowKit

theorem toNat_le' (c : UInt8) : c.toNat ≤ 255 := by have := c.toNat_lt; omega
theorem ret_bool {a b : Bool} (h : a = b) : Ending.returned (.bool a) = .returned (.bool b) := by rw [h]
theorem ret_int {k : IntKind} {a b : Int} (h : a = b) : Ending.returned (.int k a) = .returned (.int k b) := by rw [h]

set_option maxHeartbeats 400000 in
theorem letter_any (c : UInt8) (w : World) :
    Calls Tryd.prog 63 #[.int .u8 (c.toNat : Int)] w fun e w' => e = .returned (.bool (Tk.letter c)) ∧ w = w' := by
  have hc := toNat_le' c
  go_enter Tryd.func63, Tryd.ntmps63
  go_wp2
  all_goals
    go_ret
    exact ⟨ret_bool (by rw [Bool.eq_iff_iff]; simp [Tk.letter]; omega), rfl⟩

set_option maxHeartbeats 400000 in
theorem digit_any (c : UInt8) (w : World) :
    Calls Tryd.prog 65 #[.int .u8 (c.toNat : Int)] w fun e w' => e = .returned (.bool (Tk.digit c)) ∧ w = w' := by
  have hc := toNat_le' c
  go_enter Tryd.func65, Tryd.ntmps65
  go_wp2
  all_goals
    go_ret
    exact ⟨ret_bool (by rw [Bool.eq_iff_iff]; simp [Tk.digit]; omega), rfl⟩

theorem beq_toNat (c d : UInt8) : (c == d) = ((c.toNat : Int) == (d.toNat : Int)) := by
  rw [Bool.eq_iff_iff, beq_iff_eq, beq_iff_eq, ← UInt8.toNat_inj]; omega

set_option maxHeartbeats 400000 in
theorem part_any (c : UInt8) (w : World) :
    Calls Tryd.prog 64 #[.int .u8 (c.toNat : Int)] w fun e w' => e = .returned (.bool (Tk.part c)) ∧ w = w' := by
  have hc := toNat_le' c
  have h1 := beq_toNat c 46
  have h2 := beq_toNat c 95
  have H1 := Lib.hid h1
  have H2 := Lib.hid h2
  clear h1 h2
  go_enter Tryd.func64, Tryd.ntmps64
  go_wp2_with (first | (go_at_call 63; refine (letter_any _ _).mono ?_; rintro e w' ⟨rfl, rfl⟩) | (go_at_call 65; refine (digit_any _ _).mono ?_; rintro e w' ⟨rfl, rfl⟩))
  all_goals
    go_ret
    refine ⟨ret_bool ?_, rfl⟩
    unfold Tk.part
    rw [H1.out, H2.out]
    simp_all

/-! ### bytes of a string -/
/-- Byte k of a string; 0 behind its end. -/
def bt (s : ByteArray) (k : Nat) : UInt8 := s.data.toList.getD k 0
theorem get_bt (s : ByteArray) : ∀ (n : Nat) (h : n < s.size), s[n]'h = bt s n := fun n h => by
  unfold bt
  rw [List.getD_eq_getElem?_getD, List.getElem?_eq_getElem (by simpa using h)]
  rfl
theorem drop_bt (s : ByteArray) (k : Nat) (h : k < s.size) : s.data.toList.drop k = bt s k :: s.data.toList.drop (k + 1) := by
  rw [List.drop_eq_getElem_cons (by simpa using h)]
  congr 1
  unfold bt
  rw [List.getD_eq_getElem?_getD, List.getElem?_eq_getElem (by simpa using h)]
  rfl
theorem drop_end (s : ByteArray) (k : Nat) (h : s.size ≤ k) : s.data.toList.drop k = [] := by
  apply List.drop_eq_nil_of_le
  simpa using h

theorem run_step (p : UInt8 → Bool) (s : ByteArray) (k : Nat) (h : k < s.size) (hp : p (bt s k) = true) : Tk.run p (s.data.toList.drop k) = 1 + Tk.run p (s.data.toList.drop (k + 1)) := by
  rw [drop_bt s k h]; simp [Tk.run, hp]
theorem run_stop (p : UInt8 → Bool) (s : ByteArray) (k : Nat) (h : k < s.size → p (bt s k) = false) : Tk.run p (s.data.toList.drop k) = 0 := by
  by_cases hk : k < s.size
  · rw [drop_bt s k hk]; simp [Tk.run, h hk]
  · rw [drop_end s k (by omega)]; rfl

/-- the index behind the bytes of a kind -/
def runTo (p : UInt8 → Bool) (s : ByteArray) (a : Nat) : Nat := a + Tk.run p (s.data.toList.drop a)
theorem runTo_ge (p : UInt8 → Bool) (s : ByteArray) (a : Nat) : a ≤ runTo p s a := by unfold runTo; omega
theorem runTo_le (p : UInt8 → Bool) (s : ByteArray) (a : Nat) (h : a ≤ s.size) : runTo p s a ≤ s.size := by
  unfold runTo
  have := Tk.run_le p (s.data.toList.drop a)
  simp at this
  omega
theorem runTo_step (p : UInt8 → Bool) (s : ByteArray) (k : Nat) (h : k < s.size) (hp : p (bt s k) = true) : runTo p s (k + 1) = runTo p s k := by
  unfold runTo; rw [run_step p s k h hp]; omega
theorem runTo_stop (p : UInt8 → Bool) (s : ByteArray) (k : Nat) (h : k < s.size → p (bt s k) = false) : k = runTo p s k := by
  unfold runTo; rw [run_stop p s k h]; omega

set_option maxHeartbeats 400000 in
theorem digits_any (s : ByteArray) (at0 : Nat) (w : World) (hs : s.size ≤ 140737488355328) (h0 : at0 ≤ s.size) :
    Calls Tryd.prog 51 #[.string s, .int .i64 (at0 : Int)] w fun e w' => e = .returned (.int .i64 (runTo Tk.digit s at0 : Nat)) ∧ w = w' := by
  have hg := get_bt s
  go_enter Tryd.func51, Tryd.ntmps51
  go_wp2
  go_loop [1] (fun i => ∃ k : Nat, k ≤ s.size ∧ i = .int .i64 k ∧ runTo Tk.digit s k = runTo Tk.digit s at0) (fun i => s.size - (intOf i).toNat)
  case atStart => exact ⟨at0, h0, rfl, rfl⟩
  case round =>
    obtain ⟨k, hk, rfl, hr⟩ := hrel
    have HR := Lib.hid hr
    clear hr
    by_cases hlt : k < s.size
    · by_cases hd : Tk.digit (bt s k) = true
      · go_wp2_with (go_at_call 65; refine (digit_any _ _).mono ?_; rintro e w' ⟨rfl, rfl⟩)
        go_round
        case rel => exact ⟨k + 1, by omega, by go_num, by rw [runTo_step _ s k hlt hd]; exact HR.out⟩
        case measure => simp [intOf]; omega
      · have hd' : Tk.digit (bt s k) = false := by simpa using hd
        clear hd
        go_wp2_with (go_at_call 65; refine (digit_any _ _).mono ?_; rintro e w' ⟨rfl, rfl⟩)
        go_ret
        exact ⟨ret_int (by rw [← HR.out, ← runTo_stop _ s k (fun _ => hd')]), rfl⟩
    · go_wp2
      go_ret
      exact ⟨ret_int (by rw [← HR.out, ← runTo_stop _ s k (fun h => absurd h hlt)]), rfl⟩
end Go.Proofs.YtihigfpikiaaiaaDoor
