/- The walk of skip: blanks and comments. -/
import Derived.Test.YtihigfpikiaaiaaDoorWa
import Derived.Test.YtihigfpikiaaiaaDoorShelf
import Derived.Lib.IndexBytes
namespace Go.Proofs.YtihigfpikiaaiaaDoor
open Go.RowKit

/-- the index of the first byte from an index on that is no blank -/
def skipTo (s : ByteArray) (a : Nat) : Nat := a + Tk.bl false (s.data.toList.drop a)
theorem skipTo_ge (s : ByteArray) (a : Nat) : a ≤ skipTo s a := by unfold skipTo; omega
theorem skipTo_le (s : ByteArray) (a : Nat) (h : a ≤ s.size) : skipTo s a ≤ s.size := by
  unfold skipTo
  have := Tk.bl_le false (s.data.toList.drop a)
  simp at this
  omega
theorem skipTo_blank (s : ByteArray) (k : Nat) (h : k < s.size) (hb : Tk.blankB (bt s k) = true) : skipTo s (k + 1) = skipTo s k := by
  unfold skipTo
  rw [drop_bt s k h]
  have h35 : bt s k ≠ 35 := by intro e; rw [e] at hb; revert hb; decide
  simp [Tk.bl, hb, h35]
  omega
theorem skipTo_stop (s : ByteArray) (k : Nat) (h : k < s.size → Tk.blankB (bt s k) = false ∧ bt s k ≠ 35) : k = skipTo s k := by
  unfold skipTo
  by_cases hk : k < s.size
  · rw [drop_bt s k hk]
    simp [Tk.bl, (h hk).1, (h hk).2]
  · rw [drop_end s k (by omega)]
    rfl
theorem bl_line (l : List UInt8) : (Lib.indexByte l 10 < 0 → Tk.bl true l = l.length) ∧ (0 ≤ Lib.indexByte l 10 → (Lib.indexByte l 10).toNat < l.length ∧ Tk.bl true l = (Lib.indexByte l 10).toNat + Tk.bl false (l.drop (Lib.indexByte l 10).toNat)) := by
  induction l with
  | nil => simp [Lib.indexByte, Tk.bl]
  | cons c r ih =>
    have hge := Lib.indexByte_ge r 10
    by_cases hc : c = 10
    · subst hc
      simp [Lib.indexByte, Tk.bl]
    · have hc' : (c == 10) = false := by simpa using hc
      have hcn : (c != 10) = true := by simpa using hc
      simp only [Lib.indexByte, hc', Bool.false_eq_true, if_false, Tk.bl, hcn, Bool.and_true, Bool.or_true, if_true, List.length_cons, beq_iff_eq]
      by_cases hm : Lib.indexByte r 10 = -1
      · rw [if_pos hm]
        refine ⟨fun _ => ?_, fun h => absurd h (by omega)⟩
        rw [ih.1 (by omega)]
        omega
      · rw [if_neg hm]
        refine ⟨fun h => absurd h (by omega), fun h => ?_⟩
        have := ih.2 (by omega)
        rw [show (Lib.indexByte r 10 + 1).toNat = (Lib.indexByte r 10).toNat + 1 by omega, List.drop_succ_cons]
        omega
theorem skip_line (s : ByteArray) (k : Nat) (h : k < s.size) (hb : bt s k = 35) :
    (Lib.indexByte (s.data.toList.drop k) 10 < 0 → skipTo s k = s.size) ∧
    (0 ≤ Lib.indexByte (s.data.toList.drop k) 10 → 0 < (Lib.indexByte (s.data.toList.drop k) 10).toNat ∧ k + (Lib.indexByte (s.data.toList.drop k) 10).toNat < s.size ∧ skipTo s (k + (Lib.indexByte (s.data.toList.drop k) 10).toNat) = skipTo s k) := by
  have hl := bl_line (s.data.toList.drop k)
  have he : Tk.bl false (s.data.toList.drop k) = Tk.bl true (s.data.toList.drop k) := by rw [drop_bt s k h, hb]; simp [Tk.bl]
  have hlen : (s.data.toList.drop k).length = s.size - k := by simp
  have h0 : Lib.indexByte (s.data.toList.drop k) 10 ≠ 0 := by
    rw [drop_bt s k h, hb]
    simp only [Lib.indexByte, show ((35 : UInt8) == 10) = false from rfl, Bool.false_eq_true, if_false]
    have := Lib.indexByte_ge (s.data.toList.drop (k + 1)) 10
    split
    · omega
    · rename_i hh
      simp at hh
      omega
  unfold skipTo
  rw [he]
  refine ⟨fun hn => ?_, fun hn => ?_⟩
  · rw [hl.1 hn]; omega
  · obtain ⟨h1, h2⟩ := hl.2 hn
    refine ⟨by omega, by omega, ?_⟩
    rw [h2, List.drop_drop]
    omega

/-- where the line of an index ends; negative if it has no end -/
def lineAt (s : ByteArray) (k : Nat) : Int := Lib.indexByte (s.data.toList.drop k) 10
theorem lineAt_ge (s : ByteArray) (k : Nat) : -1 ≤ lineAt s k := Lib.indexByte_ge _ _
theorem line_any (s : ByteArray) (k : Nat) (w : World) :
    Calls Tryd.prog 62 #[.string (s.extract k s.size), .int .u8 10] w fun e w' => e = .returned (.int .i64 (lineAt s k)) ∧ w = w' := by
  refine (Tryd.strings_IndexByte _ _ _).mono ?_
  rintro e w' ⟨he, hw⟩
  rw [Lib.extract_to_end] at he
  exact ⟨he, hw.symm⟩
theorem byte_eq (c : UInt8) (n : Nat) (hn : n < 256) : (((c.toNat : Nat) : Int) == (n : Int)) = (c == UInt8.ofNat n) := by
  rw [Bool.eq_iff_iff, beq_iff_eq, beq_iff_eq, ← UInt8.toNat_inj, UInt8.toNat_ofNat_of_lt' (by simpa using hn)]
  omega

theorem blank_iff (c : UInt8) : Tk.blankB c = (((c.toNat : Int) == 9) || ((c.toNat : Int) == 10) || ((c.toNat : Int) == 13) || ((c.toNat : Int) == 32)) := by
  rw [show (9 : Int) = ((9 : Nat) : Int) from rfl, show (10 : Int) = ((10 : Nat) : Int) from rfl, show (13 : Int) = ((13 : Nat) : Int) from rfl, show (32 : Int) = ((32 : Nat) : Int) from rfl,
    byte_eq _ _ (by omega), byte_eq _ _ (by omega), byte_eq _ _ (by omega), byte_eq _ _ (by omega)]
  rfl

set_option maxHeartbeats 400000 in
theorem skip_any (s : ByteArray) (at0 : Nat) (w : World) (hs : s.size ≤ 140737488355328) (h0 : at0 ≤ s.size) :
    Calls Tryd.prog 47 #[.string s, .int .i64 (at0 : Int)] w fun e w' => e = .returned (.int .i64 (skipTo s at0 : Nat)) ∧ w = w' := by
  have hg := get_bt s
  go_enter Tryd.func47, Tryd.ntmps47
  go_wp2
  go_step3
  go_wp2
  go_step3
  go_wp2
  go_loop [1] (fun i => ∃ k : Nat, k ≤ s.size ∧ i = .int .i64 k ∧ skipTo s k = skipTo s at0) (fun i => s.size - (intOf i).toNat)
  case atStart => exact ⟨at0, h0, rfl, rfl⟩
  case round =>
    obtain ⟨k, hk, rfl, hr⟩ := hrel
    have HR := Lib.hid hr
    clear hr
    by_cases hlt : k < s.size
    · by_cases h35 : bt s k = 35
      · have e35 : (((bt s k).toNat : Int) == 35) = true := by rw [h35]; rfl
        have hl := skip_line s k hlt h35
        have HL := Lib.hid hl
        clear hl h35
        have hge := lineAt_ge s k
        by_cases hn : lineAt s k < 0
        · have hq := HL.out.1 hn
          have HQ := Lib.hid hq
          clear hq
          go_wp2_with (go_at_call 62; refine (line_any _ _ _).mono ?_; rintro e w' ⟨rfl, rfl⟩)
          go_round
          case rel => exact ⟨s.size, by omega, rfl, by rw [← HR.out, HQ.out]; exact (skipTo_stop s s.size (fun h => absurd h (by omega))).symm⟩
          case measure => simp [intOf]; omega
        · have hq := HL.out.2 (by unfold lineAt at hn; omega)
          have h1 : 0 < (lineAt s k).toNat := hq.1
          have h2 : k + (lineAt s k).toNat < s.size := hq.2.1
          have HQ := Lib.hid (show skipTo s (k + (lineAt s k).toNat) = skipTo s k from hq.2.2)
          clear hq
          go_wp2_with (go_at_call 62; refine (line_any _ _ _).mono ?_; rintro e w' ⟨rfl, rfl⟩)
          go_round
          case rel => exact ⟨k + (lineAt s k).toNat, by omega, by rw [show (k : Int) + lineAt s k = ((k + (lineAt s k).toNat : Nat) : Int) by omega], by rw [← HR.out, HQ.out]⟩
          case measure => simp [intOf]; omega
      · have e35 : (((bt s k).toNat : Int) == 35) = false := by rw [show (35 : Int) = ((35 : Nat) : Int) from rfl, byte_eq _ _ (by omega)]; simpa using h35
        have H35 := Lib.hid h35
        clear h35
        go_wp2
        all_goals first
          | (go_round
             case rel => exact ⟨k + 1, by omega, by go_num, by rw [← HR.out]; exact skipTo_blank s k hlt (by rw [blank_iff]; simp [*])⟩
             case measure => simp [intOf]; omega)
          | (go_ret
             exact ⟨ret_int (by rw [← HR.out, ← skipTo_stop s k (fun _ => ⟨by rw [blank_iff]; simp [*], H35.out⟩)]), rfl⟩)
    · go_wp2
      go_ret
      exact ⟨ret_int (by rw [← HR.out, ← skipTo_stop s k (fun h => absurd h hlt)]), rfl⟩
end Go.Proofs.YtihigfpikiaaiaaDoor
