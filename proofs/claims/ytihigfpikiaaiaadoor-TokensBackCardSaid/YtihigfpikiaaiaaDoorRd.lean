/- The walks of the reference's Value: the number that digits are; texts of at most 2^47 bytes. -/
import Derived.Test.YtihigfpikiaaiaaDoorRc
import Derived.Test.YtihigfpikiaaiaaDoorWi
namespace Tk
theorem foldl_lt (l : List UInt8) (n m : Nat) (hn : n < m) (h : l.all digit = true) : l.foldl (fun n c => 10 * n + (c.toNat - 48)) n < m * 10 ^ l.length := by
  induction l generalizing n m with
  | nil => simpa using hn
  | cons c r ih =>
    simp only [List.all_cons, Bool.and_eq_true] at h
    have hc : c.toNat ≤ 57 := by have := h.1; simp [digit] at this; omega
    simp only [List.foldl_cons, List.length_cons]
    have := ih (10 * n + (c.toNat - 48)) (m * 10) (by omega) h.2
    rw [Nat.pow_succ, Nat.mul_comm (10 ^ r.length) 10, ← Nat.mul_assoc]
    exact this
theorem num_lt (l : List UInt8) (h : l.all digit = true) : num l < 10 ^ l.length := by
  have := foldl_lt l 0 1 (by omega) h
  simpa [num] using this
end Tk
namespace Go.Proofs.YtihigfpikiaaiaaDoor
open Go.RowKit

def strN : Value → Nat
  | .string t => t.size
  | _ => 0
/-- t is s without some zeros in front -/
def Zs (s t : ByteArray) : Prop := t.size ≤ s.size ∧ 1 ≤ t.size ∧ numeralB t = true ∧ Tk.num t.data.toList = Tk.num s.data.toList
theorem Zs.step {s t : ByteArray} (h : Zs s t) (h1 : 1 < t.size) (h0 : bt t 0 = 48) : Zs s (t.extract 1 t.size) := by
  obtain ⟨a, b, c, d⟩ := h
  have e : (t.extract 1 t.size).data.toList = t.data.toList.drop 1 := by
    simp
    rw [List.take_of_length_le (by simp)]
  have hc := cons_bt t (by omega)
  have hl : (t.extract 1 t.size).size = t.size - 1 := by simp
  refine ⟨by omega, by omega, ?_, ?_⟩
  · unfold numeralB at c ⊢
    have h2 : (t.extract 1 t.size).data.toList.isEmpty = false := by rw [← Lib.toList_data]; exact (ne_empty _ (by omega)).1
    unfold Tk.numeral
    rw [h2]
    rw [hc] at c
    rw [e]
    simp only [Tk.numeral, List.all_cons, Bool.and_eq_true] at c
    rw [show (!false : Bool) = true from rfl, c.2.2]; rfl
  · rw [e, ← d, hc, h0, Tk.num_zero]
    simp
theorem val_bad (s : ByteArray) (h : numeralB s = false) : Value.tuple #[.int .i64 0, .int .i64 280] = .tuple #[.int .i64 (valN s : Nat), .int .i64 (valE s : Nat)] := by
  unfold numeralB at h
  unfold valN valE Tk.value
  rw [h]; rfl
theorem val_big (s t : ByteArray) (h : numeralB s = true) (hz : Zs s t) (h1 : 1000000000 < Tk.num t.data.toList) : Value.tuple #[.int .i64 0, .int .i64 281] = .tuple #[.int .i64 (valN s : Nat), .int .i64 (valE s : Nat)] := by
  unfold numeralB at h
  rw [hz.2.2.2] at h1
  unfold valN valE Tk.value
  rw [h, if_pos rfl, if_pos h1]; rfl
theorem val_long (s t : ByteArray) (h : numeralB s = true) (hz : Zs s t) (h1 : 10 < t.size) (h0 : bt t 0 ≠ 48) : Value.tuple #[.int .i64 0, .int .i64 281] = .tuple #[.int .i64 (valN s : Nat), .int .i64 (valE s : Nat)] := by
  refine val_big s t h hz ?_
  have hd := (numeral_facts t hz.2.2.1).2.2 0 (by omega)
  rw [cons_bt t (by omega)]
  exact Tk.num_big _ _ hd h0 (by simp; omega)
theorem val_fine (s t : ByteArray) (h : numeralB s = true) (hz : Zs s t) (h1 : numTo t t.size ≤ 1000000000) : Value.tuple #[.int .i64 (numTo t t.size : Nat), .int .i64 0] = .tuple #[.int .i64 (valN s : Nat), .int .i64 (valE s : Nat)] := by
  unfold numeralB at h
  rw [numTo_all, hz.2.2.2] at h1 ⊢
  unfold valN valE Tk.value
  rw [h, if_pos rfl, if_neg (by omega)]; rfl
theorem num_small (t : ByteArray) (h : numeralB t = true) (h1 : t.size ≤ 10) (k : Nat) : numTo t k < 10000000000 := by
  have h2 := numTo_le t k
  have h3 := Tk.num_lt t.data.toList (by simp only [numeralB, Tk.numeral, Bool.and_eq_true] at h; exact h.2)
  have h4 : 10 ^ t.data.toList.length ≤ 10 ^ 10 := Nat.pow_le_pow_right (by omega) (by simpa using h1)
  omega

set_option maxHeartbeats 1000000 in
theorem rvalue_num (s : ByteArray) (w : World) (hs : s.size ≤ 140737488355328) (h : numeralB s = true) :
    Calls Tryd.prog 37 #[.string s] w fun e w' => e = .returned (.tuple #[.int .i64 (valN s : Nat), .int .i64 (valE s : Nat)]) ∧ w = w' := by
  have hnu : ∀ w, Calls Tryd.prog 56 #[.string s] w fun e w' => e = .returned (.bool true) ∧ w = w' := fun w => by
    have := numeral_any s w hs
    rwa [h] at this
  have HN := Lib.hid hnu
  have h0 := (numeral_facts s h).1
  have H := Lib.hid h
  clear hnu h
  go_enter Tryd.func37, Tryd.ntmps37
  go_wp2_with fail
  refine (HN.out _).mono ?_
  rintro e w' ⟨rfl, rfl⟩
  go_wp2_with fail
  go_loop [0] (fun v => ∃ t : ByteArray, v = .string t ∧ t.size ≤ s.size ∧ 1 ≤ t.size ∧ Hid (Zs s t)) (fun v => strN v)
  case atStart => exact ⟨s, rfl, Nat.le_refl _, by omega, Lib.hid ⟨Nat.le_refl _, by omega, H.out, rfl⟩⟩
  case round =>
    obtain ⟨t, rfl, hts, ht1, hz⟩ := hrel
    have hg := get_bt t
    by_cases hb : 1 < t.size ∧ bt t 0 = 48
    · obtain ⟨h1, h48⟩ := hb
      have E1 : (((bt t 0).toNat : Int) == (48 : Int)) = true := by rw [h48]; rfl
      have HZ := Lib.hid (hz.out.step h1 h48)
      clear h48
      go_wp2
      go_round
      case rel => exact ⟨_, rfl, by simp; omega, by simp; omega, HZ⟩
      case measure => simp [strN]; omega
    · by_cases hl : 10 < t.size
      · have h48 : bt t 0 ≠ 48 := fun e => hb ⟨by omega, e⟩
        have E1 : (((bt t 0).toNat : Int) == (48 : Int)) = false := by
          have := byte_eq (bt t 0) 48 (by omega)
          rw [show ((48 : Nat) : Int) = 48 from rfl] at this
          rw [this]; simpa using h48
        have HL := Lib.hid (val_long s t H.out hz.out hl h48)
        clear h48 hb
        go_wp2
        go_ret2
        exact ⟨congrArg Ending.returned HL.out, rfl⟩
      · have HV := Lib.hid (val_big s t H.out hz.out)
        have HF := Lib.hid (val_fine s t H.out hz.out)
        have HS := Lib.hid (num_small t hz.out.2.2.1 (by omega))
        have HD := Lib.hid ((numeral_facts t hz.out.2.2.1).2.2)
        by_cases h1 : 1 < t.size
        case' pos =>
          have h48 : bt t 0 ≠ 48 := fun e => hb ⟨by omega, e⟩
          have E1 : (((bt t 0).toNat : Int) == (48 : Int)) = false := by
            have := byte_eq (bt t 0) 48 (by omega)
            rw [show ((48 : Nat) : Int) = 48 from rfl] at this
            rw [this]; simpa using h48
          clear h48 hb
          go_wp2
        case' neg =>
          clear hb
          go_wp2
        all_goals
          go_loop [4, 5] (fun n i => ∃ k : Nat, k ≤ t.size ∧ i = .int .i64 k ∧ n = .int .i64 (numTo t k : Nat)) (fun _ i => t.size - (intOf i).toNat)
          case atStart => exact ⟨0, by omega, rfl, by unfold numTo; simp [Tk.num]⟩
          case round =>
            obtain ⟨k, hk, rfl, rfl⟩ := hrel
            by_cases hlt : k < t.size
            · obtain ⟨b1, b2⟩ := digit_bounds _ (HD.out k hlt)
              have hsm := HS.out k
              have hst := numTo_step t k hlt
              have HT := Lib.hid hst
              clear hst
              go_wp2
              go_round
              case rel => exact ⟨k + 1, by omega, by go_num, by rw [HT.out]; congr 1; omega⟩
              case measure => simp [intOf]; omega
            · obtain rfl : k = t.size := by omega
              have hal := numTo_all t
              have HAL := Lib.hid hal
              clear hal
              by_cases hbig : 1000000000 < numTo t t.size
              · go_wp2
                go_ret2
                exact ⟨congrArg Ending.returned (HV.out (by rw [← HAL.out]; exact hbig)), rfl⟩
              · go_wp2
                go_ret2
                exact ⟨congrArg Ending.returned (HF.out (by omega)), rfl⟩

set_option maxHeartbeats 400000 in
theorem rvalue_any (s : ByteArray) (w : World) (hs : s.size ≤ 140737488355328) :
    Calls Tryd.prog 37 #[.string s] w fun e w' => e = .returned (.tuple #[.int .i64 (valN s : Nat), .int .i64 (valE s : Nat)]) ∧ w = w' := by
  cases h : numeralB s with
  | true => exact rvalue_num s w hs h
  | false =>
    have hnu : ∀ w, Calls Tryd.prog 56 #[.string s] w fun e w' => e = .returned (.bool false) ∧ w = w' := fun w => by
      have := numeral_any s w hs
      rwa [h] at this
    have HN := Lib.hid hnu
    have FIN := Lib.hid (val_bad s h)
    clear hnu h
    go_enter Tryd.func37, Tryd.ntmps37
    go_wp2_with fail
    refine (HN.out _).mono ?_
    rintro e w' ⟨rfl, rfl⟩
    go_wp2_with fail
    go_ret2
    exact ⟨congrArg Ending.returned FIN.out, rfl⟩
end Go.Proofs.YtihigfpikiaaiaaDoor
