/- The walks of the reference's blank, plain and Line. -/
import Derived.Test.YtihigfpikiaaiaaDoorRe
import Derived.Test.YtihigfpikiaaiaaDoorMa
namespace Go.Proofs.YtihigfpikiaaiaaDoor
open Go.RowKit

/-! ### blank -/
theorem ieq (c : UInt8) (n : Nat) (hn : n < 256) (h : c ≠ UInt8.ofNat n) : ((c.toNat : Int) == (n : Int)) = false := by
  rw [byte_eq _ _ hn]; simpa using h
theorem ine (c : UInt8) (n : Nat) (hn : n < 256) (h : c ≠ UInt8.ofNat n) : ((c.toNat : Int) != (n : Int)) = true := by
  rw [bne, ieq c n hn h]; rfl
theorem bl_done (s : ByteArray) (cm : Bool) (a : Nat) (ha : a < s.size) (h : a = blTo cm s a) : bt s a ≠ 35 ∧ bt s a ≠ 9 ∧ bt s a ≠ 10 ∧ bt s a ≠ 13 ∧ bt s a ≠ 32 ∧ cm = false := by
  unfold blTo at h
  rw [drop_bt s a ha] at h
  simp only [Tk.bl] at h
  split at h
  · omega
  · rename_i h1
    split at h
    · omega
    · rename_i h2
      simp only [Bool.not_eq_true, Tk.blankB, Bool.or_eq_false_iff, beq_eq_false_iff_ne] at h1 h2
      obtain ⟨⟨⟨n9, n10⟩, n13⟩, n32⟩ := h2
      refine ⟨h1.1, n9, n10, n13, n32, ?_⟩
      cases cm with
      | false => rfl
      | true =>
        have := h1.2
        simp at this
        exact absurd this n10
theorem blTo_end (s : ByteArray) (cm : Bool) (a : Nat) (ha : s.size ≤ a) : blTo cm s a = a := by
  unfold blTo
  rw [List.drop_eq_nil_of_le (by simpa using ha)]
  cases cm <;> rfl

set_option maxHeartbeats 2000000 in
theorem rblank_any (s : ByteArray) (a : Nat) (w : World) (hs : s.size ≤ 140737488355328) (ha : a ≤ s.size) :
    Calls Tryd.prog 58 #[.string s, .int .i64 (a : Int)] w fun e w' => e = .returned (.int .i64 (skipTo s a : Nat)) ∧ w = w' := by
  have hg := get_bt s
  go_enter Tryd.func58, Tryd.ntmps58
  go_wp2
  go_loop [1, 5] (fun i c => ∃ (k : Nat) (cm : Bool), k ≤ s.size ∧ i = .int .i64 k ∧ c = .bool cm ∧ Hid (blTo cm s k = skipTo s a)) (fun i _ => s.size - (intOf i).toNat)
  case atStart => exact ⟨a, false, ha, rfl, rfl, Lib.hid rfl⟩
  case round =>
    obtain ⟨k, cm, hk, rfl, rfl, HBL⟩ := hrel
    by_cases hlt : k < s.size
    · by_cases hbl : k < blTo cm s k
      · have hcs := blank_cases s cm k hlt hbl
        clear hbl
        have hb := toNat_le' (bt s k)
        rcases hcs with ⟨hc, hnx⟩ | ⟨rfl, n35, n10, hnx⟩ | ⟨hc, hnx⟩ | ⟨rfl, hc, hnx⟩
        · have E1 : (((bt s k).toNat : Int) == (35 : Int)) = true := by rw [hc]; rfl
          have HNX := Lib.hid hnx
          clear hc hnx
          cases cm
          all_goals
            go_wp2
            go_round
            case rel => exact ⟨k + 1, true, by omega, by go_num, rfl, Lib.hid (HNX.out.trans HBL.out)⟩
            case measure => simp [intOf]; omega
        · have E1 : (((bt s k).toNat : Int) == (35 : Int)) = false := ieq _ 35 (by omega) n35
          have E2 : (((bt s k).toNat : Int) != (10 : Int)) = true := ine _ 10 (by omega) n10
          have HNX := Lib.hid hnx
          clear n35 n10 hnx
          go_wp2
          go_round
          case rel => exact ⟨k + 1, true, by omega, by go_num, rfl, Lib.hid (HNX.out.trans HBL.out)⟩
          case measure => simp [intOf]; omega
        · have E1 : (((bt s k).toNat : Int) == (35 : Int)) = false := by rw [hc]; rfl
          have E2 : (((bt s k).toNat : Int) != (10 : Int)) = false := by rw [hc]; rfl
          have E3 : (((bt s k).toNat : Int) != (9 : Int)) = true := by rw [hc]; rfl
          have HNX := Lib.hid hnx
          clear hc hnx
          cases cm
          all_goals
            go_wp2
            go_round
            case rel => exact ⟨k + 1, false, by omega, by go_num, rfl, Lib.hid (HNX.out.trans HBL.out)⟩
            case measure => simp [intOf]; omega
        · have HNX := Lib.hid hnx
          rcases hc with hc | hc | hc
          · have E1 : (((bt s k).toNat : Int) == (35 : Int)) = false := by rw [hc]; rfl
            have E2 : (((bt s k).toNat : Int) != (10 : Int)) = true := by rw [hc]; rfl
            have X9 : (((bt s k).toNat : Int) != (9 : Int)) = false := by rw [hc]; rfl
            clear hc hnx
            go_wp2
            go_round
            case rel => exact ⟨k + 1, false, by omega, by go_num, rfl, Lib.hid (HNX.out.trans HBL.out)⟩
            case measure => simp [intOf]; omega
          · have E1 : (((bt s k).toNat : Int) == (35 : Int)) = false := by rw [hc]; rfl
            have E2 : (((bt s k).toNat : Int) != (10 : Int)) = true := by rw [hc]; rfl
            have X9 : (((bt s k).toNat : Int) != (9 : Int)) = true := by rw [hc]; rfl
            have X13 : (((bt s k).toNat : Int) != (13 : Int)) = false := by rw [hc]; rfl
            clear hc hnx
            go_wp2
            go_round
            case rel => exact ⟨k + 1, false, by omega, by go_num, rfl, Lib.hid (HNX.out.trans HBL.out)⟩
            case measure => simp [intOf]; omega
          · have E1 : (((bt s k).toNat : Int) == (35 : Int)) = false := by rw [hc]; rfl
            have E2 : (((bt s k).toNat : Int) != (10 : Int)) = true := by rw [hc]; rfl
            have X9 : (((bt s k).toNat : Int) != (9 : Int)) = true := by rw [hc]; rfl
            have X13 : (((bt s k).toNat : Int) != (13 : Int)) = true := by rw [hc]; rfl
            have X32 : (((bt s k).toNat : Int) != (32 : Int)) = false := by rw [hc]; rfl
            clear hc hnx
            go_wp2
            go_round
            case rel => exact ⟨k + 1, false, by omega, by go_num, rfl, Lib.hid (HNX.out.trans HBL.out)⟩
            case measure => simp [intOf]; omega
      · have he : k = blTo cm s k := by have : k ≤ blTo cm s k := by unfold blTo; omega
                                        omega
        obtain ⟨n35, n9, n10, n13, n32, rfl⟩ := bl_done s cm k hlt he
        have HE := Lib.hid (he.trans HBL.out)
        have E1 : (((bt s k).toNat : Int) == (35 : Int)) = false := ieq _ 35 (by omega) n35
        have E2 : (((bt s k).toNat : Int) != (9 : Int)) = true := ine _ 9 (by omega) n9
        have E3 : (((bt s k).toNat : Int) != (10 : Int)) = true := ine _ 10 (by omega) n10
        have E4 : (((bt s k).toNat : Int) != (13 : Int)) = true := ine _ 13 (by omega) n13
        have E5 : (((bt s k).toNat : Int) != (32 : Int)) = true := ine _ 32 (by omega) n32
        clear he n35 n9 n10 n13 n32 hbl
        go_wp2
        go_ret
        exact ⟨ret_int (by rw [HE.out]), rfl⟩
    · have hks : k = s.size := by omega
      have HE := Lib.hid ((blTo_end s cm k (by omega)).symm.trans HBL.out)
      go_wp2
      go_ret
      exact ⟨ret_int (by rw [← HE.out, hks]), rfl⟩

/-! ### plain -/
theorem plain_eq (c : UInt8) (n : Nat) (hn : n < 256) : (c == UInt8.ofNat n) = decide (c.toNat = n) := by
  rw [← byte_eq c n hn, Bool.eq_iff_iff, beq_iff_eq, decide_eq_true_eq]
  omega
set_option maxHeartbeats 1000000 in
theorem plain_any (c : UInt8) (w : World) :
    Calls Tryd.prog 59 #[.int .u8 (c.toNat : Int)] w fun e w' => e = .returned (.bool (Tk.plain c)) ∧ w = w' := by
  have pe : Tk.plain c = (decide (97 ≤ c.toNat) && decide (c.toNat ≤ 122) || decide (48 ≤ c.toNat) && decide (c.toNat ≤ 57) || decide (c.toNat = 95) || decide (c.toNat = 46) || decide (c.toNat = 58)) := by
    simp only [Tk.plain, Tk.letter, Tk.digit]
    rw [show (c == 95) = decide (c.toNat = 95) from plain_eq c 95 (by omega), show (c == 46) = decide (c.toNat = 46) from plain_eq c 46 (by omega), show (c == 58) = decide (c.toNat = 58) from plain_eq c 58 (by omega)]
  rcases (show (c.toNat < 46 ∨ c.toNat = 47) ∨ (c.toNat = 46) ∨ (48 ≤ c.toNat ∧ c.toNat ≤ 57) ∨ (c.toNat = 58) ∨ ((58 < c.toNat ∧ c.toNat < 95) ∨ c.toNat = 96) ∨ (c.toNat = 95) ∨ (97 ≤ c.toNat ∧ c.toNat ≤ 122) ∨ (122 < c.toNat) by omega) with h | h | h | h | h | h | h | h
  · have D1 : decide ((97 : Int) ≤ (c.toNat : Int)) = false := by simp; omega
    have D2 : decide ((c.toNat : Int) ≤ (122 : Int)) = true := by simp; omega
    have D3 : decide ((48 : Int) ≤ (c.toNat : Int)) = false := by simp; omega
    have D4 : decide ((c.toNat : Int) ≤ (57 : Int)) = true := by simp; omega
    have X95 : ((c.toNat : Int) == (95 : Int)) = false := by simp; omega
    have X46 : ((c.toNat : Int) == (46 : Int)) = false := by simp; omega
    have X58 : ((c.toNat : Int) == (58 : Int)) = false := by simp; omega
    have HV := Lib.hid (show Tk.plain c = false by rw [pe]; simp; try omega)
    clear pe h
    go_enter Tryd.func59, Tryd.ntmps59
    go_wp2
    go_ret
    exact ⟨ret_bool (by rw [HV.out]), rfl⟩
  · have D1 : decide ((97 : Int) ≤ (c.toNat : Int)) = false := by simp; omega
    have D2 : decide ((c.toNat : Int) ≤ (122 : Int)) = true := by simp; omega
    have D3 : decide ((48 : Int) ≤ (c.toNat : Int)) = false := by simp; omega
    have D4 : decide ((c.toNat : Int) ≤ (57 : Int)) = true := by simp; omega
    have X95 : ((c.toNat : Int) == (95 : Int)) = false := by simp; omega
    have X46 : ((c.toNat : Int) == (46 : Int)) = true := by simp; omega
    have X58 : ((c.toNat : Int) == (58 : Int)) = false := by simp; omega
    have HV := Lib.hid (show Tk.plain c = true by rw [pe]; simp; try omega)
    clear pe h
    go_enter Tryd.func59, Tryd.ntmps59
    go_wp2
    go_ret
    exact ⟨ret_bool (by rw [HV.out]), rfl⟩
  · have D1 : decide ((97 : Int) ≤ (c.toNat : Int)) = false := by simp; omega
    have D2 : decide ((c.toNat : Int) ≤ (122 : Int)) = true := by simp; omega
    have D3 : decide ((48 : Int) ≤ (c.toNat : Int)) = true := by simp; omega
    have D4 : decide ((c.toNat : Int) ≤ (57 : Int)) = true := by simp; omega
    have X95 : ((c.toNat : Int) == (95 : Int)) = false := by simp; omega
    have X46 : ((c.toNat : Int) == (46 : Int)) = false := by simp; omega
    have X58 : ((c.toNat : Int) == (58 : Int)) = false := by simp; omega
    have HV := Lib.hid (show Tk.plain c = true by rw [pe]; simp; try omega)
    clear pe h
    go_enter Tryd.func59, Tryd.ntmps59
    go_wp2
    go_ret
    exact ⟨ret_bool (by rw [HV.out]), rfl⟩
  · have D1 : decide ((97 : Int) ≤ (c.toNat : Int)) = false := by simp; omega
    have D2 : decide ((c.toNat : Int) ≤ (122 : Int)) = true := by simp; omega
    have D3 : decide ((48 : Int) ≤ (c.toNat : Int)) = true := by simp; omega
    have D4 : decide ((c.toNat : Int) ≤ (57 : Int)) = false := by simp; omega
    have X95 : ((c.toNat : Int) == (95 : Int)) = false := by simp; omega
    have X46 : ((c.toNat : Int) == (46 : Int)) = false := by simp; omega
    have X58 : ((c.toNat : Int) == (58 : Int)) = true := by simp; omega
    have HV := Lib.hid (show Tk.plain c = true by rw [pe]; simp; try omega)
    clear pe h
    go_enter Tryd.func59, Tryd.ntmps59
    go_wp2
    go_ret
    exact ⟨ret_bool (by rw [HV.out]), rfl⟩
  · have D1 : decide ((97 : Int) ≤ (c.toNat : Int)) = false := by simp; omega
    have D2 : decide ((c.toNat : Int) ≤ (122 : Int)) = true := by simp; omega
    have D3 : decide ((48 : Int) ≤ (c.toNat : Int)) = true := by simp; omega
    have D4 : decide ((c.toNat : Int) ≤ (57 : Int)) = false := by simp; omega
    have X95 : ((c.toNat : Int) == (95 : Int)) = false := by simp; omega
    have X46 : ((c.toNat : Int) == (46 : Int)) = false := by simp; omega
    have X58 : ((c.toNat : Int) == (58 : Int)) = false := by simp; omega
    have HV := Lib.hid (show Tk.plain c = false by rw [pe]; simp; try omega)
    clear pe h
    go_enter Tryd.func59, Tryd.ntmps59
    go_wp2
    go_ret
    exact ⟨ret_bool (by rw [HV.out]), rfl⟩
  · have D1 : decide ((97 : Int) ≤ (c.toNat : Int)) = false := by simp; omega
    have D2 : decide ((c.toNat : Int) ≤ (122 : Int)) = true := by simp; omega
    have D3 : decide ((48 : Int) ≤ (c.toNat : Int)) = true := by simp; omega
    have D4 : decide ((c.toNat : Int) ≤ (57 : Int)) = false := by simp; omega
    have X95 : ((c.toNat : Int) == (95 : Int)) = true := by simp; omega
    have X46 : ((c.toNat : Int) == (46 : Int)) = false := by simp; omega
    have X58 : ((c.toNat : Int) == (58 : Int)) = false := by simp; omega
    have HV := Lib.hid (show Tk.plain c = true by rw [pe]; simp; try omega)
    clear pe h
    go_enter Tryd.func59, Tryd.ntmps59
    go_wp2
    go_ret
    exact ⟨ret_bool (by rw [HV.out]), rfl⟩
  · have D1 : decide ((97 : Int) ≤ (c.toNat : Int)) = true := by simp; omega
    have D2 : decide ((c.toNat : Int) ≤ (122 : Int)) = true := by simp; omega
    have D3 : decide ((48 : Int) ≤ (c.toNat : Int)) = true := by simp; omega
    have D4 : decide ((c.toNat : Int) ≤ (57 : Int)) = false := by simp; omega
    have X95 : ((c.toNat : Int) == (95 : Int)) = false := by simp; omega
    have X46 : ((c.toNat : Int) == (46 : Int)) = false := by simp; omega
    have X58 : ((c.toNat : Int) == (58 : Int)) = false := by simp; omega
    have HV := Lib.hid (show Tk.plain c = true by rw [pe]; simp; try omega)
    clear pe h
    go_enter Tryd.func59, Tryd.ntmps59
    go_wp2
    go_ret
    exact ⟨ret_bool (by rw [HV.out]), rfl⟩
  · have D1 : decide ((97 : Int) ≤ (c.toNat : Int)) = true := by simp; omega
    have D2 : decide ((c.toNat : Int) ≤ (122 : Int)) = false := by simp; omega
    have D3 : decide ((48 : Int) ≤ (c.toNat : Int)) = true := by simp; omega
    have D4 : decide ((c.toNat : Int) ≤ (57 : Int)) = false := by simp; omega
    have X95 : ((c.toNat : Int) == (95 : Int)) = false := by simp; omega
    have X46 : ((c.toNat : Int) == (46 : Int)) = false := by simp; omega
    have X58 : ((c.toNat : Int) == (58 : Int)) = false := by simp; omega
    have HV := Lib.hid (show Tk.plain c = false by rw [pe]; simp; try omega)
    clear pe h
    go_enter Tryd.func59, Tryd.ntmps59
    go_wp2
    go_ret
    exact ⟨ret_bool (by rw [HV.out]), rfl⟩

/-! ### Line -/
set_option maxHeartbeats 1000000 in
theorem rline_out (s : ByteArray) (a : Int) (w : World) (h : a < 0 ∨ (s.size : Int) < a) :
    Calls Tryd.prog 42 #[.string s, .int .i64 a] w fun e w' => e = .returned (.tuple #[.int .i64 0, .int .i64 0]) ∧ w = w' := by
  rcases h with h | h
  · go_enter Tryd.func42, Tryd.ntmps42
    go_wp2
    go_ret2
    exact ⟨rfl, rfl⟩
  · have h' : ¬ a < 0 := by omega
    go_enter Tryd.func42, Tryd.ntmps42
    go_wp2
    go_ret2
    exact ⟨rfl, rfl⟩
theorem lineAt_step (s : ByteArray) (k : Nat) (h : k < s.size) : lineAtN s (k + 1) = if bt s k == 10 then lineAtN s k + 1 else lineAtN s k := by
  unfold lineAtN bt
  rw [List.take_succ_eq_append_getElem (by simpa using h), Tk.lineN_snoc, List.getD_eq_getElem?_getD, List.getElem?_eq_getElem (by simpa using h)]
  rfl

set_option maxHeartbeats 1000000 in
theorem rline_any (s : ByteArray) (a : Nat) (w : World) (hs : s.size ≤ 140737488355328) (ha : a ≤ s.size) :
    Calls Tryd.prog 42 #[.string s, .int .i64 (a : Int)] w fun e w' => e = .returned (.tuple #[.int .i64 (lineAtN s a : Nat), .int .i64 (colAtN s a : Nat)]) ∧ w = w' := by
  have hg := get_bt s
  go_enter Tryd.func42, Tryd.ntmps42
  go_wp2
  go_loop [6, 7, 8] (fun l c i => ∃ k : Nat, k ≤ a ∧ i = .int .i64 k ∧ l = .int .i64 (lineAtN s k : Nat) ∧ c = .int .i64 (colAtN s k : Nat)) (fun _ _ i => a - (intOf i).toNat)
  case atStart => exact ⟨0, by omega, rfl, rfl, rfl⟩
  case round =>
    obtain ⟨k, hk, rfl, rfl, rfl⟩ := hrel
    have l1 := lineAtN_le s k
    have l2 := (colAtN_le s k (by omega)).1
    by_cases hlt : k < a
    · have e1 := lineAt_step s k (by omega)
      have e2 := colAt_step s k (by omega)
      by_cases hc : bt s k = 10
      · have E1 : (((bt s k).toNat : Int) == (10 : Int)) = true := by rw [hc]; rfl
        rw [if_pos (by rw [hc]; decide)] at e1 e2
        have H1 := Lib.hid e1
        have H2 := Lib.hid e2
        clear e1 e2 hc
        go_wp2
        go_round
        case rel => exact ⟨k + 1, by omega, by go_num, by rw [H1.out]; rfl, by rw [H2.out]; rfl⟩
        case measure => simp [intOf]; omega
      · have E1 : (((bt s k).toNat : Int) == (10 : Int)) = false := ieq _ 10 (by omega) hc
        rw [if_neg (by simpa using hc)] at e1 e2
        have H1 := Lib.hid e1
        have H2 := Lib.hid e2
        clear e1 e2 hc
        go_wp2
        go_round
        case rel => exact ⟨k + 1, by omega, by go_num, by rw [H1.out], by rw [H2.out]; rfl⟩
        case measure => simp [intOf]; omega
    · obtain rfl : k = a := by omega
      go_wp2
      go_ret2
      exact ⟨rfl, rfl⟩
end Go.Proofs.YtihigfpikiaaiaaDoor
