/- The walks of Text, Value and Parts. -/
import Derived.Test.YtihigfpikiaaiaaDoorWg
import Derived.Test.YtihigfpikiaaiaaDoorPb
import Derived.Deep.QuietTactic
import Derived.BigQuiet
namespace Go.Proofs.YtihigfpikiaaiaaDoor
open Go.RowKit

set_option maxHeartbeats 400000 in
theorem text_in (s : ByteArray) (k : Int) (a e : Nat) (w : World) (h1 : a ≤ e) (h2 : e ≤ s.size) :
    Calls Tryd.prog 13 #[.string s, .agg #[.int .u8 k, .int .i64 (a : Int), .int .i64 (e : Int)]] w fun r w' => r = .returned (.string (s.extract a e)) ∧ Below w.heap.size w w' := by
  go_enter Tryd.func13, Tryd.ntmps13
  go_wp2
  go_ret
  exact ⟨rfl, by go_grown⟩

set_option maxHeartbeats 400000 in
theorem text_out (s : ByteArray) (k a e : Int) (w : World) (h : a < 0 ∨ e < a ∨ (s.size : Int) < e) :
    Calls Tryd.prog 13 #[.string s, .agg #[.int .u8 k, .int .i64 a, .int .i64 e]] w fun r w' => r = .returned (.string ⟨#[]⟩) ∧ Below w.heap.size w w' := by
  by_cases h1 : a < 0
  · go_enter Tryd.func13, Tryd.ntmps13
    go_wp2
    go_ret
    exact ⟨rfl, by go_grown⟩
  · by_cases h2 : e < a
    · go_enter Tryd.func13, Tryd.ntmps13
      go_wp2
      go_ret
      exact ⟨rfl, by go_grown⟩
    · have h3 : (s.size : Int) < e := by omega
      go_enter Tryd.func13, Tryd.ntmps13
      go_wp2
      go_ret
      exact ⟨rfl, by go_grown⟩

/-! ### Value -/
def valN (s : ByteArray) : Nat := (Tk.value s.data.toList).1
def valE (s : ByteArray) : Nat := (Tk.value s.data.toList).2
def numTo (s : ByteArray) (k : Nat) : Nat := Tk.num (s.data.toList.take k)
theorem size_list (s : ByteArray) : s.data.toList.length = s.size := by simp
theorem numTo_step (s : ByteArray) (k : Nat) (h : k < s.size) : numTo s (k + 1) = 10 * numTo s k + ((bt s k).toNat - 48) := by
  unfold numTo bt
  rw [List.take_succ_eq_append_getElem (by simpa using h), Tk.num_snoc, List.getD_eq_getElem?_getD, List.getElem?_eq_getElem (by simpa using h)]
  rfl
theorem numTo_le (s : ByteArray) (k : Nat) : numTo s k ≤ Tk.num s.data.toList := Tk.num_take _ _
theorem numTo_all (s : ByteArray) : numTo s s.size = Tk.num s.data.toList := by
  unfold numTo
  rw [List.take_of_length_le (by simp)]
theorem all_run (p : UInt8 → Bool) (l : List UInt8) : l.all p = true ↔ Tk.run p l = l.length := by
  have h := Tk.run_le p l
  constructor
  · intro ha
    rcases Nat.lt_or_ge (Tk.run p l) l.length with hlt | hge
    · have := Tk.run_not p l l.length hlt (Nat.le_refl _)
      rw [List.take_length, ha] at this
      cases this
    · omega
  · intro ha
    have := Tk.run_all p l l.length (by omega)
    rwa [List.take_length] at this
theorem empty_iff (s : ByteArray) : s.data.toList = [] ↔ s.size = 0 := by
  rw [← List.length_eq_zero_iff, size_list]

theorem ne_empty (s : ByteArray) (h : s.size ≠ 0) : s.toList.isEmpty = false ∧ ¬ s.toList = [] := by
  rw [Lib.toList_data]
  have : ¬ s.data.toList = [] := fun e => h ((empty_iff s).1 e)
  exact ⟨by simpa using this, this⟩
theorem digits_zero (s : ByteArray) (w : World) (hs : s.size ≤ 140737488355328) :
    Calls Tryd.prog 51 #[.string s, .int .i64 0] w fun e w' => e = .returned (.int .i64 (runTo Tk.digit s 0 : Nat)) ∧ w = w' := digits_any s 0 w hs (by omega)

set_option maxHeartbeats 400000 in
theorem value_bad (s : ByteArray) (w : World) (hs : s.size ≤ 140737488355328) (h : Tk.numeral s.data.toList = false) :
    Calls Tryd.prog 29 #[.string s] w fun e w' => e = .returned (.tuple #[.int .i64 (valN s : Nat), .int .i64 (valE s : Nat)]) ∧ w = w' := by
  have hv : Tk.value s.data.toList = (0, 280) := by unfold Tk.value; rw [h]; rfl
  have fin : Value.tuple #[.int .i64 0, .int .i64 280] = .tuple #[.int .i64 (valN s : Nat), .int .i64 (valE s : Nat)] := by unfold valN valE; rw [hv]; rfl
  have FIN := Lib.hid fin
  clear hv fin
  by_cases he : s.size = 0
  · obtain rfl : s = ⟨#[]⟩ := by
      have := (empty_iff s).2 he
      obtain ⟨⟨l⟩⟩ := s
      simp at this
      rw [this]
    clear h he
    go_enter Tryd.func29, Tryd.ntmps29
    go_wp2
    go_ret2
    exact ⟨congrArg Ending.returned FIN.out, rfl⟩
  · obtain ⟨e1, e2⟩ := ne_empty s he
    have hr : runTo Tk.digit s 0 < s.size := by
      have h2 : ¬ s.data.toList.all Tk.digit = true := by
        intro ha
        have : s.data.toList.isEmpty = false := by rw [← Lib.toList_data]; exact e1
        simp only [Tk.numeral, ha, Bool.and_true, this] at h
        cases h
      rw [all_run, size_list] at h2
      have := Tk.run_le Tk.digit s.data.toList
      rw [size_list] at this
      unfold runTo
      simp only [List.drop_zero, Nat.zero_add]
      omega
    clear h he
    go_enter Tryd.func29, Tryd.ntmps29
    go_wp2_with (go_at_call 51; refine (digits_zero s _ hs).mono ?_; rintro e w' ⟨rfl, rfl⟩)
    go_ret2
    exact ⟨congrArg Ending.returned FIN.out, rfl⟩

theorem numeral_facts (s : ByteArray) (h : Tk.numeral s.data.toList = true) : s.size ≠ 0 ∧ runTo Tk.digit s 0 = s.size ∧ ∀ k, k < s.size → Tk.digit (bt s k) = true := by
  simp only [Tk.numeral, Bool.and_eq_true, Bool.not_eq_true', List.isEmpty_eq_false_iff] at h
  have hr := (all_run _ _).1 h.2
  rw [size_list] at hr
  refine ⟨fun e => h.1 ((empty_iff s).2 e), by unfold runTo; simpa using hr, fun k hk => ?_⟩
  exact Tk.run_at Tk.digit s.data.toList k (by omega)
theorem digit_bounds (c : UInt8) (h : Tk.digit c = true) : 48 ≤ c.toNat ∧ c.toNat ≤ 57 := by
  simpa [Tk.digit] using h

set_option maxHeartbeats 400000 in
theorem value_num (s : ByteArray) (w : World) (hs : s.size ≤ 140737488355328) (h : Tk.numeral s.data.toList = true) :
    Calls Tryd.prog 29 #[.string s] w fun e w' => e = .returned (.tuple #[.int .i64 (valN s : Nat), .int .i64 (valE s : Nat)]) ∧ w = w' := by
  obtain ⟨h0, hr, hd⟩ := numeral_facts s h
  obtain ⟨e1, e2⟩ := ne_empty s h0
  have hv : Tk.value s.data.toList = if 1000000000 < Tk.num s.data.toList then (0, 281) else (Tk.num s.data.toList, 0) := by unfold Tk.value; rw [h]; rfl
  have fin1 : 1000000000 < Tk.num s.data.toList → Value.tuple #[.int .i64 0, .int .i64 281] = .tuple #[.int .i64 (valN s : Nat), .int .i64 (valE s : Nat)] := fun hb => by
    unfold valN valE; rw [hv, if_pos hb]; rfl
  have fin2 : ¬ 1000000000 < Tk.num s.data.toList → Value.tuple #[.int .i64 (Tk.num s.data.toList : Nat), .int .i64 0] = .tuple #[.int .i64 (valN s : Nat), .int .i64 (valE s : Nat)] := fun hb => by
    unfold valN valE; rw [hv, if_neg hb]; rfl
  have FIN1 := Lib.hid fin1
  have FIN2 := Lib.hid fin2
  have HD := Lib.hid hd
  have HR := Lib.hid hr
  have hdec : decide (runTo Tk.digit s 0 < s.size) = false := by rw [hr]; simp
  have hg := get_bt s
  clear hv fin1 fin2 hd hr h h0
  go_enter Tryd.func29, Tryd.ntmps29
  go_wp2_with (go_at_call 51; refine (digits_zero s _ hs).mono ?_; rintro e w' ⟨rfl, rfl⟩)
  go_loop [4, 17] (fun n i => ∃ k : Nat, k ≤ s.size ∧ i = .int .i64 k ∧ n = .int .i64 (numTo s k : Nat) ∧ numTo s k ≤ 1000000000) (fun _ i => s.size - (intOf i).toNat)
  case atStart => exact ⟨0, by omega, rfl, rfl, by unfold numTo; simp [Tk.num]⟩
  case round =>
    obtain ⟨k, hk, rfl, rfl, hn⟩ := hrel
    by_cases hlt : k < s.size
    · obtain ⟨b1, b2⟩ := digit_bounds _ (HD.out k hlt)
      have hst := numTo_step s k hlt
      have hle := numTo_le s (k + 1)
      have HS := Lib.hid hst
      have HL := Lib.hid hle
      clear hst hle
      by_cases hbig : 1000000000 < 10 * (numTo s k : Int) + ((bt s k).toNat - 48 : Int)
      · go_wp2
        go_ret2
        exact ⟨congrArg Ending.returned (FIN1.out (by have := HS.out; have := HL.out; omega)), rfl⟩
      · go_wp2
        go_round
        case rel => exact ⟨k + 1, by omega, by go_num, by rw [HS.out]; congr 1; omega, by rw [HS.out]; omega⟩
        case measure => simp [intOf]; omega
    · obtain rfl : k = s.size := by omega
      have hal := numTo_all s
      have HAL := Lib.hid hal
      clear hal
      go_wp2
      go_ret2
      exact ⟨congrArg Ending.returned (by rw [← FIN2.out (by rw [← HAL.out]; omega), HAL.out]; rfl), rfl⟩

theorem value_any (s : ByteArray) (w : World) (hs : s.size ≤ 140737488355328) :
    Calls Tryd.prog 29 #[.string s] w fun e w' => e = .returned (.tuple #[.int .i64 (valN s : Nat), .int .i64 (valE s : Nat)]) ∧ w = w' := by
  cases h : Tk.numeral s.data.toList with
  | true => exact value_num s w hs h
  | false => exact value_bad s w hs h
end Go.Proofs.YtihigfpikiaaiaaDoor
