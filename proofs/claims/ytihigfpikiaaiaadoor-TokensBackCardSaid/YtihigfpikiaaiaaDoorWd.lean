/- The walks of token and Next. -/
import Derived.Test.YtihigfpikiaaiaaDoorWc
import Derived.Handy
namespace Go.Proofs.YtihigfpikiaaiaaDoor
open Go.RowKit

/-- the kind of the token at an index, and the index behind it -/
def tkKind (s : ByteArray) (a : Nat) : Nat := (Tk.tok (s.data.toList.drop a)).1
def tkEnd (s : ByteArray) (a : Nat) : Nat := a + (Tk.tok (s.data.toList.drop a)).2
theorem tk_letter (s : ByteArray) (a : Nat) (ha : a < s.size) (h : Tk.letter (bt s a) = true) : tkKind s a = 1 ∧ tkEnd s a = runTo Tk.part s (a + 1) := by
  unfold tkKind tkEnd runTo
  rw [drop_bt s a ha]
  simp only [Tk.tok, h, if_true, true_and]
  omega
theorem tail3_at (s : ByteArray) (n : Nat) : Tk.tail3 (s.data.toList.drop n) = if n + 1 < s.size ∧ bt s n = 58 ∧ Tk.digit (bt s (n + 1)) = true then 1 + Tk.run Tk.digit (s.data.toList.drop (n + 1)) else 0 := by
  rw [Tk.tail3_eq, Tk.getD_drop', Tk.getD_drop', List.drop_drop, Nat.add_zero]
  simp only [List.length_drop, Array.length_toList]
  have : s.data.size = s.size := rfl
  unfold bt
  by_cases h : s.data.toList.getD n 0 = 58 ∧ 1 < s.data.size - n ∧ Tk.digit (s.data.toList.getD (n + 1) 0) = true
  · rw [if_pos h, if_pos ⟨by omega, h.1, h.2.2⟩]
  · rw [if_neg h, if_neg (fun h' => h ⟨h'.2.1, by omega, h'.2.2⟩)]
theorem tk_lit (s : ByteArray) (a n : Nat) (ha : a < s.size) (hl : Tk.letter (bt s a) = false) (hd : Tk.digit (bt s a) = true) (hn : n = runTo Tk.digit s a)
    (h : n + 1 < s.size ∧ bt s n = 58 ∧ Tk.digit (bt s (n + 1)) = true) : tkKind s a = 3 ∧ tkEnd s a = runTo Tk.digit s (n + 1) := by
  have hr : 1 + Tk.run Tk.digit (s.data.toList.drop (a + 1)) = Tk.run Tk.digit (s.data.toList.drop a) := by rw [run_step _ s a ha hd]
  have ht := tail3_at s n
  rw [if_pos h] at ht
  unfold tkKind tkEnd
  rw [drop_bt s a ha]
  unfold runTo at hn
  simp only [Tk.tok, hl, hd, Bool.false_eq_true, if_false, if_true, hr]
  rw [← drop_bt s a ha, List.drop_drop, ← hn, ht, if_neg (by omega)]
  unfold runTo
  simp only [true_and]
  omega
theorem tk_num (s : ByteArray) (a n : Nat) (ha : a < s.size) (hl : Tk.letter (bt s a) = false) (hd : Tk.digit (bt s a) = true) (hn : n = runTo Tk.digit s a)
    (h : ¬ (n + 1 < s.size ∧ bt s n = 58 ∧ Tk.digit (bt s (n + 1)) = true)) : tkKind s a = 2 ∧ tkEnd s a = n := by
  have hr : 1 + Tk.run Tk.digit (s.data.toList.drop (a + 1)) = Tk.run Tk.digit (s.data.toList.drop a) := by rw [run_step _ s a ha hd]
  have ht := tail3_at s n
  rw [if_neg h] at ht
  unfold tkKind tkEnd
  rw [drop_bt s a ha]
  unfold runTo at hn
  simp only [Tk.tok, hl, hd, Bool.false_eq_true, if_false, if_true, hr]
  rw [← drop_bt s a ha, List.drop_drop, ← hn, ht, if_pos rfl]
  exact ⟨rfl, hn.symm⟩
theorem tk_sign (s : ByteArray) (a : Nat) (ha : a < s.size) (hl : Tk.letter (bt s a) = false) (hd : Tk.digit (bt s a) = false) :
    tkKind s a = (if Tk.sign (s.data.toList.drop a) = 0 then 0 else 4) ∧ tkEnd s a = a + Tk.sign (s.data.toList.drop a) := by
  unfold tkKind tkEnd
  rw [drop_bt s a ha]
  simp only [Tk.tok, hl, hd, Bool.false_eq_true, if_false]
  split
  · rename_i h
    rw [h]
    exact ⟨rfl, rfl⟩
  · exact ⟨rfl, rfl⟩
theorem tkEnd_le (s : ByteArray) (a : Nat) (h : a ≤ s.size) : tkEnd s a ≤ s.size := by
  unfold tkEnd
  have := Tk.tok_le (s.data.toList.drop a)
  simp at this
  omega
theorem tkEnd_ge (s : ByteArray) (a : Nat) : a ≤ tkEnd s a := by unfold tkEnd; omega
theorem tkEnd_gt (s : ByteArray) (a : Nat) : 0 < tkKind s a ↔ a < tkEnd s a := by
  unfold tkEnd tkKind
  rw [Tk.tok_pos]
  omega
theorem tkKind_le (s : ByteArray) (a : Nat) : tkKind s a ≤ 4 := by
  unfold tkKind Tk.tok
  split
  · simp
  · split
    · simp
    · split
      · simp only []
        split <;> simp
      · split <;> simp
/-- a token as a value -/
def tokV (k a e : Nat) : Value := .agg #[.int .u8 (k : Int), .int .i64 (a : Int), .int .i64 (e : Int)]

set_option maxHeartbeats 400000 in
theorem token_letter (s : ByteArray) (a : Nat) (w : World) (hs : s.size ≤ 140737488355328) (h0 : a < s.size) (hl : Tk.letter (bt s a) = true) :
    Calls Tryd.prog 48 #[.string s, .int .i64 (a : Int)] w fun e w' => e = .returned (tokV (tkKind s a) a (tkEnd s a)) ∧ Below w.heap.size w w' := by
  have hg := get_bt s
  obtain ⟨hk, he⟩ := tk_letter s a h0 hl
  have HK := Lib.hid hk
  have HE := Lib.hid he
  clear hk he
  go_enter Tryd.func48, Tryd.ntmps48
  go_wp2_with (go_at_call 63; refine (letter_any _ _).mono ?_; rintro e w' ⟨rfl, rfl⟩)
  go_loop [5] (fun i => ∃ k : Nat, a + 1 ≤ k ∧ k ≤ s.size ∧ i = .int .i64 k ∧ runTo Tk.part s k = runTo Tk.part s (a + 1)) (fun i => s.size - (intOf i).toNat)
  case atStart => exact ⟨a + 1, by omega, by omega, by go_num, rfl⟩
  case round =>
    obtain ⟨k, hk0, hk, rfl, hr⟩ := hrel
    have HR := Lib.hid hr
    clear hr
    have fin : ∀ k : Nat, k = runTo Tk.part s (a + 1) → Value.agg #[.int .u8 1, .int .i64 (a : Int), .int .i64 (k : Int)] = tokV (tkKind s a) a (tkEnd s a) := fun k hk => by
      unfold tokV; rw [HK.out, HE.out, hk]; rfl
    have FIN := Lib.hid fin
    clear fin
    by_cases hlt : k < s.size
    · by_cases hd : Tk.part (bt s k) = true
      · go_wp2_with (go_at_call 64; refine (part_any _ _).mono ?_; rintro e w' ⟨rfl, rfl⟩)
        go_round
        case rel => exact ⟨k + 1, by omega, by omega, by go_num, by rw [runTo_step _ s k hlt hd]; exact HR.out⟩
        case measure => simp [intOf]; omega
      · have hd' : Tk.part (bt s k) = false := by simpa using hd
        clear hd
        go_wp2_with (go_at_call 64; refine (part_any _ _).mono ?_; rintro e w' ⟨rfl, rfl⟩)
        go_returns
        exact ⟨by rw [← FIN.out k (by rw [← HR.out, ← runTo_stop _ s k (fun _ => hd')])], by go_grown⟩
    · go_wp2
      go_returns
      exact ⟨by rw [← FIN.out k (by rw [← HR.out, ← runTo_stop _ s k (fun h => absurd h hlt)])], by go_grown⟩

theorem digits_succ (s : ByteArray) (k : Nat) (w : World) (hs : s.size ≤ 140737488355328) (h0 : k + 1 ≤ s.size) :
    Calls Tryd.prog 51 #[.string s, .int .i64 ((k : Int) + 1)] w fun e w' => e = .returned (.int .i64 (runTo Tk.digit s (k + 1) : Nat)) ∧ w = w' := digits_any s (k + 1) w hs h0

set_option maxHeartbeats 400000 in
theorem token_lit (s : ByteArray) (a : Nat) (w : World) (hs : s.size ≤ 140737488355328) (h0 : a < s.size) (hl : Tk.letter (bt s a) = false) (hd : Tk.digit (bt s a) = true)
    (h1 : runTo Tk.digit s a + 1 < s.size) (h2 : bt s (runTo Tk.digit s a) = 58) (h3 : Tk.digit (bt s (runTo Tk.digit s a + 1)) = true) :
    Calls Tryd.prog 48 #[.string s, .int .i64 (a : Int)] w fun e w' => e = .returned (tokV (tkKind s a) a (tkEnd s a)) ∧ Below w.heap.size w w' := by
  have hg := get_bt s
  obtain ⟨hk, he⟩ := tk_lit s a _ h0 hl hd rfl ⟨h1, h2, h3⟩
  have e58 : (((bt s (runTo Tk.digit s a)).toNat : Int) == 58) = true := by rw [h2]; rfl
  have fin : Value.agg #[.int .u8 3, .int .i64 (a : Int), .int .i64 (runTo Tk.digit s (runTo Tk.digit s a + 1) : Nat)] = tokV (tkKind s a) a (tkEnd s a) := by
    unfold tokV; rw [hk, he]; rfl
  have FIN := Lib.hid fin
  clear hk he h2 fin
  have hlt : runTo Tk.digit s a < s.size := by omega
  have hle := runTo_le Tk.digit s (runTo Tk.digit s a + 1) (by omega)
  go_enter Tryd.func48, Tryd.ntmps48
  go_wp2_with (first | (go_at_call 63; refine (letter_any _ _).mono ?_; rintro e w' ⟨rfl, rfl⟩) | (go_at_call 65; refine (digit_any _ _).mono ?_; rintro e w' ⟨rfl, rfl⟩) | (go_at_call 51; ((with_reducible refine (digits_any _ _ _ hs (by omega)).mono ?_); rintro e w' ⟨rfl, rfl⟩)) | (go_at_call 51; ((with_reducible refine (digits_succ _ _ _ hs (by omega)).mono ?_); rintro e w' ⟨rfl, rfl⟩)))
  go_returns
  exact ⟨by rw [← FIN.out], by go_grown⟩

set_option maxHeartbeats 400000 in
theorem token_num (s : ByteArray) (a : Nat) (w : World) (hs : s.size ≤ 140737488355328) (h0 : a < s.size) (hl : Tk.letter (bt s a) = false) (hd : Tk.digit (bt s a) = true)
    (h : ¬ (runTo Tk.digit s a + 1 < s.size ∧ bt s (runTo Tk.digit s a) = 58 ∧ Tk.digit (bt s (runTo Tk.digit s a + 1)) = true)) :
    Calls Tryd.prog 48 #[.string s, .int .i64 (a : Int)] w fun e w' => e = .returned (tokV (tkKind s a) a (tkEnd s a)) ∧ Below w.heap.size w w' := by
  have hg := get_bt s
  obtain ⟨hk, he⟩ := tk_num s a _ h0 hl hd rfl h
  have fin : Value.agg #[.int .u8 2, .int .i64 (a : Int), .int .i64 (runTo Tk.digit s a : Nat)] = tokV (tkKind s a) a (tkEnd s a) := by
    unfold tokV; rw [hk, he]; rfl
  have FIN := Lib.hid fin
  clear hk he fin
  have hle := runTo_le Tk.digit s a (by omega)
  by_cases h1 : runTo Tk.digit s a + 1 < s.size
  · have hlt : runTo Tk.digit s a < s.size := by omega
    by_cases h2 : bt s (runTo Tk.digit s a) = 58
    · have h3 : Tk.digit (bt s (runTo Tk.digit s a + 1)) = false := by
        cases hh : Tk.digit (bt s (runTo Tk.digit s a + 1)) with
        | false => rfl
        | true => exact absurd ⟨h1, h2, hh⟩ h
      have e58 : (((bt s (runTo Tk.digit s a)).toNat : Int) == 58) = true := by rw [h2]; rfl
      clear h2 h
      go_enter Tryd.func48, Tryd.ntmps48
      go_wp2_with (first | (go_at_call 63; refine (letter_any _ _).mono ?_; rintro e w' ⟨rfl, rfl⟩) | (go_at_call 65; refine (digit_any _ _).mono ?_; rintro e w' ⟨rfl, rfl⟩) | (go_at_call 51; ((with_reducible refine (digits_any _ _ _ hs (by omega)).mono ?_); rintro e w' ⟨rfl, rfl⟩)) | (go_at_call 51; ((with_reducible refine (digits_succ _ _ _ hs (by omega)).mono ?_); rintro e w' ⟨rfl, rfl⟩)))
      go_returns
      exact ⟨by rw [← FIN.out], by go_grown⟩
    · have e58 : (((bt s (runTo Tk.digit s a)).toNat : Int) == 58) = false := by rw [show (58 : Int) = ((58 : Nat) : Int) from rfl, byte_eq _ _ (by omega)]; simpa using h2
      clear h2 h
      go_enter Tryd.func48, Tryd.ntmps48
      go_wp2_with (first | (go_at_call 63; refine (letter_any _ _).mono ?_; rintro e w' ⟨rfl, rfl⟩) | (go_at_call 65; refine (digit_any _ _).mono ?_; rintro e w' ⟨rfl, rfl⟩) | (go_at_call 51; ((with_reducible refine (digits_any _ _ _ hs (by omega)).mono ?_); rintro e w' ⟨rfl, rfl⟩)) | (go_at_call 51; ((with_reducible refine (digits_succ _ _ _ hs (by omega)).mono ?_); rintro e w' ⟨rfl, rfl⟩)))
      go_returns
      exact ⟨by rw [← FIN.out], by go_grown⟩
  · clear h
    go_enter Tryd.func48, Tryd.ntmps48
    go_wp2_with (first | (go_at_call 63; refine (letter_any _ _).mono ?_; rintro e w' ⟨rfl, rfl⟩) | (go_at_call 65; refine (digit_any _ _).mono ?_; rintro e w' ⟨rfl, rfl⟩) | (go_at_call 51; ((with_reducible refine (digits_any _ _ _ hs (by omega)).mono ?_); rintro e w' ⟨rfl, rfl⟩)) | (go_at_call 51; ((with_reducible refine (digits_succ _ _ _ hs (by omega)).mono ?_); rintro e w' ⟨rfl, rfl⟩)))
    go_returns
    exact ⟨by rw [← FIN.out], by go_grown⟩

set_option maxHeartbeats 400000 in
theorem token_sign (s : ByteArray) (a : Nat) (w : World) (hs : s.size ≤ 140737488355328) (h0 : a < s.size) (hl : Tk.letter (bt s a) = false) (hd : Tk.digit (bt s a) = false) :
    Calls Tryd.prog 48 #[.string s, .int .i64 (a : Int)] w fun e w' => e = .returned (tokV (tkKind s a) a (tkEnd s a)) ∧ Below w.heap.size w w' := by
  have hg := get_bt s
  obtain ⟨hk, he⟩ := tk_sign s a h0 hl hd
  have hle := Tk.sign_le (s.data.toList.drop a)
  have hsz : s.data.size = s.size := rfl
  simp only [List.length_drop, Array.length_toList, hsz] at hle
  by_cases hz : Tk.sign (s.data.toList.drop a) = 0
  · have fin : Value.agg #[.int .u8 0, .int .i64 (a : Int), .int .i64 (a : Int)] = tokV (tkKind s a) a (tkEnd s a) := by
      unfold tokV; rw [hk, he, if_pos hz, hz]; rfl
    have FIN := Lib.hid fin
    have HZ : ¬ (0 : Int) < ((Tk.sign (s.data.toList.drop a) : Nat) : Int) := by omega
    clear hk he fin hz
    go_enter Tryd.func48, Tryd.ntmps48
    go_wp2_with (first | (go_at_call 63; refine (letter_any _ _).mono ?_; rintro e w' ⟨rfl, rfl⟩) | (go_at_call 65; refine (digit_any _ _).mono ?_; rintro e w' ⟨rfl, rfl⟩) | (go_at_call 66; refine (sign_any _ _ _ h0).mono ?_; rintro e w' ⟨rfl, rfl⟩))
    go_returns
    exact ⟨by rw [← FIN.out], by go_grown⟩
  · have fin : Value.agg #[.int .u8 4, .int .i64 (a : Int), .int .i64 ((a : Int) + (Tk.sign (s.data.toList.drop a) : Nat))] = tokV (tkKind s a) a (tkEnd s a) := by
      unfold tokV; rw [hk, he, if_neg hz]; rfl
    have FIN := Lib.hid fin
    have HZ : (0 : Int) < ((Tk.sign (s.data.toList.drop a) : Nat) : Int) := by omega
    clear hk he fin hz
    go_enter Tryd.func48, Tryd.ntmps48
    go_wp2_with (first | (go_at_call 63; refine (letter_any _ _).mono ?_; rintro e w' ⟨rfl, rfl⟩) | (go_at_call 65; refine (digit_any _ _).mono ?_; rintro e w' ⟨rfl, rfl⟩) | (go_at_call 66; refine (sign_any _ _ _ h0).mono ?_; rintro e w' ⟨rfl, rfl⟩))
    go_returns
    exact ⟨by rw [← FIN.out], by go_grown⟩

theorem token_any (s : ByteArray) (a : Nat) (w : World) (hs : s.size ≤ 140737488355328) (h0 : a < s.size) :
    Calls Tryd.prog 48 #[.string s, .int .i64 (a : Int)] w fun e w' => e = .returned (tokV (tkKind s a) a (tkEnd s a)) ∧ Below w.heap.size w w' := by
  cases hl : Tk.letter (bt s a) with
  | true => exact token_letter s a w hs h0 hl
  | false =>
    cases hd : Tk.digit (bt s a) with
    | false => exact token_sign s a w hs h0 hl hd
    | true =>
      by_cases h : runTo Tk.digit s a + 1 < s.size ∧ bt s (runTo Tk.digit s a) = 58 ∧ Tk.digit (bt s (runTo Tk.digit s a + 1)) = true
      · exact token_lit s a w hs h0 hl hd h.1 h.2.1 h.2.2
      · exact token_num s a w hs h0 hl hd h
end Go.Proofs.YtihigfpikiaaiaaDoor
