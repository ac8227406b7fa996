/- The walks of the reference's numeral and kind: they tell what the plain lists of bytes say; texts of at most 2^47 bytes. -/
import Derived.Test.YtihigfpikiaaiaaDoorRa
namespace Go.Proofs.YtihigfpikiaaiaaDoor
open Go.RowKit

def numeralB (s : ByteArray) : Bool := Tk.numeral s.data.toList
theorem inside_digits (s : ByteArray) : insideB s ⟨#[]⟩ false = s.data.toList.all Tk.digit := by
  unfold insideB
  congr 1
  funext c
  simp [goodB]
def partsB (s : ByteArray) : Bool := s.data.toList.all Tk.part
theorem inside_part (s : ByteArray) : insideB s ⟨#[95, 46]⟩ true = partsB s := by
  unfold insideB partsB
  congr 1
  funext c
  simp only [goodB, Tk.part, Bool.true_and]
  rw [Bool.eq_iff_iff]
  simp
  constructor
  · rintro ((h | h) | h | h) <;> simp [h]
  · rintro (((h | h) | h) | h) <;> simp [h]
theorem numeral_yes (s : ByteArray) (h : s.size ≠ 0) : numeralB s = insideB s ⟨#[]⟩ false := by
  rw [inside_digits]
  unfold numeralB Tk.numeral
  have : s.data.toList.isEmpty = false := by rw [← Lib.toList_data]; exact (ne_empty s h).1
  rw [this]
  rfl
theorem numeral_none (s : ByteArray) (h : s.size = 0) : numeralB s = false := by
  unfold numeralB
  rw [(empty_iff s).2 h]
  rfl

set_option maxHeartbeats 400000 in
theorem numeral_any (s : ByteArray) (w : World) (hs : s.size ≤ 140737488355328) :
    Calls Tryd.prog 56 #[.string s] w fun e w' => e = .returned (.bool (numeralB s)) ∧ w = w' := by
  by_cases h : s.size = 0
  · have hd : ¬ 0 < s.size := by omega
    have HN := Lib.hid (numeral_none s h)
    clear h
    go_enter Tryd.func56, Tryd.ntmps56
    go_wp2
    go_ret
    exact ⟨ret_bool (by rw [HN.out]), rfl⟩
  · have hd : 0 < s.size := by omega
    have HN := Lib.hid (numeral_yes s h)
    clear h
    go_enter Tryd.func56, Tryd.ntmps56
    go_wp2_with (go_at_call 76; refine (inside_any s ⟨#[]⟩ false _ hs (by show 0 ≤ _; omega)).mono ?_; rintro e w' ⟨rfl, rfl⟩)
    all_goals
      go_ret
      exact ⟨ret_bool (by rw [HN.out]), rfl⟩

/-! ### kind -/
def kindN (s : ByteArray) : Nat := Tk.kind s.data.toList
def litB (s : ByteArray) (k : Nat) : Bool := Tk.litAt s.data.toList k
theorem cons_bt (s : ByteArray) (h : 0 < s.size) : s.data.toList = bt s 0 :: s.data.toList.drop 1 := by
  have := drop_bt s 0 h
  simpa using this
theorem kind_word (s : ByteArray) (h : 0 < s.size) (hl : Tk.letter (bt s 0) = true) (hp : partsB s = true) : kindN s = 1 := by
  unfold kindN
  unfold partsB at hp
  rw [cons_bt s h] at hp ⊢
  rw [Tk.kind_letter _ _ hl, if_pos hp]
theorem kind_num (s : ByteArray) (h : 0 < s.size) (hn : numeralB s = true) : kindN s = 2 := by
  unfold kindN
  unfold numeralB at hn
  rw [cons_bt s h] at hn ⊢
  have hd : (bt s 0 :: s.data.toList.drop 1).all Tk.digit = true := by simpa [Tk.numeral] using hn
  have h0 : Tk.digit (bt s 0) = true := by simp only [List.all_cons, Bool.and_eq_true] at hd; exact hd.1
  rw [Tk.kind_digit _ _ h0, if_pos hd]
def signsB : List ByteArray := [⟨#[43]⟩, ⟨#[45]⟩, ⟨#[42]⟩, ⟨#[47]⟩, ⟨#[37]⟩, ⟨#[38]⟩, ⟨#[124]⟩, ⟨#[94]⟩, ⟨#[60, 60]⟩, ⟨#[62, 62]⟩, ⟨#[61, 61]⟩, ⟨#[33, 61]⟩, ⟨#[60]⟩, ⟨#[60, 61]⟩, ⟨#[126]⟩, ⟨#[63]⟩, ⟨#[58]⟩, ⟨#[61]⟩, ⟨#[44]⟩, ⟨#[64]⟩, ⟨#[40]⟩, ⟨#[41]⟩, ⟨#[91]⟩, ⟨#[93]⟩, ⟨#[123]⟩, ⟨#[125]⟩]
theorem signsB_data : signsB.map (·.data.toList) = Tk.signs := rfl
theorem kind_lit (s : ByteArray) (k : Nat) (h : 0 < s.size) (hn : numeralB s = false) (hk : k < s.size) (h1 : 1 ≤ k) (hl : litB s k = true) : kindN s = 3 := by
  have hlit : Tk.isLit s.data.toList = true := by
    simp only [Tk.isLit, List.any_eq_true, List.mem_range, Bool.and_eq_true, decide_eq_true_eq]
    exact ⟨k, by simpa using hk, h1, hl⟩
  have h0 : Tk.digit (bt s 0) = true := by
    unfold litB Tk.litAt at hl
    simp only [Bool.and_eq_true] at hl
    have hp := hl.1.2
    rw [cons_bt s h, Tk.take_cons' _ _ _ (by omega)] at hp
    simp only [Tk.numeral, List.all_cons, Bool.and_eq_true] at hp
    exact hp.2.1
  unfold kindN
  unfold numeralB at hn
  rw [cons_bt s h] at hlit hn ⊢
  have hd : (bt s 0 :: s.data.toList.drop 1).all Tk.digit = false := by simpa [Tk.numeral] using hn
  rw [Tk.kind_digit _ _ h0, hd, hlit]
  rfl
theorem kind_rest (s : ByteArray) (h : 0 < s.size) (hw : (Tk.letter (bt s 0) && partsB s) = false) (hn : numeralB s = false) (hl : ∀ j, j < s.size → 1 ≤ j → litB s j = false) :
    kindN s = if Tk.signs.contains s.data.toList then 4 else 0 := by
  have hlit : Tk.isLit s.data.toList = false := by
    simp only [Tk.isLit, List.any_eq_false, List.mem_range, Bool.and_eq_true, decide_eq_true_eq, not_and, Bool.not_eq_true]
    intro j hj h1
    exact hl j (by simpa using hj) h1
  unfold kindN
  unfold numeralB at hn
  unfold partsB at hw
  rw [cons_bt s h] at hlit hn hw ⊢
  rw [Tk.kind_cons, hw, hn, hlit]
  rfl
theorem signs_none (s : ByteArray) (h : ∀ j, j < 26 → (s.toList == (signsB.getD j ⟨#[]⟩).toList) = false) : Tk.signs.contains s.data.toList = false := by
  rw [← signsB_data, Bool.eq_false_iff]
  intro hc
  simp only [List.contains_eq_mem, decide_eq_true_eq, List.mem_map] at hc
  obtain ⟨x, hx, he⟩ := hc
  obtain ⟨j, hj, hj2⟩ := List.getElem_of_mem hx
  have h1 := h j hj
  rw [List.getD_eq_getElem?_getD, List.getElem?_eq_getElem hj, hj2, Option.getD_some, Lib.toList_data, Lib.toList_data, he] at h1
  simp at h1
theorem signs_some (s : ByteArray) (j : Nat) (hj : j < 26) (h : (s.toList == (signsB.getD j ⟨#[]⟩).toList) = true) : Tk.signs.contains s.data.toList = true := by
  rw [← signsB_data]
  have h1 : j < signsB.length := hj
  rw [List.getD_eq_getElem?_getD, List.getElem?_eq_getElem h1, Option.getD_some, Lib.toList_data, Lib.toList_data] at h
  simp only [List.contains_eq_mem, decide_eq_true_eq, List.mem_map]
  exact ⟨_, List.getElem_mem h1, (beq_iff_eq.1 h).symm⟩
theorem letter_cases (c : UInt8) : (Tk.letter c = true ∧ 97 ≤ c.toNat ∧ c.toNat ≤ 122) ∨ (Tk.letter c = false ∧ c.toNat < 97) ∨ (Tk.letter c = false ∧ 97 ≤ c.toNat ∧ 122 < c.toNat) := by
  have e : Tk.letter c = (decide (97 ≤ c.toNat) && decide (c.toNat ≤ 122)) := rfl
  rcases Nat.lt_or_ge c.toNat 97 with h | h
  · exact .inr (.inl ⟨by rw [e]; simp; omega, h⟩)
  · rcases Nat.lt_or_ge 122 c.toNat with h2 | h2
    · exact .inr (.inr ⟨by rw [e]; simp; omega, h, h2⟩)
    · exact .inl ⟨by rw [e]; simp; omega, h, h2⟩

set_option maxRecDepth 100000 in
set_option maxHeartbeats 1000000 in
theorem kind_one (s : ByteArray) (w : World) (hs : s.size ≤ 140737488355328) (h0 : 0 < s.size) (hl : Tk.letter (bt s 0) = true) (hp : partsB s = true) :
    Calls Tryd.prog 57 #[.string s] w fun e w' => e = .returned (.int .i64 (kindN s : Nat)) ∧ Below w.heap.size w w' := by
  have hb : 97 ≤ (bt s 0).toNat ∧ (bt s 0).toNat ≤ 122 := by simpa [Tk.letter] using hl
  have HK := Lib.hid (kind_word s h0 hl hp)
  have hg := get_bt s
  have hin : ∀ w, Calls Tryd.prog 76 #[.string s, .bool true, .string ⟨#[95, 46]⟩] w fun e w' => e = .returned (.bool true) ∧ w = w' := fun w => by
    have := inside_any s ⟨#[95, 46]⟩ true w hs (by show 2 ≤ _; omega)
    rwa [inside_part, hp] at this
  have HI := Lib.hid hin
  have L1 : decide ((97 : Int) ≤ ((bt s 0).toNat : Int)) = true := by simp; omega
  have L2 : decide (((bt s 0).toNat : Int) ≤ (122 : Int)) = true := by simp; omega
  clear hin hl hp
  go_enter Tryd.func57, Tryd.ntmps57
  go_wp2_with (go_at_call 76; refine (HI.out _).mono ?_; rintro e w' ⟨rfl, rfl⟩)
  go_ret
  exact ⟨ret_int (by rw [HK.out]; rfl), Below.refl _ _⟩

set_option maxRecDepth 100000 in
set_option maxHeartbeats 1000000 in
theorem kind_two (s : ByteArray) (w : World) (hs : s.size ≤ 140737488355328) (h0 : 0 < s.size) (hn : numeralB s = true) :
    Calls Tryd.prog 57 #[.string s] w fun e w' => e = .returned (.int .i64 (kindN s : Nat)) ∧ Below w.heap.size w w' := by
  have HK := Lib.hid (kind_num s h0 hn)
  have hg := get_bt s
  have hnu : ∀ w, Calls Tryd.prog 56 #[.string s] w fun e w' => e = .returned (.bool true) ∧ w = w' := fun w => by
    have := numeral_any s w hs
    rwa [hn] at this
  have HN := Lib.hid hnu
  have hl : Tk.letter (bt s 0) = false ∧ (bt s 0).toNat < 97 := by
    have hd : Tk.digit (bt s 0) = true := (numeral_facts s hn).2.2 0 h0
    have := digit_bounds _ hd
    rcases letter_cases (bt s 0) with ⟨_, h1, _⟩ | h | ⟨_, h1, _⟩
    · omega
    · exact h
    · omega
  have L1 : decide ((97 : Int) ≤ ((bt s 0).toNat : Int)) = false := by simp; omega
  obtain ⟨_, hl2⟩ := hl
  clear hnu hn
  go_enter Tryd.func57, Tryd.ntmps57
  go_wp2_with (go_at_call 56; refine (HN.out _).mono ?_; rintro e w' ⟨rfl, rfl⟩)
  go_ret
  exact ⟨ret_int (by rw [HK.out]; rfl), Below.refl _ _⟩
end Go.Proofs.YtihigfpikiaaiaaDoor
