/- The walks of sign, token and Next. -/
import Derived.Test.YtihigfpikiaaiaaDoorWb
namespace Go.Proofs.YtihigfpikiaaiaaDoor
open Go.RowKit

def pairsS : ByteArray := { data := #[60, 60, 62, 62, 61, 61, 33, 61, 60, 61] }
/-- does the rest of a text begin with sign number j of two bytes -/
def preAt (s : ByteArray) (a j : Nat) : Bool := Lib.hasPrefix (s.data.toList.drop a) (pairsS.extract (2 * j) (2 * j + 2)).data.toList
theorem pre_any (s p : ByteArray) (a j : Nat) (w : World) (hp : p = pairsS.extract (2 * j) (2 * j + 2)) :
    Calls Tryd.prog 50 #[.string (s.extract a s.size), .string p] w fun e w' => e = .returned (.bool (preAt s a j)) ∧ w = w' := by
  subst hp
  refine (Tryd.strings_HasPrefix _ _ _).mono ?_
  rintro e w' ⟨he, hw⟩
  rw [Lib.extract_to_end] at he
  exact ⟨he, hw.symm⟩

theorem get_bt_ext (s : ByteArray) (a : Nat) : ∀ (n : Nat) (h : n < (s.extract a s.size).size), (s.extract a s.size)[n]'h = bt s (a + n) := fun n h => by
  rw [get_bt]
  unfold bt
  rw [Lib.extract_to_end, List.getD_eq_getElem?_getD, List.getElem?_drop, List.getD_eq_getElem?_getD]
theorem pairs_at (j : Nat) (hj : j < 5) : ∃ p q, (pairsS.extract (2 * j) (2 * j + 2)).data.toList = [p, q] ∧ ∀ c d, (c == p && d == q) = true → Tk.pair c d = true := by
  have h : j = 0 ∨ j = 1 ∨ j = 2 ∨ j = 3 ∨ j = 4 := by omega
  rcases h with rfl | rfl | rfl | rfl | rfl
  · exact ⟨60, 60, rfl, fun c d h => by unfold Tk.pair; rw [h]; simp⟩
  · exact ⟨62, 62, rfl, fun c d h => by unfold Tk.pair; rw [h]; simp⟩
  · exact ⟨61, 61, rfl, fun c d h => by unfold Tk.pair; rw [h]; simp⟩
  · exact ⟨33, 61, rfl, fun c d h => by unfold Tk.pair; rw [h]; simp⟩
  · exact ⟨60, 61, rfl, fun c d h => by unfold Tk.pair; rw [h]; simp⟩
theorem pre_one (p q c : UInt8) : [p, q].isPrefixOf [c] = false := by simp [List.isPrefixOf]
theorem pre_two (p q c d : UInt8) (r : List UInt8) (h : [p, q].isPrefixOf (c :: d :: r) = true) : (c == p && d == q) = true := by
  simp only [List.isPrefixOf, Bool.and_true, Bool.and_eq_true, beq_iff_eq] at h
  rw [h.1, h.2]
  simp
theorem sign_two (s : ByteArray) (a j : Nat) (hj : j < 5) (h : preAt s a j = true) : Tk.sign (s.data.toList.drop a) = 2 := by
  obtain ⟨p, q, e, hp⟩ := pairs_at j hj
  unfold preAt Lib.hasPrefix at h
  rw [e] at h
  match hl : s.data.toList.drop a with
  | [] => rw [hl] at h; simp at h
  | [c] => rw [hl, pre_one] at h; cases h
  | c :: d :: r =>
    rw [hl] at h
    have hpq : Tk.pair c d = true := hp c d (pre_two p q c d r h)
    rw [Tk.sign, if_pos hpq]
theorem sign_less (s : ByteArray) (a : Nat) (ha : a < s.size) (h : ∀ m, m < 5 → preAt s a m = false) : Tk.sign (s.data.toList.drop a) = if Tk.single (bt s a) then 1 else 0 := by
  rw [drop_bt s a ha]
  have g : ∀ m, m < 5 → Lib.hasPrefix (bt s a :: s.data.toList.drop (a + 1)) (pairsS.extract (2 * m) (2 * m + 2)).data.toList = false := fun m hm => by
    have := h m hm
    unfold preAt at this
    rwa [drop_bt s a ha] at this
  match hl : s.data.toList.drop (a + 1) with
  | [] => rfl
  | d :: r =>
    rw [hl] at g
    have hp : Tk.pair (bt s a) d = false := by
      have g0 := g 0 (by omega)
      have g1 := g 1 (by omega)
      have g2 := g 2 (by omega)
      have g3 := g 3 (by omega)
      have g4 := g 4 (by omega)
      rw [show (pairsS.extract (2 * 0) (2 * 0 + 2)).data.toList = [60, 60] from rfl] at g0
      rw [show (pairsS.extract (2 * 1) (2 * 1 + 2)).data.toList = [62, 62] from rfl] at g1
      rw [show (pairsS.extract (2 * 2) (2 * 2 + 2)).data.toList = [61, 61] from rfl] at g2
      rw [show (pairsS.extract (2 * 3) (2 * 3 + 2)).data.toList = [33, 61] from rfl] at g3
      rw [show (pairsS.extract (2 * 4) (2 * 4 + 2)).data.toList = [60, 61] from rfl] at g4
      simp only [Lib.hasPrefix, List.isPrefixOf, Bool.and_true] at g0 g1 g2 g3 g4
      rw [Bool.eq_false_iff] at *
      simp only [Tk.pair, ne_eq, Bool.or_eq_true, Bool.and_eq_true, beq_iff_eq] at *
      rintro ((((⟨h1, h2⟩ | ⟨h1, h2⟩) | ⟨h1, h2⟩) | ⟨h1, h2⟩) | ⟨h1, h2⟩)
      · exact g0 ⟨h1.symm, h2.symm⟩
      · exact g1 ⟨h1.symm, h2.symm⟩
      · exact g2 ⟨h1.symm, h2.symm⟩
      · exact g3 ⟨h1.symm, h2.symm⟩
      · exact g4 ⟨h1.symm, h2.symm⟩
    simp [Tk.sign, hp]
def singleS : ByteArray := { data := #[43, 45, 42, 47, 37, 38, 124, 94, 60, 126, 63, 58, 61, 44, 64, 40, 41, 91, 93, 123, 125] }
theorem indexByte_mem (l : List UInt8) (c : UInt8) : (0 ≤ Lib.indexByte l c) ↔ l.contains c = true := by
  induction l with
  | nil => simp [Lib.indexByte]
  | cons b l ih =>
    have hge := Lib.indexByte_ge l c
    simp only [Lib.indexByte, List.contains_cons, Bool.or_eq_true, ← ih, beq_iff_eq]
    by_cases hb : b = c
    · simp [hb]
    · have hb' : ¬ c = b := fun h => hb h.symm
      simp only [hb, hb', if_false, false_or]
      split
      · omega
      · omega
/-- where a byte stands among the signs of one byte; negative if it is none -/
def singleAt (c : UInt8) : Int := Lib.indexByte Tk.singleL c
theorem singleAt_yes (c : UInt8) (h : Tk.single c = true) : 0 ≤ singleAt c := (indexByte_mem _ _).2 h
theorem singleAt_no (c : UInt8) (h : Tk.single c = false) : singleAt c < 0 := by
  have := indexByte_mem Tk.singleL c
  unfold Tk.single at h
  rw [h] at this
  unfold singleAt
  have : ¬ 0 ≤ Lib.indexByte Tk.singleL c := fun h => absurd (this.1 h) (by simp)
  omega
theorem single_any (c : UInt8) (w : World) :
    Calls Tryd.prog 62 #[.string singleS, .int .u8 (c.toNat : Int)] w fun e w' => e = .returned (.int .i64 (singleAt c)) ∧ w = w' := by
  refine (Tryd.strings_IndexByte _ _ _).mono ?_
  rintro e w' ⟨he, hw⟩
  refine ⟨?_, hw.symm⟩
  rw [he]
  unfold singleAt
  rw [show singleS.data.toList = Tk.singleL from rfl, Int.toNat_natCast, show c.toNat.toUInt8 = c from by simp]

set_option maxHeartbeats 400000 in
theorem sign_any (s : ByteArray) (a : Nat) (w : World) (h0 : a < s.size) :
    Calls Tryd.prog 66 #[.string (s.extract a s.size)] w fun e w' => e = .returned (.int .i64 (Tk.sign (s.data.toList.drop a) : Nat)) ∧ w = w' := by
  have hg := get_bt s
  have hx := get_bt_ext s a
  go_enter Tryd.func66, Tryd.ntmps66
  go_wp2
  go_loop [3] (fun i => ∃ j : Nat, j ≤ 5 ∧ i = .int .i64 (2 * j : Nat) ∧ ∀ m, m < j → preAt s a m = false) (fun i => 10 - (intOf i).toNat)
  case atStart => exact ⟨0, by omega, rfl, fun m h => absurd h (by omega)⟩
  case round =>
    obtain ⟨j, hj, rfl, hr⟩ := hrel
    have HR := Lib.hid hr
    clear hr
    by_cases hlt : j < 5
    · by_cases hp : preAt s a j = true
      · go_wp2_with (go_at_call 50; refine (pre_any _ _ _ j _ rfl).mono ?_; rintro e w' ⟨rfl, rfl⟩)
        go_ret
        exact ⟨ret_int (by rw [sign_two s a j hlt hp]; rfl), rfl⟩
      · have hp' : preAt s a j = false := by simpa using hp
        clear hp
        go_wp2_with (go_at_call 50; refine (pre_any _ _ _ j _ rfl).mono ?_; rintro e w' ⟨rfl, rfl⟩)
        go_round
        case rel =>
          refine ⟨j + 1, by omega, by go_num, fun m hm => ?_⟩
          by_cases h : m = j
          · subst h; exact hp'
          · exact HR.out m (by omega)
        case measure => simp [intOf]; omega
    · obtain rfl : j = 5 := by omega
      have hl := sign_less s a h0 HR.out
      have HL := Lib.hid hl
      clear hl
      cases hsg : Tk.single (bt s a) with
      | true =>
        have h1 := singleAt_yes _ hsg
        have HS := Lib.hid hsg
        clear hsg
        go_wp2_with (go_at_call 62; refine (single_any _ _).mono ?_; rintro e w' ⟨rfl, rfl⟩)
        go_ret
        exact ⟨ret_int (by rw [HL.out, HS.out]; rfl), rfl⟩
      | false =>
        have h1 := singleAt_no _ hsg
        have HS := Lib.hid hsg
        clear hsg
        go_wp2_with (go_at_call 62; refine (single_any _ _).mono ?_; rintro e w' ⟨rfl, rfl⟩)
        go_ret
        exact ⟨ret_int (by rw [HL.out, HS.out]; rfl), rfl⟩
end Go.Proofs.YtihigfpikiaaiaaDoor
