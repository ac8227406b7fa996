/- The walk of the law's write. -/
import Derived.Test.YtihigfpikiaaiaaDoorRd
import Derived.Test.YtihigfpikiaaiaaDoorXb
import Derived.Test.YtihigfpikiaaiaaDoorPe
namespace Go.Proofs.YtihigfpikiaaiaaDoor
open Go.RowKit

def digitsS : ByteArray := ⟨#[48, 49, 50, 51, 52, 53, 54, 55, 56, 57]⟩
theorem digit_ext (m : Nat) (h : m < 10) : digitsS.extract m (m + 1) = ⟨#[UInt8.ofNat (48 + m)]⟩ := by
  rcases (show m = 0 ∨ m = 1 ∨ m = 2 ∨ m = 3 ∨ m = 4 ∨ m = 5 ∨ m = 6 ∨ m = 7 ∨ m = 8 ∨ m = 9 by omega) with h | h | h | h | h | h | h | h | h | h <;> subst h <;> decide
/-- the digits written so far -/
def WrTo (x m : Nat) (t : ByteArray) : Prop := t.data.toList.all Tk.digit = true ∧ m * 10 ^ t.data.toList.length + Tk.num t.data.toList = x
theorem WrTo.step {x m : Nat} {t : ByteArray} (h : WrTo x m t) : WrTo x (m / 10) (digitsS.extract (m % 10) (m % 10 + 1) ++ t) := by
  have e : (digitsS.extract (m % 10) (m % 10 + 1) ++ t).data.toList = UInt8.ofNat (48 + m % 10) :: t.data.toList := by
    rw [digit_ext _ (Nat.mod_lt _ (by omega))]; simp
  have := Tk.wr_step t.data.toList m x h.1 h.2
  unfold WrTo
  rw [e]
  exact this
theorem WrTo.len {x m : Nat} {t : ByteArray} (h : WrTo x m t) (hx : x ≤ 1000000000) (h3 : t.size = 0 ∨ 0 < m) : t.size ≤ 9 := by
  have := Tk.wr_len t.data.toList m x h.2 hx (by
    rcases h3 with h3 | h3
    · exact .inl ((empty_iff t).2 h3)
    · exact .inr h3)
  rwa [size_list] at this
theorem rep_eq (k : Nat) : Lib.repeatL [48] k = List.replicate k 48 := by
  induction k with
  | zero => rfl
  | succ k ih => rw [Lib.repeatL, ih, List.replicate_succ]; rfl
theorem rep_size (k : Nat) : (⟨(Lib.repeatL [48] k).toArray⟩ : ByteArray).size = k := by
  rw [rep_eq]
  simp [ByteArray.size]
/-- what is written of a number -/
def WrS (S : ByteArray) (x : Nat) : Prop := Tk.Wr S.data.toList x ∧ S.size ≤ 40
theorem WrTo.done {x k : Nat} {t : ByteArray} (h : WrTo x 0 t) (ht : t.size ≠ 0) (hk : k ≤ 20) (hl : t.size ≤ 10) : WrS (⟨(Lib.repeatL [48] k).toArray⟩ ++ t) x := by
  have hr := rep_eq k
  have e : (⟨(Lib.repeatL [48] k).toArray⟩ ++ t : ByteArray).data.toList = List.replicate k 48 ++ t.data.toList := by rw [hr]; simp
  refine ⟨?_, ?_⟩
  · rw [e]
    refine ⟨?_, ?_, ?_⟩
    · intro h0
      have := congrArg List.length h0
      rw [List.length_append, size_list, List.length_nil] at this
      omega
    · rw [List.all_append, h.1]
      simp [Tk.digit]
    · rw [Tk.num_zeros]
      have := h.2
      omega
  · rw [ByteArray.size_append, rep_size]
    omega

set_option maxRecDepth 100000 in
set_option maxHeartbeats 2000000 in
theorem write_any (x z b : Nat) (hx : x ≤ 1000000000) (hz : z < 256) (w : World) (hc : w.cell? ⟨b, 0, none⟩ = some (.int .u8 (z : Int))) :
    Calls Tryd.prog 27 #[.int .i64 (x : Int), .pointer (some ⟨b, 0, none⟩)] w fun e w' => ∃ S, e = .returned (.string S) ∧ WrS S x ∧ Below w.heap.size w w' := by
  go_enter Tryd.func27, Tryd.ntmps27
  go_wp2
  go_loop [0, 4] (fun n t => ∃ (m : Nat) (s : ByteArray), n = .int .i64 (m : Int) ∧ t = .string s ∧ m ≤ x ∧ s.size ≤ 10 ∧ Hid (WrTo x m s)) (fun n t => (intOf n).toNat + (if strN t = 0 then 1 else 0))
  case atStart => exact ⟨x, ⟨#[]⟩, rfl, rfl, Nat.le_refl _, by decide, Lib.hid ⟨rfl, by simp [Tk.num]⟩⟩
  case round =>
    obtain ⟨m, s, rfl, rfl, hm, hs, hW⟩ := hrel
    by_cases he : s.size = 0
    · have hst := Lib.hid (hW.out.step)
      obtain rfl : s = ⟨#[]⟩ := by
        have := (empty_iff s).2 he
        obtain ⟨⟨l⟩⟩ := s
        simp at this
        rw [this]
      clear he hs
      have hsz : (digitsS.extract (m % 10) (m % 10 + 1) ++ ⟨#[]⟩ : ByteArray).size = 1 := by rw [digit_ext _ (Nat.mod_lt _ (by omega))]; rfl
      go_wp2_with fail
      go_round
      case rel => exact ⟨m / 10, _, by go_num, rfl, by omega, by show (digitsS.extract (m % 10) (m % 10 + 1) ++ ⟨#[]⟩ : ByteArray).size ≤ 10; omega, hst⟩
      case measure =>
        have h1 : strN (Value.string (({ data := #[48, 49, 50, 51, 52, 53, 54, 55, 56, 57] } : ByteArray).extract (m % 10) (m % 10 + 1) ++ { data := #[] })) = 1 := hsz
        have h2 : strN (Value.string ⟨#[]⟩) = 0 := rfl
        rw [h1, h2]
        simp [intOf]
        omega
    · obtain ⟨e1, e2⟩ := ne_empty s he
      by_cases h0 : 0 < m
      · have hst := Lib.hid (hW.out.step)
        have hln := hW.out.len hx (.inr h0)
        have hsz : (digitsS.extract (m % 10) (m % 10 + 1) ++ s : ByteArray).size = 1 + s.size := by rw [digit_ext _ (Nat.mod_lt _ (by omega)), ByteArray.size_append]; rfl
        go_wp2_with fail
        go_round
        case rel => exact ⟨m / 10, _, by go_num, rfl, by omega, by show (digitsS.extract (m % 10) (m % 10 + 1) ++ s : ByteArray).size ≤ 10; omega, hst⟩
        case measure =>
          have h1 : strN (Value.string (({ data := #[48, 49, 50, 51, 52, 53, 54, 55, 56, 57] } : ByteArray).extract (m % 10) (m % 10 + 1) ++ s)) = 1 + s.size := hsz
          rw [h1]
          simp [intOf, strN]
          omega
      · obtain rfl : m = 0 := by omega
        have hdn := Lib.hid (hW.out.done (k := z % 21) he (by have := Nat.mod_lt z (show 0 < 21 by omega); omega) hs)
        have hrl : (⟨(Lib.repeatL [48] (z % 21)).toArray⟩ : ByteArray).size ≤ 20 := by rw [rep_size]; have := Nat.mod_lt z (show 0 < 21 by omega); omega
        go_wp2_with fail
        rw [show (z : Int) % 21 = ((z % 21 : Nat) : Int) by simp]
        refine (Tryd.strings_Repeat ⟨#[48]⟩ (z % 21) w (by omega) (by show 1 * _ ≤ _; omega)).mono ?_
        rintro e w1 ⟨rfl, hb⟩
        go_wp2_with fail
        go_ret
        exact ⟨_, rfl, hdn.out, hb⟩
end Go.Proofs.YtihigfpikiaaiaaDoor
