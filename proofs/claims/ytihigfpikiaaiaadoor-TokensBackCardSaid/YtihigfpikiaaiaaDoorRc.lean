/- The walk of the reference's kind: it tells what the plain list of bytes says; texts of at most 2^47 bytes. -/
import Derived.Test.YtihigfpikiaaiaaDoorRb
namespace Go.Proofs.YtihigfpikiaaiaaDoor
open Go.RowKit

theorem litB_eq (s : ByteArray) (k : Nat) (hk : k < s.size) : litB s k = (bt s k == 58 && numeralB (s.extract 0 k) && numeralB (s.extract (k + 1) s.size)) := by
  unfold litB Tk.litAt numeralB
  congr 1
  · congr 1
    · unfold bt
      rw [List.getD_eq_getElem?_getD, List.getElem?_eq_getElem (by simpa using hk)]
      simp
    · congr 1
      simp
  · congr 1
    simp
    rw [List.take_of_length_le (by simp)]
theorem cells_new (W : World) (cs : Array Value) (t : TypeId) (j : Nat) : (W.alloc (.cells cs t)).cell? ⟨W.heap.size, j, none⟩ = cs[j]? := by
  exact cell_of_row _ _ j _ _ _ (World.alloc_heap_new W (.cells cs t))
def signAt (j : Nat) : ByteArray := signsB.getD j ⟨#[]⟩
theorem signAt_none (s : ByteArray) (h : ∀ j, j < 26 → (s.toList == (signAt j).toList) = false) : Tk.signs.contains s.data.toList = false := signs_none s h
theorem signAt_some (s : ByteArray) (j : Nat) (hj : j < 26) (h : (s.toList == (signAt j).toList) = true) : Tk.signs.contains s.data.toList = true := signs_some s j hj h
def signsW (w : World) : World := w.alloc (.cells (signsB.map Value.string).toArray 9)
theorem signsW_cell (w : World) (j : Nat) (hj : j < 26) : (signsW w).cell? ⟨w.heap.size, j, none⟩ = some (.string (signAt j)) := by
  unfold signsW
  rw [cells_new]
  have h1 : j < signsB.length := hj
  rw [List.getElem?_toArray, List.getElem?_map, List.getElem?_eq_getElem h1, signAt, List.getD_eq_getElem?_getD, List.getElem?_eq_getElem h1]
  rfl
theorem signsW_below (w : World) : Below w.heap.size w (signsW w) := (Below.refl _ _).alloc (Nat.le_refl _) _

set_option maxRecDepth 100000 in
set_option maxHeartbeats 4000000 in
theorem kind_three (s : ByteArray) (w : World) (hs : s.size ≤ 140737488355328) (h0 : 0 < s.size) (hw : (Tk.letter (bt s 0) && partsB s) = false) (hn : numeralB s = false) :
    Calls Tryd.prog 57 #[.string s] w fun e w' => e = .returned (.int .i64 (kindN s : Nat)) ∧ Below w.heap.size w w' := by
  have hg := get_bt s
  have hnu : ∀ w, Calls Tryd.prog 56 #[.string s] w fun e w' => e = .returned (.bool false) ∧ w = w' := fun w => by
    have := numeral_any s w hs
    rwa [hn] at this
  have HN := Lib.hid hnu
  have HQ := Lib.hid hn
  have HW := Lib.hid hw
  rcases letter_cases (bt s 0) with ⟨hl, h1, h2⟩ | ⟨hl, h1⟩ | ⟨hl, h1, h2⟩
  case' inl =>
    have hin : ∀ w, Calls Tryd.prog 76 #[.string s, .bool true, .string ⟨#[95, 46]⟩] w fun e w' => e = .returned (.bool false) ∧ w = w' := fun w => by
      have := inside_any s ⟨#[95, 46]⟩ true w hs (by show 2 ≤ _; omega)
      rw [hl, Bool.true_and] at hw
      rwa [inside_part, hw] at this
    have HI := Lib.hid hin
    have L1 : decide ((97 : Int) ≤ ((bt s 0).toNat : Int)) = true := by simp; omega
    have L2 : decide (((bt s 0).toNat : Int) ≤ (122 : Int)) = true := by simp; omega
    clear hin hl hw hn hnu
    go_enter Tryd.func57, Tryd.ntmps57
    go_wp2_with first
      | (go_at_call 76; refine (HI.out _).mono ?_; rintro e w' ⟨rfl, rfl⟩)
      | (go_at_call 56; refine (HN.out _).mono ?_; rintro e w' ⟨rfl, rfl⟩)
  case' inr.inl =>
    have L1 : decide ((97 : Int) ≤ ((bt s 0).toNat : Int)) = false := by simp; omega
    clear hl hw hn hnu
    go_enter Tryd.func57, Tryd.ntmps57
    go_wp2_with (go_at_call 56; refine (HN.out _).mono ?_; rintro e w' ⟨rfl, rfl⟩)
  case' inr.inr =>
    have L1 : decide ((97 : Int) ≤ ((bt s 0).toNat : Int)) = true := by simp; omega
    have L2 : decide (((bt s 0).toNat : Int) ≤ (122 : Int)) = false := by simp; omega
    clear hl hw hn hnu
    go_enter Tryd.func57, Tryd.ntmps57
    go_wp2_with (go_at_call 56; refine (HN.out _).mono ?_; rintro e w' ⟨rfl, rfl⟩)
  all_goals
    go_loop [3] (fun i => ∃ k : Nat, 1 ≤ k ∧ k ≤ s.size ∧ i = .int .i64 k ∧ ∀ j, j < k → 1 ≤ j → litB s j = false) (fun i => s.size - (intOf i).toNat)
    case atStart => exact ⟨1, by omega, by omega, rfl, fun j h1 h2 => by omega⟩
    case round =>
      obtain ⟨k, h1, hk, rfl, hall⟩ := hrel
      have HA := Lib.hid hall
      clear hall
      by_cases hlt : k < s.size
      · have hb := toNat_le' (bt s k)
        have e := litB_eq s k hlt
        cases hc : (bt s k == 58) with
        | false =>
          rw [hc] at e
          have E1 : (((bt s k).toNat : Int) == (58 : Int)) = false := (byte_eq _ 58 (by omega)).trans hc
          have E := Lib.hid e
          clear e hc
          go_wp2
          go_round
          case rel =>
            refine ⟨k + 1, by omega, by omega, by go_num, fun j hj1 hj2 => ?_⟩
            rcases Nat.lt_or_ge j k with h | h
            · exact HA.out j h hj2
            · obtain rfl : j = k := by omega
              rw [E.out]; rfl
          case measure => simp [intOf]; omega
        | true => 
          rw [hc] at e
          have E1 : (((bt s k).toNat : Int) == (58 : Int)) = true := (byte_eq _ 58 (by omega)).trans hc
          clear hc
          have n1 := fun w => numeral_any (s.extract 0 k) w (by simp; omega)
          have n2 := fun w => numeral_any (s.extract (k + 1) s.size) w (by simp; omega)
          cases hA : numeralB (s.extract 0 k) with
          | false =>
            rw [hA] at e
            have N1 : ∀ w, Calls Tryd.prog 56 #[.string (s.extract 0 k)] w fun e w' => e = .returned (.bool false) ∧ w = w' := fun w => by
              have := n1 w
              rwa [hA] at this
            have N := Lib.hid N1
            have E := Lib.hid e
            clear e hA n1 n2 N1
            go_wp2_with fail
            refine (N.out _).mono ?_
            rintro e w' ⟨rfl, rfl⟩
            go_wp2
            go_round
            case rel =>
              refine ⟨k + 1, by omega, by omega, by go_num, fun j hj1 hj2 => ?_⟩
              rcases Nat.lt_or_ge j k with h | h
              · exact HA.out j h hj2
              · obtain rfl : j = k := by omega
                rw [E.out]; rfl
            case measure => simp [intOf]; omega
          | true =>
            rw [hA] at e
            have N1 : ∀ w, Calls Tryd.prog 56 #[.string (s.extract 0 k)] w fun e w' => e = .returned (.bool true) ∧ w = w' := fun w => by
              have := n1 w
              rwa [hA] at this
            have N := Lib.hid N1
            cases hB : numeralB (s.extract (k + 1) s.size) with
            | false =>
              rw [hB] at e
              have N2 : ∀ w, Calls Tryd.prog 56 #[.string (s.extract (k + 1) s.size)] w fun e w' => e = .returned (.bool false) ∧ w = w' := fun w => by
                have := n2 w
                rwa [hB] at this
              have M := Lib.hid N2
              have E := Lib.hid e
              clear e hA hB n1 n2 N1 N2
              go_wp2_with fail
              refine (N.out _).mono ?_
              rintro e w' ⟨rfl, rfl⟩
              go_wp2_with fail
              refine (M.out _).mono ?_
              rintro e w' ⟨rfl, rfl⟩
              go_wp2
              go_round
              case rel =>
                refine ⟨k + 1, by omega, by omega, by go_num, fun j hj1 hj2 => ?_⟩
                rcases Nat.lt_or_ge j k with h | h
                · exact HA.out j h hj2
                · obtain rfl : j = k := by omega
                  rw [E.out]; rfl
              case measure => simp [intOf]; omega
            | true =>
              rw [hB] at e
              have N2 : ∀ w, Calls Tryd.prog 56 #[.string (s.extract (k + 1) s.size)] w fun e w' => e = .returned (.bool true) ∧ w = w' := fun w => by
                have := n2 w
                rwa [hB] at this
              have M := Lib.hid N2
              have KL := Lib.hid (kind_lit s k h0 HQ.out hlt h1 (by rw [e]; rfl))
              clear e hA hB n1 n2 N1 N2
              go_wp2_with fail
              refine (N.out _).mono ?_
              rintro e w' ⟨rfl, rfl⟩
              go_wp2_with fail
              refine (M.out _).mono ?_
              rintro e w' ⟨rfl, rfl⟩
              go_wp2
              go_ret
              exact ⟨ret_int (by rw [KL.out]; rfl), Below.refl _ _⟩
      · obtain rfl : k = s.size := by omega
        go_wp2
        have HR := Lib.hid (kind_rest s h0 HW.out HQ.out HA.out)
        show Code.wp _ _ _ _ (signsW w)
        have hB := signsW_below w
        have hC := signsW_cell w
        generalize signsW w = w1 at hB hC ⊢
        go_loop [5] (fun i => ∃ k : Nat, k ≤ 26 ∧ i = .int .i64 k ∧ ∀ j, j < k → (s.toList == (signAt j).toList) = false) (fun i => 26 - (intOf i).toNat)
        case atStart => exact ⟨0, by omega, rfl, fun j h1 => by omega⟩
        case round =>
          obtain ⟨k, hk, rfl, hall⟩ := hrel
          have HS := Lib.hid hall
          clear hall
          by_cases hlt : k < 26
          · have hc := hC k hlt
            cases hq : (s.toList == (signAt k).toList) with
            | true =>
              have H4 := Lib.hid (signAt_some s k hlt hq)
              go_wp2
              go_ret
              exact ⟨ret_int (by rw [HR.out, H4.out]; rfl), hB⟩
            | false =>
              have HQ2 := Lib.hid hq
              go_wp2
              go_round
              case rel =>
                refine ⟨k + 1, by omega, by go_num, fun j hj1 => ?_⟩
                rcases Nat.lt_or_ge j k with h | h
                · exact HS.out j h
                · obtain rfl : j = k := by omega
                  exact HQ2.out
              case measure => simp [intOf]; omega
          · obtain rfl : k = 26 := by omega
            have H4 := Lib.hid (signAt_none s HS.out)
            go_wp2
            go_ret
            exact ⟨ret_int (by rw [HR.out, H4.out]; rfl), hB⟩

theorem kind_any (s : ByteArray) (w : World) (hs : s.size ≤ 140737488355328) (h0 : 0 < s.size) :
    Calls Tryd.prog 57 #[.string s] w fun e w' => e = .returned (.int .i64 (kindN s : Nat)) ∧ Below w.heap.size w w' := by
  cases hw : (Tk.letter (bt s 0) && partsB s) with
  | true =>
    simp only [Bool.and_eq_true] at hw
    exact kind_one s w hs h0 hw.1 hw.2
  | false =>
    cases hn : numeralB s with
    | true => exact kind_two s w hs h0 hn
    | false => exact kind_three s w hs h0 hw hn
end Go.Proofs.YtihigfpikiaaiaaDoor
