/- The walk of the reference's Parts: the two numbers of a Lit; texts of at most 2^47 bytes. -/
import Derived.Test.YtihigfpikiaaiaaDoorRd
namespace Go.Proofs.YtihigfpikiaaiaaDoor
open Go.RowKit

theorem partV_of (s : ByteArray) (x y z : Nat) (e : Tk.parts s.data.toList = (x, y, z)) : Value.tuple #[.int .i64 (x : Int), .int .i64 (y : Int), .int .i64 (z : Int)] = partV s := by unfold partV; rw [e]
theorem parts_not (s : ByteArray) (h : kindN s ≠ 3) : Tk.parts s.data.toList = (0, 0, 280) := by
  rw [Tk.parts_ref, if_neg (show ¬ Tk.kind s.data.toList = 3 from h)]
theorem parts_lit (s : ByteArray) (h : kindN s = 3) : ∃ c : Nat, c < s.size ∧ bt s c = 58 ∧ (∀ j, j < c → bt s j ≠ 58) ∧
    Tk.parts s.data.toList = if valE (s.extract 0 c) + valE (s.extract (c + 1) s.size) ≠ 0 then (0, 0, 281) else (valN (s.extract 0 c), valN (s.extract (c + 1) s.size), 0) := by
  have h3 := (Tk.kind3 s.data.toList).1 h
  obtain ⟨a1, a2, a3⟩ := Tk.index_at _ _ h3.1
  refine ⟨_, by simpa using a1, a2, a3, ?_⟩
  rw [Tk.parts_ref, if_pos (show Tk.kind s.data.toList = 3 from h)]
  generalize (Lib.indexByte s.data.toList 58).toNat = c
  have eA : (s.extract 0 c).data.toList = s.data.toList.take c := by simp
  have eB : (s.extract (c + 1) s.size).data.toList = s.data.toList.drop (c + 1) := by
    simp
    rw [List.take_of_length_le (by simp)]
  unfold valE valN
  rw [eA, eB]

set_option maxHeartbeats 1000000 in
theorem rparts_any (s : ByteArray) (w : World) (hs : s.size ≤ 140737488355328) :
    Calls Tryd.prog 38 #[.string s] w fun e w' => e = .returned (partV s) ∧ Below w.heap.size w w' := by
  have hg := get_bt s
  by_cases h0 : s.size = 0
  · have hk : kindN s = 0 := by unfold kindN; rw [(empty_iff s).2 h0]; rfl
    have HF := Lib.hid (partV_of s 0 0 280 (parts_not s (by omega)))
    clear hk
    go_enter Tryd.func38, Tryd.ntmps38
    go_wp2
    go_ret3
    exact ⟨congrArg Ending.returned HF.out, Below.refl _ _⟩
  · by_cases h3 : kindN s = 3
    · obtain ⟨c, hc, c58, cne, hp⟩ := parts_lit s h3
      have K1 : ((kindN s : Int) != 3) = false := by rw [h3]; rfl
      have HC := Lib.hid cne
      have C58 : (((bt s c).toNat : Int) != 58) = false := by rw [c58]; rfl
      obtain ⟨A, hA⟩ : ∃ A, s.extract 0 c = A := ⟨_, rfl⟩
      obtain ⟨B, hB⟩ : ∃ B, s.extract (c + 1) s.size = B := ⟨_, rfl⟩
      have sA : A.size ≤ 140737488355328 := by rw [← hA]; simp; omega
      have sB : B.size ≤ 140737488355328 := by rw [← hB]; simp; omega
      rw [hA, hB] at hp
      have F1 := Lib.hid (fun (h : valE A + valE B ≠ 0) => partV_of s 0 0 281 (by rw [hp, if_pos h]))
      have F2 := Lib.hid (fun (h : ¬ valE A + valE B ≠ 0) => partV_of s (valN A) (valN B) 0 (by rw [hp, if_neg h]))
      clear hp cne c58 h3
      go_enter Tryd.func38, Tryd.ntmps38
      go_wp2_with fail
      refine (kind_any s _ hs (by omega)).mono ?_
      rintro e w1 ⟨rfl, hb⟩
      go_wp2_with fail
      go_loop [5] (fun i => ∃ k : Nat, k ≤ c ∧ i = .int .i64 k) (fun i => c - (intOf i).toNat)
      case atStart => exact ⟨0, by omega, rfl⟩
      case round =>
        obtain ⟨k, hk, rfl⟩ := hrel
        by_cases hlt : k < c
        · have E1 : (((bt s k).toNat : Int) != 58) = true := by
            have := HC.out k hlt
            have e := byte_eq (bt s k) 58 (by omega)
            rw [show ((58 : Nat) : Int) = 58 from rfl] at e
            rw [bne, e]; simpa using this
          go_wp2
          go_round
          case rel => exact ⟨k + 1, by omega, by go_num⟩
          case measure => simp [intOf]; omega
        · obtain rfl : k = c := by omega
          have n1 := valN_le A
          have n2 := valN_le B
          have v1 : valE A ≤ 281 := by rcases valE_cases A with h | h | h <;> omega
          have v2 : valE B ≤ 281 := by rcases valE_cases B with h | h | h <;> omega
          by_cases hv : valE A + valE B ≠ 0
          · have FF := Lib.hid (F1.out hv)
            have b1 : (((valE A : Int) + (valE B : Int)) != 0) = true := by simp; omega
            clear hv
            go_wp2_with fail
            refine (rvalue_any A _ sA).mono ?_
            rintro e w2 ⟨rfl, rfl⟩
            go_wp2_with fail
            refine (rvalue_any B _ sB).mono ?_
            rintro e w2 ⟨rfl, rfl⟩
            go_wp2_with fail
            go_ret3
            exact ⟨congrArg Ending.returned FF.out, hb⟩
          · have FF := Lib.hid (F2.out hv)
            have b1 : (((valE A : Int) + (valE B : Int)) != 0) = false := by simp; omega
            clear hv
            go_wp2_with fail
            refine (rvalue_any A _ sA).mono ?_
            rintro e w2 ⟨rfl, rfl⟩
            go_wp2_with fail
            refine (rvalue_any B _ sB).mono ?_
            rintro e w2 ⟨rfl, rfl⟩
            go_wp2_with fail
            go_ret3
            exact ⟨congrArg Ending.returned FF.out, hb⟩
    · have HF := Lib.hid (partV_of s 0 0 280 (parts_not s h3))
      have K1 : ((kindN s : Int) != 3) = true := by simp; omega
      clear h3
      go_enter Tryd.func38, Tryd.ntmps38
      go_wp2_with fail
      refine (kind_any s _ hs (by omega)).mono ?_
      rintro e w1 ⟨rfl, hb⟩
      go_wp2_with fail
      go_ret3
      exact ⟨congrArg Ending.returned HF.out, hb⟩

/-! ### values -/
set_option maxHeartbeats 1000000 in
theorem values_any (s : ByteArray) (w : World) :
    Calls Tryd.prog 17 #[.string s] w fun e w' => e = .returned (.bool true) ∧ Below w.heap.size w w' := by
  by_cases hl : 200 < s.size
  · go_enter Tryd.func17, Tryd.ntmps17
    go_wp2
    go_ret
    exact ⟨rfl, Below.refl _ _⟩
  · have hs : s.size ≤ 140737488355328 := by omega
    have hp := fun w => parts_any s w hs
    have hr := fun w => rparts_any s w hs
    obtain ⟨x, y, z, hxyz⟩ : ∃ x y z : Nat, partV s = .tuple #[.int .i64 (x : Int), .int .i64 (y : Int), .int .i64 (z : Int)] := ⟨_, _, _, rfl⟩
    rw [hxyz] at hp hr
    have HP := Lib.hid hp
    have HR := Lib.hid hr
    clear hp hr hxyz
    go_enter Tryd.func17, Tryd.ntmps17
    go_wp2_with fail
    refine (value_any s _ hs).mono ?_
    rintro e w' ⟨rfl, rfl⟩
    go_wp2_with fail
    refine (rvalue_any s _ hs).mono ?_
    rintro e w' ⟨rfl, rfl⟩
    go_wp2_with fail
    refine (HP.out _).mono ?_
    rintro e w' ⟨rfl, n, rfl⟩
    go_wp2_with fail
    refine (HR.out _).mono ?_
    rintro e w' ⟨rfl, hb⟩
    go_wp2_with fail
    go_ret
    exact ⟨rfl, hb.os, hb.tape, hb.output, hb.size, hb.block⟩
end Go.Proofs.YtihigfpikiaaiaaDoor
