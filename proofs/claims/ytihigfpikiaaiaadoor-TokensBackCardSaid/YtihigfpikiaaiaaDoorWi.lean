/- The walks of Cut, Parts and Line. -/
import Derived.Test.YtihigfpikiaaiaaDoorWh
import Derived.Test.YtihigfpikiaaiaaDoorPc
namespace Go.Proofs.YtihigfpikiaaiaaDoor
open Go.RowKit

def colonAt (s : ByteArray) : Int := Lib.indexByte s.data.toList 58
theorem colonAt_ge (s : ByteArray) : -1 ≤ colonAt s := Lib.indexByte_ge _ _
theorem colonAt_lt (s : ByteArray) (h : 0 ≤ colonAt s) : (colonAt s).toNat < s.size := by
  have := (Tk.index_at s.data.toList 58 h).1
  rw [size_list] at this
  exact this
theorem index_colon (s : ByteArray) (w : World) :
    Calls Tryd.prog 54 #[.string s, .string ⟨#[58]⟩] w fun e w' => e = .returned (.int .i64 (colonAt s)) ∧ w = w' :=
  (Tryd.stringslite_Index_one s 58 w).mono fun _ _ ⟨he, hw⟩ => ⟨he, hw.symm⟩

set_option maxHeartbeats 400000 in
theorem cut_yes (s : ByteArray) (w : World) (hs : s.size ≤ 140737488355328) (h : 0 ≤ colonAt s) :
    Calls Tryd.prog 70 #[.string s, .string ⟨#[58]⟩] w fun e w' => e = .returned (.tuple #[.string (s.extract 0 (colonAt s).toNat), .string (s.extract ((colonAt s).toNat + 1) s.size), .bool true]) ∧ ∃ n, w' = w.drewN n := by
  have hlt := colonAt_lt s h
  obtain ⟨i, hi⟩ : ∃ i : Nat, colonAt s = i := ⟨(colonAt s).toNat, by omega⟩
  have e : (colonAt s).toNat = i := by omega
  rw [e] at hlt ⊢
  have hix : ∀ w, Calls Tryd.prog 54 #[.string s, .string ⟨#[58]⟩] w fun e w' => e = .returned (.int .i64 (i : Int)) ∧ w = w' := fun w => by rw [← hi]; exact index_colon s w
  have HIX := Lib.hid hix
  clear hix hi e h
  go_enter Tryd.func70, Tryd.ntmps70
  go_wp2_with (go_at_call 54; refine (HIX.out _).mono ?_; rintro e w' ⟨rfl, rfl⟩)
  go_quiet (fail)
  go_wp2
  go_ret3
  exact ⟨rfl, _, rfl⟩

set_option maxHeartbeats 400000 in
theorem cut_no (s : ByteArray) (w : World) (h : colonAt s < 0) :
    Calls Tryd.prog 70 #[.string s, .string ⟨#[58]⟩] w fun e w' => e = .returned (.tuple #[.string s, .string ⟨#[]⟩, .bool false]) ∧ ∃ n, w' = w.drewN n := by
  go_enter Tryd.func70, Tryd.ntmps70
  go_wp2_with (go_at_call 54; refine (index_colon s _).mono ?_; rintro e w' ⟨rfl, rfl⟩)
  go_ret3
  exact ⟨rfl, 0, rfl⟩

set_option maxHeartbeats 400000 in
theorem scut_yes (s : ByteArray) (w : World) (hs : s.size ≤ 140737488355328) (h : 0 ≤ colonAt s) :
    Calls Tryd.prog 52 #[.string s, .string ⟨#[58]⟩] w fun e w' => e = .returned (.tuple #[.string (s.extract 0 (colonAt s).toNat), .string (s.extract ((colonAt s).toNat + 1) s.size), .bool true]) ∧ ∃ n, w' = w.drewN n := by
  go_enter Tryd.func52, Tryd.ntmps52
  go_wp2_with (go_at_call 70; refine (cut_yes s _ hs h).mono ?_; rintro e w' ⟨rfl, n, rfl⟩)
  go_ret3
  exact ⟨rfl, _, rfl⟩
set_option maxHeartbeats 400000 in
theorem scut_no (s : ByteArray) (w : World) (h : colonAt s < 0) :
    Calls Tryd.prog 52 #[.string s, .string ⟨#[58]⟩] w fun e w' => e = .returned (.tuple #[.string s, .string ⟨#[]⟩, .bool false]) ∧ ∃ n, w' = w.drewN n := by
  go_enter Tryd.func52, Tryd.ntmps52
  go_wp2_with (go_at_call 70; refine (cut_no s _ h).mono ?_; rintro e w' ⟨rfl, n, rfl⟩)
  go_ret3
  exact ⟨rfl, _, rfl⟩

/-! ### Parts -/
def partV (s : ByteArray) : Value := .tuple #[.int .i64 ((Tk.parts s.data.toList).1 : Nat), .int .i64 ((Tk.parts s.data.toList).2.1 : Nat), .int .i64 ((Tk.parts s.data.toList).2.2 : Nat)]
theorem valE_cases (s : ByteArray) : valE s = 0 ∨ valE s = 280 ∨ valE s = 281 := Tk.value_err _
theorem valN_le (s : ByteArray) : valN s ≤ 1000000000 := Tk.value_le _

set_option maxHeartbeats 400000 in
theorem parts_no (s : ByteArray) (w : World) (hs : s.size ≤ 140737488355328) (h : colonAt s < 0) :
    Calls Tryd.prog 30 #[.string s] w fun e w' => e = .returned (partV s) ∧ ∃ n, w' = w.drewN n := by
  have fin : Value.tuple #[.int .i64 0, .int .i64 0, .int .i64 280] = partV s := by
    unfold partV
    have e : Tk.parts s.data.toList = (0, 0, 280) := by unfold Tk.parts; rw [if_pos (show Lib.indexByte s.data.toList 58 < 0 from h)]
    rw [e]; rfl
  have FIN := Lib.hid fin
  clear fin
  go_enter Tryd.func30, Tryd.ntmps30
  go_wp2_with fail
  refine (scut_no s _ h).mono ?_
  rintro e w' ⟨rfl, n, rfl⟩
  go_wp2_with fail
  refine (value_any s _ hs).mono ?_
  rintro e w' ⟨rfl, rfl⟩
  go_wp2_with fail
  refine (value_any _ _ (by show 0 ≤ _; omega)).mono ?_
  rintro e w' ⟨rfl, rfl⟩
  go_wp2_with fail
  go_ret3
  exact ⟨congrArg Ending.returned FIN.out, _, rfl⟩

theorem size_ext0 (s : ByteArray) (i : Nat) (h : i ≤ s.size) : (s.extract 0 i).size = i := by simp; omega
set_option maxHeartbeats 1000000 in
theorem parts_yes (s : ByteArray) (w : World) (hs : s.size ≤ 140737488355328) (h : 0 ≤ colonAt s) :
    Calls Tryd.prog 30 #[.string s] w fun e w' => e = .returned (partV s) ∧ ∃ n, w' = w.drewN n := by
  have hlt := colonAt_lt s h
  obtain ⟨A, hA⟩ : ∃ A, A = s.extract 0 (colonAt s).toNat := ⟨_, rfl⟩
  obtain ⟨B, hB⟩ : ∃ B, B = s.extract ((colonAt s).toNat + 1) s.size := ⟨_, rfl⟩
  have sA : A.size ≤ 140737488355328 := by rw [hA, size_ext0 _ _ (by omega)]; omega
  have sB : B.size ≤ 140737488355328 := by rw [hB]; simp; omega
  have eA : Tk.value (s.data.toList.take (colonAt s).toNat) = (valN A, valE A) := by unfold valN valE; rw [hA, Lib.extract_from_zero]
  have eB : Tk.value (s.data.toList.drop ((colonAt s).toNat + 1)) = (valN B, valE B) := by unfold valN valE; rw [hB, Lib.extract_to_end]
  have ep : Tk.parts s.data.toList = if valE A = 280 ∨ valE B = 280 then (0, 0, 280) else if valE A ≠ 0 ∨ valE B ≠ 0 then (0, 0, 281) else (valN A, valN B, 0) := by
    unfold Tk.parts
    rw [if_neg (show ¬ Lib.indexByte s.data.toList 58 < 0 from by unfold colonAt at h; omega)]
    unfold colonAt at eA eB
    rw [eA, eB]
  have hcut := fun w => scut_yes s w hs h
  rw [← hA, ← hB] at hcut
  have HCUT := Lib.hid hcut
  have HEP := Lib.hid ep
  clear hcut ep eA eB hA hB h hlt
  have cA := valE_cases A
  have cB := valE_cases B
  have nA := valN_le A
  have nB := valN_le B
  have fin : ∀ x y z : Nat, Tk.parts s.data.toList = (x, y, z) → Value.tuple #[.int .i64 (x : Int), .int .i64 (y : Int), .int .i64 (z : Int)] = partV s := fun x y z e => by unfold partV; rw [e]
  have FIN := Lib.hid fin
  clear fin
  have HA := Lib.hid cA
  have HB := Lib.hid cB
  clear cA cB
  by_cases a1 : valE A = 280
  · have b1 : ((valE A : Int) == 280) = true := by rw [a1]; rfl
    have A1 := Lib.hid a1
    clear a1
    go_enter Tryd.func30, Tryd.ntmps30
    go_wp2_with fail
    refine (HCUT.out _).mono ?_
    rintro e w' ⟨rfl, n, rfl⟩
    go_wp2_with fail
    refine (value_any A _ sA).mono ?_
    rintro e w' ⟨rfl, rfl⟩
    go_wp2_with fail
    refine (value_any B _ sB).mono ?_
    rintro e w' ⟨rfl, rfl⟩
    go_wp2_with fail
    go_ret3
    exact ⟨congrArg Ending.returned (FIN.out 0 0 280 (by rw [HEP.out, if_pos (.inl A1.out)])), _, rfl⟩
  · have b1 : ((valE A : Int) == 280) = false := by simp; omega
    by_cases a2 : valE B = 280
    · have b2 : ((valE B : Int) == 280) = true := by rw [a2]; rfl
      have A2 := Lib.hid a2
      clear a1 a2
      go_enter Tryd.func30, Tryd.ntmps30
      go_wp2_with fail
      refine (HCUT.out _).mono ?_
      rintro e w' ⟨rfl, n, rfl⟩
      go_wp2_with fail
      refine (value_any A _ sA).mono ?_
      rintro e w' ⟨rfl, rfl⟩
      go_wp2_with fail
      refine (value_any B _ sB).mono ?_
      rintro e w' ⟨rfl, rfl⟩
      go_wp2_with fail
      go_ret3
      exact ⟨congrArg Ending.returned (FIN.out 0 0 280 (by rw [HEP.out, if_pos (.inr A2.out)])), _, rfl⟩
    · have b2 : ((valE B : Int) == 280) = false := by simp; omega
      have hn := Lib.hid (show ¬ (valE A = 280 ∨ valE B = 280) by rintro (h | h); exact a1 h; exact a2 h)
      by_cases a3 : valE A = 0
      · have b3 : ((valE A : Int) != 0) = false := by rw [a3]; rfl
        by_cases a4 : valE B = 0
        · have b4 : ((valE B : Int) != 0) = false := by rw [a4]; rfl
          have A3 := Lib.hid (show ¬ (valE A ≠ 0 ∨ valE B ≠ 0) by omega)
          clear a1 a2 a3 a4
          go_enter Tryd.func30, Tryd.ntmps30
          go_wp2_with fail
          refine (HCUT.out _).mono ?_
          rintro e w' ⟨rfl, n, rfl⟩
          go_wp2_with fail
          refine (value_any A _ sA).mono ?_
          rintro e w' ⟨rfl, rfl⟩
          go_wp2_with fail
          refine (value_any B _ sB).mono ?_
          rintro e w' ⟨rfl, rfl⟩
          go_wp2_with fail
          go_ret3
          exact ⟨congrArg Ending.returned (FIN.out _ _ 0 (by rw [HEP.out, if_neg hn.out, if_neg A3.out])), _, rfl⟩
        · have b4 : ((valE B : Int) != 0) = true := by simpa using a4
          have A3 := Lib.hid (show valE A ≠ 0 ∨ valE B ≠ 0 by omega)
          clear a1 a2 a3 a4
          go_enter Tryd.func30, Tryd.ntmps30
          go_wp2_with fail
          refine (HCUT.out _).mono ?_
          rintro e w' ⟨rfl, n, rfl⟩
          go_wp2_with fail
          refine (value_any A _ sA).mono ?_
          rintro e w' ⟨rfl, rfl⟩
          go_wp2_with fail
          refine (value_any B _ sB).mono ?_
          rintro e w' ⟨rfl, rfl⟩
          go_wp2_with fail
          go_ret3
          exact ⟨congrArg Ending.returned (FIN.out 0 0 281 (by rw [HEP.out, if_neg hn.out, if_pos A3.out])), _, rfl⟩
      · have b3 : ((valE A : Int) != 0) = true := by simpa using a3
        have A3 := Lib.hid (show valE A ≠ 0 ∨ valE B ≠ 0 by omega)
        clear a1 a2 a3
        go_enter Tryd.func30, Tryd.ntmps30
        go_wp2_with fail
        refine (HCUT.out _).mono ?_
        rintro e w' ⟨rfl, n, rfl⟩
        go_wp2_with fail
        refine (value_any A _ sA).mono ?_
        rintro e w' ⟨rfl, rfl⟩
        go_wp2_with fail
        refine (value_any B _ sB).mono ?_
        rintro e w' ⟨rfl, rfl⟩
        go_wp2_with fail
        go_ret3
        exact ⟨congrArg Ending.returned (FIN.out 0 0 281 (by rw [HEP.out, if_neg hn.out, if_pos A3.out])), _, rfl⟩

theorem parts_any (s : ByteArray) (w : World) (hs : s.size ≤ 140737488355328) :
    Calls Tryd.prog 30 #[.string s] w fun e w' => e = .returned (partV s) ∧ ∃ n, w' = w.drewN n := by
  by_cases h : colonAt s < 0
  · exact parts_no s w hs h
  · exact parts_yes s w hs (by omega)
end Go.Proofs.YtihigfpikiaaiaaDoor
