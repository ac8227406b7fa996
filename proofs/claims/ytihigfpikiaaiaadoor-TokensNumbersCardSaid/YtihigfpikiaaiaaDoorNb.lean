/- The walk of TokensNumbers. -/
import Derived.Test.YtihigfpikiaaiaaDoorNa
import Derived.Test.YtihigfpikiaaiaaDoorRc
namespace Go.Proofs.YtihigfpikiaaiaaDoor
open Go.RowKit

theorem wr_value (S : ByteArray) (x : Nat) (h : WrS S x) (hx : x ≤ 1000000000) (w : World) :
    Calls Tryd.prog 29 #[.string S] w fun e w' => e = .returned (.tuple #[.int .i64 (x : Int), .int .i64 0]) ∧ w = w' := by
  refine (value_any S w (by have := h.2; omega)).mono ?_
  rintro e w' ⟨he, hw⟩
  unfold valN valE at he
  rw [h.1.value hx] at he
  exact ⟨he, hw⟩
theorem nn_value (S : ByteArray) (h : Tk.Nn S.data.toList) (hs : S.size ≤ 100) (w : World) :
    Calls Tryd.prog 29 #[.string S] w fun e w' => e = .returned (.tuple #[.int .i64 0, .int .i64 280]) ∧ w = w' := by
  refine (value_any S w (by omega)).mono ?_
  rintro e w' ⟨he, hw⟩
  unfold valN valE at he
  rw [h.value] at he
  exact ⟨he, hw⟩
theorem parts_to (S : ByteArray) (x y z : Nat) (h : Tk.parts S.data.toList = (x, y, z)) (hs : S.size ≤ 1000) (w : World) :
    Calls Tryd.prog 30 #[.string S] w fun e w' => e = .returned (.tuple #[.int .i64 (x : Int), .int .i64 (y : Int), .int .i64 (z : Int)]) ∧ ∃ n, w' = w.drewN n := by
  refine (parts_any S w (by omega)).mono ?_
  rintro e w' ⟨he, hw⟩
  unfold partV at he
  rw [h] at he
  exact ⟨he, hw⟩
/-- what the law's walk keeps of the captured variable -/
structure Bx (w wk : World) (z : Nat) : Prop where
  bel : Below w.heap.size w wk
  lt : w.heap.size < wk.heap.size
  cell : wk.cell? ⟨w.heap.size, 0, none⟩ = some (.int .u8 (z : Int))
theorem Bx.next {w wk w' : World} {z : Nat} (h : Bx w wk z) (hb : Below wk.heap.size wk w') : Bx w w' z :=
  ⟨h.bel.trans (hb.mono h.bel.size), Nat.lt_of_lt_of_le h.lt hb.size, ((bcell hb).1 _ 0 h.lt).trans h.cell⟩
theorem Bx.drew {w wk : World} {z : Nat} (h : Bx w wk z) (n : Nat) : Bx w (wk.drewN n) z := ⟨below_drewN h.bel n, h.lt, h.cell⟩
theorem nn_list (S4 S5 S6 : ByteArray) (x : Nat) (h4 : WrS S4 x) (h5 : WrS S5 x) (h6 : WrS S6 x) (j : Nat) (hj : j < 5) :
    ∃ E : ByteArray, #[Value.string ⟨#[]⟩, .string (⟨#[45]⟩ ++ S4), .string (S5 ++ ⟨#[32]⟩), .string (S6 ++ ⟨#[46]⟩), .string ⟨#[120]⟩][j]? = some (.string E) ∧ Tk.Nn E.data.toList ∧ E.size ≤ 41 := by
  have l4 := h4.2
  have l5 := h5.2
  have l6 := h6.2
  rcases (show j = 0 ∨ j = 1 ∨ j = 2 ∨ j = 3 ∨ j = 4 by omega) with h | h | h | h | h
  · subst h
    exact ⟨_, rfl, ⟨rfl, fun j hj => by simp at hj⟩, by decide⟩
  · subst h
    refine ⟨_, rfl, ?_, by rw [ByteArray.size_append]; show 1 + _ ≤ _; omega⟩
    rw [show (⟨#[45]⟩ ++ S4 : ByteArray).data.toList = 45 :: S4.data.toList by simp]
    exact Tk.Nn.before h4.1 45 rfl (by decide)
  · subst h
    refine ⟨_, rfl, ?_, by rw [ByteArray.size_append]; show _ + 1 ≤ _; omega⟩
    rw [show (S5 ++ ⟨#[32]⟩ : ByteArray).data.toList = S5.data.toList ++ [32] by simp]
    exact Tk.Nn.behind h5.1 32 rfl (by decide)
  · subst h
    refine ⟨_, rfl, ?_, by rw [ByteArray.size_append]; show _ + 1 ≤ _; omega⟩
    rw [show (S6 ++ ⟨#[46]⟩ : ByteArray).data.toList = S6.data.toList ++ [46] by simp]
    exact Tk.Nn.behind h6.1 46 rfl (by decide)
  · subst h
    exact ⟨_, rfl, ⟨rfl, fun j hj => by
      obtain rfl : j = 0 := by simp at hj; omega
      decide⟩, by decide⟩
theorem colon_app (A B : ByteArray) : (A ++ ⟨#[58]⟩ ++ B).data.toList = A.data.toList ++ 58 :: B.data.toList := by simp

set_option maxRecDepth 100000 in
set_option maxHeartbeats 4000000 in
theorem numbers_any (a b z : Nat) (hz : z < 256) (w : World) (hm : MaxL w) :
    Calls Tryd.prog 8 #[.int .u32 (a : Int), .int .u32 (b : Int), .int .u8 (z : Int)] w fun e w' => e = .returned (.bool true) ∧ Below w.heap.size w w' := by
  obtain ⟨x, hx⟩ : ∃ x, a % 1000000001 = x := ⟨_, rfl⟩
  obtain ⟨y, hy⟩ : ∃ y, b % 1000000001 = y := ⟨_, rfl⟩
  have lx : x ≤ 1000000000 := by omega
  have ly : y ≤ 1000000000 := by omega
  have wx : ∀ w' : World, w'.cell? ⟨w.heap.size, 0, none⟩ = some (.int .u8 (z : Int)) → _ := fun w' h => write_any x z w.heap.size lx hz w' h
  have wy : ∀ w' : World, w'.cell? ⟨w.heap.size, 0, none⟩ = some (.int .u8 (z : Int)) → _ := fun w' h => write_any y z w.heap.size ly hz w' h
  have WX := Lib.hid wx
  have WY := Lib.hid wy
  have ex : (a : Int) % 1000000001 = (x : Int) := by omega
  have ey : (b : Int) % 1000000001 = (y : Int) := by omega
  clear wx wy hx hy
  go_enter Tryd.func8, Tryd.ntmps8
  go_wp2_with fail
  have hB0 : Below w.heap.size w (w.alloc (.cells #[.int .u8 (z : Int)] 5)) := (Below.refl _ _).alloc (Nat.le_refl _) _
  have hz0 : w.heap.size < (w.alloc (.cells #[.int .u8 (z : Int)] 5)).heap.size := by simp
  have x0 : (w.alloc (.cells #[.int .u8 (z : Int)] 5)).cell? ⟨w.heap.size, 0, none⟩ = some (.int .u8 (z : Int)) := by simp [go_sem]
  generalize w.alloc (.cells #[.int .u8 (z : Int)] 5) = w0 at hB0 hz0 x0 ⊢
  have b0 : Bx w w0 z := ⟨hB0, hz0, x0⟩
  clear x0 hz0
  refine (awake_any _ (hm.next hB0)).mono ?_
  rintro e w1 ⟨rfl, hb⟩
  have B1 := Lib.hid (b0.next hb)
  clear hB0 hb b0
  go_wp2_with fail
  rw [ex]
  refine (WX.out _ B1.out.cell).mono ?_
  rintro e w2 ⟨S1, rfl, hS1, hb⟩
  have B2 := Lib.hid (B1.out.next hb)
  clear hb
  go_wp2_with fail
  refine (wr_value S1 x hS1 lx _).mono ?_
  rintro e w' ⟨rfl, rfl⟩
  go_wp2_with fail
  refine (WX.out _ B2.out.cell).mono ?_
  rintro e w3 ⟨S2, rfl, hS2, hb⟩
  have z2 := hS2.2
  have B3 := Lib.hid (B2.out.next hb)
  clear hb
  go_wp2_with fail
  try rw [ey]
  refine (WY.out _ B3.out.cell).mono ?_
  rintro e w4 ⟨S3, rfl, hS3, hb⟩
  have z3 := hS3.2
  have B4 := Lib.hid (B3.out.next hb)
  have hp1 := fun w => parts_to (S2 ++ ⟨#[58]⟩ ++ S3) x y 0 (by rw [colon_app]; exact hS2.1.parts hS3.1 lx ly) (by simp only [ByteArray.size_append]; show S2.size + 1 + S3.size ≤ _; omega) w
  have HP1 := Lib.hid hp1
  clear hb hp1
  go_wp2_with fail
  refine (HP1.out _).mono ?_
  rintro e w' ⟨rfl, n1, rfl⟩
  have B5 := Lib.hid (B4.out.drew n1)
  generalize w4.drewN n1 = w5 at B5 ⊢
  go_wp2_with fail
  refine (WX.out _ B5.out.cell).mono ?_
  rintro e w6 ⟨S4, rfl, hS4, hb⟩
  have z4 := hS4.2
  have B6 := Lib.hid (B5.out.next hb)
  clear hb
  go_wp2_with fail
  refine (WX.out _ B6.out.cell).mono ?_
  rintro e w7 ⟨S5, rfl, hS5, hb⟩
  have z5 := hS5.2
  have B7 := Lib.hid (B6.out.next hb)
  clear hb
  go_wp2_with fail
  refine (WX.out _ B7.out.cell).mono ?_
  rintro e w8 ⟨S6, rfl, hS6, hb⟩
  have z6 := hS6.2
  have B8 := Lib.hid (B7.out.next hb)
  clear hb
  go_wp2_with fail
  have hcel := fun j => cells_new w8 #[Value.string ⟨#[]⟩, .string (⟨#[45]⟩ ++ S4), .string (S5 ++ ⟨#[32]⟩), .string (S6 ++ ⟨#[46]⟩), .string ⟨#[120]⟩] 9 j
  have hb9 : Below w8.heap.size w8 (w8.alloc (.cells #[Value.string ⟨#[]⟩, .string (⟨#[45]⟩ ++ S4), .string (S5 ++ ⟨#[32]⟩), .string (S6 ++ ⟨#[46]⟩), .string ⟨#[120]⟩] 9)) := (Below.refl _ _).alloc (Nat.le_refl _) _
  have hz9 : w8.heap.size < (w8.alloc (.cells #[Value.string ⟨#[]⟩, .string (⟨#[45]⟩ ++ S4), .string (S5 ++ ⟨#[32]⟩), .string (S6 ++ ⟨#[46]⟩), .string ⟨#[120]⟩] 9)).heap.size := by simp
  generalize w8.alloc (.cells #[Value.string ⟨#[]⟩, .string (⟨#[45]⟩ ++ S4), .string (S5 ++ ⟨#[32]⟩), .string (S6 ++ ⟨#[46]⟩), .string ⟨#[120]⟩] 9) = w9 at hcel hb9 hz9 ⊢
  have B9 := Lib.hid (B8.out.next hb9)
  have HNL := Lib.hid (nn_list S4 S5 S6 x hS4 hS5 hS6)
  have HCE := Lib.hid hcel
  clear hcel hb9
  go_loopw [84] (fun i wr => ∃ k : Nat, k ≤ 5 ∧ i = .int .i64 k ∧ Hid (Bx w wr z) ∧ Hid (Below w9.heap.size w9 wr)) (fun i _ => 5 - (intOf i).toNat)
  case atStart => exact ⟨0, by omega, rfl, B9, Lib.hid (Below.refl _ _)⟩
  case round =>
    obtain ⟨k, hk, rfl, HB, HW⟩ := hrel
    by_cases hlt : k < 5
    · obtain ⟨E, hE, hN, hEs⟩ := HNL.out k hlt
      have d0 : wr.cell? ⟨w8.heap.size, k, none⟩ = some (.string E) := (HW.out.cell (p := ⟨w8.heap.size, k, none⟩) hz9).trans ((HCE.out k).trans hE)
      have hv := fun w => nn_value E hN (by omega) w
      have hpp := fun S (hs : S.size ≤ 40) w => parts_to (E ++ ⟨#[58]⟩ ++ S) 0 0 280 (by rw [colon_app]; exact Tk.Nn.parts _ hN) (by simp only [ByteArray.size_append]; show E.size + 1 + S.size ≤ _; omega) w
      have HV := Lib.hid hv
      have HPP := Lib.hid hpp
      clear hE hN hv hpp
      go_wp2_with fail
      refine (HV.out _).mono ?_
      rintro e w' ⟨rfl, rfl⟩
      go_wp2_with fail
      refine (WY.out _ HB.out.cell).mono ?_
      rintro e w10 ⟨S, rfl, hS, hb⟩
      have zS := hS.2
      have BA := Lib.hid (HB.out.next hb)
      have BW := Lib.hid (HW.out.trans (hb.mono HW.out.size))
      clear hb
      go_wp2_with fail
      refine (HPP.out S zS _).mono ?_
      rintro e w' ⟨rfl, n2, rfl⟩
      go_wp2_with fail
      go_roundw
      case rel => exact ⟨k + 1, by omega, by go_num, Lib.hid (BA.out.drew n2), Lib.hid (below_drewN BW.out n2)⟩
      case measure => simp [intOf]; omega
    · obtain rfl : k = 5 := by omega
      go_wp2_with fail
      refine (WX.out _ HB.out.cell).mono ?_
      rintro e w10 ⟨S7, rfl, hS7, hb⟩
      have z7 := hS7.2
      have BA := Lib.hid (HB.out.next hb)
      have hv : ∀ w, Calls Tryd.prog 29 #[.string (⟨#[49]⟩ ++ S7 ++ ⟨#[48, 48, 48, 48, 48, 48, 48, 48, 48, 48]⟩)] w fun e w' => e = .returned (.tuple #[.int .i64 0, .int .i64 281]) ∧ w = w' := fun w => by
        refine (value_any _ w (by simp only [ByteArray.size_append]; show 1 + S7.size + 10 ≤ _; omega)).mono ?_
        rintro e w' ⟨he, hw⟩
        unfold valN valE at he
        rw [show (⟨#[49]⟩ ++ S7 ++ ⟨#[48, 48, 48, 48, 48, 48, 48, 48, 48, 48]⟩ : ByteArray).data.toList = 49 :: (S7.data.toList ++ [48, 48, 48, 48, 48, 48, 48, 48, 48, 48]) by simp, Tk.great _ _ hS7.1] at he
        exact ⟨he, hw⟩
      have HV := Lib.hid hv
      clear hb hv
      go_wp2_with fail
      refine (HV.out _).mono ?_
      rintro e w' ⟨rfl, rfl⟩
      go_wp2_with fail
      refine (WY.out _ BA.out.cell).mono ?_
      rintro e w11 ⟨S8, rfl, hS8, hb⟩
      have z8 := hS8.2
      have BC := Lib.hid (BA.out.next hb)
      have hpp := fun w => parts_to (S8 ++ ⟨#[58, 57, 57, 57, 57, 57, 57, 57, 57, 57, 57]⟩) 0 0 281 (by
        rw [show (S8 ++ ⟨#[58, 57, 57, 57, 57, 57, 57, 57, 57, 57, 57]⟩ : ByteArray).data.toList = S8.data.toList ++ 58 :: [57, 57, 57, 57, 57, 57, 57, 57, 57, 57] by simp]
        exact Tk.great_parts hS8.1 ly) (by simp only [ByteArray.size_append]; show S8.size + 11 ≤ _; omega) w
      have HPP := Lib.hid hpp
      clear hb hpp
      go_wp2_with fail
      refine (HPP.out _).mono ?_
      rintro e w' ⟨rfl, n2, rfl⟩
      go_wp2_with fail
      go_ret
      exact ⟨rfl, below_drewN BC.out.bel n2⟩
end Go.Proofs.YtihigfpikiaaiaaDoor
