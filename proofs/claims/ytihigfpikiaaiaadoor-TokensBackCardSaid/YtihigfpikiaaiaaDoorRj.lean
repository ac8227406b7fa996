/- The walks of the reference's Text and Tidy, and of the law's is. -/
import Derived.Test.YtihigfpikiaaiaaDoorRi
namespace Go.Proofs.YtihigfpikiaaiaaDoor
open Go.RowKit

set_option maxHeartbeats 400000 in
theorem rtext_in (s : ByteArray) (k : Int) (a e : Nat) (w : World) (h1 : a ≤ e) (h2 : e ≤ s.size) :
    Calls Tryd.prog 44 #[.string s, .agg #[.int .i64 k, .int .i64 (a : Int), .int .i64 (e : Int)]] w fun r w' => r = .returned (.string (s.extract a e)) ∧ Below w.heap.size w w' := by
  go_enter Tryd.func44, Tryd.ntmps44
  go_wp2
  go_ret
  exact ⟨rfl, by go_grown⟩

set_option maxHeartbeats 400000 in
theorem rtext_out (s : ByteArray) (k a e : Int) (w : World) (h : a < 0 ∨ e < a ∨ (s.size : Int) < e) :
    Calls Tryd.prog 44 #[.string s, .agg #[.int .i64 k, .int .i64 a, .int .i64 e]] w fun r w' => r = .returned (.string ⟨#[]⟩) ∧ Below w.heap.size w w' := by
  by_cases h1 : a < 0
  · have d1 : decide ((0 : Int) ≤ a) = false := by simp; omega
    go_enter Tryd.func44, Tryd.ntmps44
    go_wp2
    go_ret
    exact ⟨rfl, by go_grown⟩
  · have d1 : decide ((0 : Int) ≤ a) = true := by simp; omega
    by_cases h2 : e < a
    · have d2 : decide (a ≤ e) = false := by simp; omega
      go_enter Tryd.func44, Tryd.ntmps44
      go_wp2
      go_ret
      exact ⟨rfl, by go_grown⟩
    · have d2 : decide (a ≤ e) = true := by simp; omega
      have d3 : decide (e ≤ (s.size : Int)) = false := by simp; omega
      go_enter Tryd.func44, Tryd.ntmps44
      go_wp2
      go_ret
      exact ⟨rfl, by go_grown⟩

/-! ### Tidy -/
theorem join_snoc (xs : List (List UInt8)) (x sep : List UInt8) (h : xs ≠ []) : Lib.join (xs ++ [x]) sep = Lib.join xs sep ++ sep ++ x := by
  cases xs with
  | nil => exact absurd rfl h
  | cons y r =>
    rw [List.cons_append, Lib.join_cons, Lib.join_cons]
    simp [Lib.joinTail]
def joinTo (s : ByteArray) (tl : List Nat) (k : Nat) : ByteArray := ⟨(Lib.join ((tl.take k).map fun p => (tokS s p).data.toList) [32]).toArray⟩
theorem joinTo_zero (s : ByteArray) (tl : List Nat) : joinTo s tl 0 = ⟨#[]⟩ := rfl
theorem joinTo_one (s : ByteArray) (tl : List Nat) (p : Nat) (h : tl[0]? = some p) : ⟨#[]⟩ ++ s.extract p (tkEnd s p) = joinTo s tl 1 := by
  unfold joinTo
  rw [List.take_add_one, h]
  simp only [List.take_zero, List.nil_append, Option.toList_some, List.map_cons, List.map_nil, Lib.join_one, tokS]
  apply ByteArray.ext
  apply Array.toList_inj.1
  simp
theorem joinTo_step (s : ByteArray) (tl : List Nat) (k p : Nat) (h : tl[k]? = some p) (hk : 0 < k) : joinTo s tl k ++ ⟨#[32]⟩ ++ s.extract p (tkEnd s p) = joinTo s tl (k + 1) := by
  have hl : k < tl.length := by
    rcases Nat.lt_or_ge k tl.length with h2 | h2
    · exact h2
    · rw [List.getElem?_eq_none h2] at h; cases h
  unfold joinTo
  rw [List.take_add_one, h, Option.toList_some, List.map_append, List.map_cons, List.map_nil, join_snoc _ _ _ (by
    intro e
    have := congrArg List.length e
    rw [List.length_map, List.length_take, List.length_nil] at this
    omega)]
  apply ByteArray.ext
  apply Array.toList_inj.1
  simp [tokS]
theorem joinTo_len (s : ByteArray) (tl : List Nat) (k : Nat) (hs : s.size ≤ 65536) (hk : k ≤ s.size) : (joinTo s tl k).size ≤ 4295032832 := by
  have h := join_len ((tl.take k).map fun p => (tokS s p).data.toList) s.size (fun x hx => by
    simp only [List.mem_map] at hx
    obtain ⟨p, _, rfl⟩ := hx
    exact tokS_len s p)
  have h1 : (joinTo s tl k).size = (Lib.join ((tl.take k).map fun p => (tokS s p).data.toList) [32]).length := by unfold joinTo; simp [ByteArray.size]
  rw [List.length_map, List.length_take] at h
  have h2 : min k tl.length * (s.size + 1) ≤ 65536 * 65537 := Nat.mul_le_mul (by omega) (by omega)
  omega
theorem joinTo_all (s : ByteArray) : joinTo s (scanL s) (scanL s).length = tidyS s := by
  unfold joinTo tidyS tidyL
  rw [List.take_length]

set_option maxRecDepth 100000 in
set_option maxHeartbeats 1000000 in
theorem rtidy_any (s : ByteArray) (w : World) (hs : s.size ≤ 65536) :
    Calls Tryd.prog 43 #[.string s] w fun e w' => e = .returned (.tuple #[.string (tidyS s), .int .i64 (stopAt s : Nat), .int .i64 (scanErr s : Nat)]) ∧ Below w.heap.size w w' := by
  have hfin := joinTo_all s
  have hsc := fun w => rscan_any s hs w
  have hln := scanL_len s
  have hmem := scanL_le s
  obtain ⟨tl, htl⟩ : ∃ tl, scanL s = tl := ⟨_, rfl⟩
  rw [htl] at hfin hsc hln hmem
  have HF := Lib.hid hfin
  have HSC := Lib.hid hsc
  have HM := Lib.hid hmem
  clear hfin hsc hmem htl
  go_enter Tryd.func43, Tryd.ntmps43
  go_wp2_with fail
  refine (HSC.out _).mono ?_
  rintro e w1 ⟨A, c, rfl, hc, hT, hb1⟩
  have HT := Lib.hid hT
  have HB1 := Lib.hid hb1
  clear hT hb1
  go_wp2_with fail
  go_loopw [8, 9] (fun v i wr => ∃ k : Nat, k ≤ tl.length ∧ i = .int .i64 k ∧ v = .string (joinTo s tl k) ∧ Below w1.heap.size w1 wr) (fun _ i _ => tl.length - (intOf i).toNat)
  case atStart => exact ⟨0, Nat.zero_le _, rfl, rfl, Below.refl _ _⟩
  case round =>
    obtain ⟨k, hk, rfl, rfl, hB⟩ := hrel
    by_cases hlt : k < tl.length
    · obtain ⟨p, hp⟩ : ∃ p, tl[k]? = some p := ⟨_, List.getElem?_eq_getElem hlt⟩
      obtain ⟨g, rfl, hg, c0, c1, c2⟩ := HT.out k p hp
      have d0 := (hB.cell (p := ⟨g, k * 3, none⟩) hg).trans c0
      have d1 := (hB.cell (p := ⟨g, k * 3 + 1, none⟩) hg).trans c1
      have d2 := (hB.cell (p := ⟨g, k * 3 + 2, none⟩) hg).trans c2
      have hpm : p ≤ s.size := HM.out p (List.mem_of_getElem? hp)
      have hpe := tkEnd_le s p hpm
      have hpg := tkEnd_ge s p
      have hjl := joinTo_len s tl k hs (by omega)
      have hts : (s.extract p (tkEnd s p)).size ≤ s.size := by simp; omega
      have HB := Lib.hid hB
      have htx := fun w => rtext_in s (tkKind s p : Nat) p (tkEnd s p) w hpg hpe
      have HTX := Lib.hid htx
      clear hB c0 c1 c2 htx
      by_cases h0 : 0 < k
      · have HJ := Lib.hid (joinTo_step s tl k p hp h0)
        clear hp
        go_wp2_with fail
        refine (HTX.out _).mono ?_
        rintro e w2 ⟨rfl, hb2⟩
        go_wp2_with fail
        go_roundw
        case rel => exact ⟨k + 1, by omega, by go_num, by rw [HJ.out], HB.out.trans (hb2.mono HB.out.size)⟩
        case measure => simp [intOf]; omega
      · obtain rfl : k = 0 := by omega
        have HJ := Lib.hid (joinTo_one s tl p hp)
        have HZ := joinTo_zero s tl
        clear hp
        go_wp2_with fail
        refine (HTX.out _).mono ?_
        rintro e w2 ⟨rfl, hb2⟩
        go_wp2_with fail
        go_roundw
        case rel => exact ⟨1, by omega, by go_num, by rw [← HJ.out], HB.out.trans (hb2.mono HB.out.size)⟩
        case measure => simp [intOf]; omega
    · obtain rfl : k = tl.length := by omega
      have HB := Lib.hid hB
      clear hB
      go_wp2_with fail
      go_ret3
      exact ⟨by rw [← HF.out]; rfl, HB1.out.trans (HB.out.mono HB1.out.size)⟩

/-! ### is -/
set_option maxHeartbeats 400000 in
theorem is_yes (k a e : Int) (w : World) (h0 : 0 ≤ k) (h1 : k ≤ 255) :
    Calls Tryd.prog 40 #[.agg #[.int .u8 k, .int .i64 a, .int .i64 e], .agg #[.int .i64 k, .int .i64 a, .int .i64 e]] w fun r w' => r = .returned (.bool true) ∧ Below w.heap.size w w' := by
  go_enter Tryd.func40, Tryd.ntmps40
  go_wp2
  go_ret
  exact ⟨rfl, by go_grown⟩
end Go.Proofs.YtihigfpikiaaiaaDoor
