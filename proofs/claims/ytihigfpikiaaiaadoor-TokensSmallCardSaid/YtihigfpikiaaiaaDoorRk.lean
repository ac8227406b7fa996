/- The walk of the law's tells. -/
import Derived.Test.YtihigfpikiaaiaaDoorRj
import Derived.Deep.RegionHeld3
import Derived.IntWalk
namespace Go.Proofs.YtihigfpikiaaiaaDoor
open Go.RowKit

theorem next_both (s : ByteArray) (a : Int) (hs : s.size ≤ 65536) : ∃ (k p e err : Nat), k ≤ 255 ∧
    (∀ w, Calls Tryd.prog 26 #[.string s, .int .i64 a] w fun r w' => r = .returned (.tuple #[.agg #[.int .u8 (k : Int), .int .i64 (p : Int), .int .i64 (e : Int)], .int .i64 (err : Int)]) ∧ Below w.heap.size w w') ∧
    (∀ w, Calls Tryd.prog 41 #[.string s, .int .i64 a] w fun r w' => r = .returned (.tuple #[.agg #[.int .i64 (k : Int), .int .i64 (p : Int), .int .i64 (e : Int)], .int .i64 (err : Int)]) ∧ Below w.heap.size w w') := by
  by_cases h : a < 0 ∨ (s.size : Int) < a
  · exact ⟨0, 0, 0, 2, by omega, fun w => next_out s a w (by omega) h, fun w => rnext_out s a w h⟩
  · obtain ⟨n, rfl⟩ : ∃ n : Nat, a = n := ⟨a.toNat, by omega⟩
    refine ⟨tkKind s (skipTo s n), skipTo s n, tkEnd s (skipTo s n), nxErr s (skipTo s n), ?_, fun w => next_any s n w (by omega) (by omega), fun w => rnext_in s n w (by omega) (by omega)⟩
    have := tkKind_le s (skipTo s n)
    omega
theorem line_both (s : ByteArray) (a : Int) (hs : s.size ≤ 65536) : ∃ (l c : Nat),
    (∀ w, MaxL w → Calls Tryd.prog 15 #[.string s, .int .i64 a] w fun r w' => r = .returned (.tuple #[.int .i64 (l : Int), .int .i64 (c : Int)]) ∧ Below w.heap.size w w') ∧
    (∀ w, Calls Tryd.prog 42 #[.string s, .int .i64 a] w fun r w' => r = .returned (.tuple #[.int .i64 (l : Int), .int .i64 (c : Int)]) ∧ w = w') := by
  by_cases h : a < 0 ∨ (s.size : Int) < a
  · exact ⟨0, 0, fun w _ => (line_out s a w h).mono fun _ _ ⟨e, hw⟩ => ⟨e, hw ▸ Below.refl _ _⟩, fun w => rline_out s a w h⟩
  · obtain ⟨n, rfl⟩ : ∃ n : Nat, a = n := ⟨a.toNat, by omega⟩
    exact ⟨lineAtN s n, colAtN s n, fun w hm => line_any' s n w (by omega) (by omega) hm, fun w => rline_any s n w (by omega) (by omega)⟩
theorem text_both (s : ByteArray) (k a e : Int) : ∃ S : ByteArray,
    (∀ w, Calls Tryd.prog 13 #[.string s, .agg #[.int .u8 k, .int .i64 a, .int .i64 e]] w fun r w' => r = .returned (.string S) ∧ Below w.heap.size w w') ∧
    (∀ w, Calls Tryd.prog 44 #[.string s, .agg #[.int .i64 k, .int .i64 a, .int .i64 e]] w fun r w' => r = .returned (.string S) ∧ Below w.heap.size w w') := by
  by_cases h : a < 0 ∨ e < a ∨ (s.size : Int) < e
  · exact ⟨⟨#[]⟩, fun w => text_out s k a e w h, fun w => rtext_out s k a e w h⟩
  · obtain ⟨n, rfl⟩ : ∃ n : Nat, a = n := ⟨a.toNat, by omega⟩
    obtain ⟨m, rfl⟩ : ∃ m : Nat, e = m := ⟨e.toNat, by omega⟩
    exact ⟨s.extract n m, fun w => text_in s k n m w (by omega) (by omega), fun w => rtext_in s k n m w (by omega) (by omega)⟩

set_option maxRecDepth 100000 in
set_option maxHeartbeats 16000000 in
theorem tells_in (s : ByteArray) (at_ k a e : Int) (w : World) (hm : MaxL w) (hs : s.size ≤ 400) (hk0 : 0 ≤ k) (hk1 : k ≤ 255) :
    Calls Tryd.prog 18 #[.string s, .int .i64 at_, .agg #[.int .u8 k, .int .i64 a, .int .i64 e]] w fun r w' => r = .returned (.bool true) ∧ Below w.heap.size w w' := by
  obtain ⟨nk, np, ne, nerr, hnk, hn1, hn2⟩ := next_both s at_ (by omega)
  obtain ⟨l, c, hl1, hl2⟩ := line_both s at_ (by omega)
  obtain ⟨S, ht1, ht2⟩ := text_both s k a e
  have hs1 := fun w => scan_toks s (by omega) w
  have hs2 := fun w => rscan_any s (by omega) w
  have htd1 := fun w => tidy_any s w (by omega)
  have htd2 := fun w => rtidy_any s w (by omega)
  have hln := scanL_len s
  have hkl : ∀ p, tkKind s p ≤ 4 := fun p => tkKind_le s p
  obtain ⟨tl, htl⟩ : ∃ tl, scanL s = tl := ⟨_, rfl⟩
  rw [htl] at hs1 hs2 hln
  have N1 := Lib.hid hn1
  have N2 := Lib.hid hn2
  have L1 := Lib.hid hl1
  have L2 := Lib.hid hl2
  have T1 := Lib.hid ht1
  have T2 := Lib.hid ht2
  have S1 := Lib.hid hs1
  have S2 := Lib.hid hs2
  have D1 := Lib.hid htd1
  have D2 := Lib.hid htd2
  have HM := Lib.hid hm
  have HKL := Lib.hid hkl
  clear hn1 hn2 hl1 hl2 ht1 ht2 hs1 hs2 htd1 htd2 hm htl hkl
  go_enter Tryd.func18, Tryd.ntmps18
  go_wp2_with fail
  have hB0 : Below w.heap.size w (w.alloc (.cells #[.int .u8 k, .int .i64 a, .int .i64 e] 29)) := (Below.refl _ _).alloc (Nat.le_refl _) _
  have hz0 : w.heap.size < (w.alloc (.cells #[.int .u8 k, .int .i64 a, .int .i64 e] 29)).heap.size := by simp
  have x0 : (w.alloc (.cells #[.int .u8 k, .int .i64 a, .int .i64 e] 29)).cell? ⟨w.heap.size, 0, none⟩ = some (.int .u8 k) := by simp [go_sem]
  have x1 : (w.alloc (.cells #[.int .u8 k, .int .i64 a, .int .i64 e] 29)).cell? ⟨w.heap.size, 1, none⟩ = some (.int .i64 a) := by simp [go_sem]
  have x2 : (w.alloc (.cells #[.int .u8 k, .int .i64 a, .int .i64 e] 29)).cell? ⟨w.heap.size, 2, none⟩ = some (.int .i64 e) := by simp [go_sem]
  have m0 := HM.out.next hB0
  generalize w.alloc (.cells #[.int .u8 k, .int .i64 a, .int .i64 e] 29) = w0 at hB0 hz0 x0 x1 x2 m0 ⊢
  have X0 := Lib.hid x0
  have X1 := Lib.hid x1
  have X2 := Lib.hid x2
  have B0 := Lib.hid hB0
  have M0 := Lib.hid m0
  clear x0 x1 x2 hB0 m0
  refine (S1.out _).mono ?_
  rintro r w1 ⟨A, cA, rfl, hT1, hb1⟩
  have q1 := hT1.1
  have Q1 := Lib.hid hT1
  have Z1 := Lib.hid hb1
  clear hT1 hb1
  go_wp2_with fail
  refine (S2.out _).mono ?_
  rintro r w2 ⟨A2, cB, rfl, q2, hT2, hb2⟩
  have Q2 := Lib.hid hT2
  have Z2 := Lib.hid hb2
  have B2 := Lib.hid (Z1.out.trans (Z2.out.mono Z1.out.size))
  clear hT2 hb2
  go_wp2_with fail
  go_loopw [54] (fun i wr => ∃ n : Nat, n ≤ tl.length ∧ i = .int .i64 n ∧ Below w2.heap.size w2 wr) (fun i _ => tl.length - (intOf i).toNat)
  case atStart => exact ⟨0, Nat.zero_le _, rfl, Below.refl _ _⟩
  case round =>
    obtain ⟨n, hn, rfl, hB⟩ := hrel
    by_cases hlt : n < tl.length
    · obtain ⟨p, hp⟩ : ∃ p, tl[n]? = some p := ⟨_, List.getElem?_eq_getElem hlt⟩
      obtain ⟨g1, rfl, hg1, c0, c1, c2⟩ := Q1.out.2.2 n p hp
      obtain ⟨g2, rfl, hg2, e0, e1, e2⟩ := Q2.out n p hp
      have z2 := Z2.out.size
      have d0 := (hB.cell (p := ⟨g1, n * 3, none⟩) (Nat.lt_of_lt_of_le hg1 z2)).trans ((Z2.out.cell (p := ⟨g1, n * 3, none⟩) hg1).trans c0)
      have d1 := (hB.cell (p := ⟨g1, n * 3 + 1, none⟩) (Nat.lt_of_lt_of_le hg1 z2)).trans ((Z2.out.cell (p := ⟨g1, n * 3 + 1, none⟩) hg1).trans c1)
      have d2 := (hB.cell (p := ⟨g1, n * 3 + 2, none⟩) (Nat.lt_of_lt_of_le hg1 z2)).trans ((Z2.out.cell (p := ⟨g1, n * 3 + 2, none⟩) hg1).trans c2)
      have f0 := (hB.cell (p := ⟨g2, n * 3, none⟩) hg2).trans e0
      have f1 := (hB.cell (p := ⟨g2, n * 3 + 1, none⟩) hg2).trans e1
      have f2 := (hB.cell (p := ⟨g2, n * 3 + 2, none⟩) hg2).trans e2
      have hkp := HKL.out p
      have hsz := hB.size
      have HB := Lib.hid hB
      clear hp c0 c1 c2 e0 e1 e2 hB
      go_wp2_with fail
      go_region_held3 (fun w' => w'.cell? ⟨g1, n * 3, none⟩ = some (.int .u8 (tkKind s p : Nat)) ∧ w'.cell? ⟨g1, n * 3 + 1, none⟩ = some (.int .i64 (p : Int)) ∧ w'.cell? ⟨g1, n * 3 + 2, none⟩ = some (.int .i64 (tkEnd s p : Nat)) ∧ w'.cell? ⟨g2, n * 3, none⟩ = some (.int .i64 (tkKind s p : Nat)) ∧ w'.cell? ⟨g2, n * 3 + 1, none⟩ = some (.int .i64 (p : Int)) ∧ w'.cell? ⟨g2, n * 3 + 2, none⟩ = some (.int .i64 (tkEnd s p : Nat)))
        (first | (go_split_ands; exact ⟨(hc3 g1 (n * 3) (by simp; omega)).trans (by first | assumption | (simp [*]; done)), (hc3 g1 (n * 3 + 1) (by simp; omega)).trans (by first | assumption | (simp [*]; done)), (hc3 g1 (n * 3 + 2) (by simp; omega)).trans (by first | assumption | (simp [*]; done)), (hc3 g2 (n * 3) (by simp; omega)).trans (by first | assumption | (simp [*]; done)), (hc3 g2 (n * 3 + 1) (by simp; omega)).trans (by first | assumption | (simp [*]; done)), (hc3 g2 (n * 3 + 2) (by simp; omega)).trans (by first | assumption | (simp [*]; done))⟩) | go_keep)
        ((go_at_call 40; refine (is_yes (tkKind s p : Nat) (p : Nat) (tkEnd s p : Nat) _ (by omega) (by omega)).mono ?_; rintro r w3 ⟨rfl, hb3⟩; obtain ⟨hc3, hf3⟩ := bcell hb3))
      have hB3 : Below w2.heap.size w2 w3 := HB.out.drew.trans (hb3.mono hsz)
      go_wp2
      go_roundw
      case rel => exact ⟨n + 1, by omega, by go_num, hB3⟩
      case measure => simp [intOf]; omega
    · obtain rfl : n = tl.length := by omega
      have m2 := M0.out.next B2.out
      have mr := m2.next hB
      have Br := Lib.hid (B2.out.trans (hB.mono B2.out.size))
      have MR := Lib.hid mr
      clear m2 mr hB
      go_wp2_with fail
      refine (N1.out _).mono ?_
      rintro r w3 ⟨rfl, hb3⟩
      have MR3 := Lib.hid (MR.out.next hb3)
      have Br3 := Lib.hid (Br.out.trans (hb3.mono Br.out.size))
      clear hb3
      go_wp2_with fail
      have hb3' : Below w3.heap.size w3 (w3.alloc (.cells #[.int .u8 (nk : Int), .int .i64 (np : Int), .int .i64 (ne : Int)] 29)) := (Below.refl _ _).alloc (Nat.le_refl _) _
      have x0 : (w3.alloc (.cells #[.int .u8 (nk : Int), .int .i64 (np : Int), .int .i64 (ne : Int)] 29)).cell? ⟨w3.heap.size, 0, none⟩ = some (.int .u8 (nk : Int)) := by simp [go_sem]
      have x1 : (w3.alloc (.cells #[.int .u8 (nk : Int), .int .i64 (np : Int), .int .i64 (ne : Int)] 29)).cell? ⟨w3.heap.size, 1, none⟩ = some (.int .i64 (np : Int)) := by simp [go_sem]
      have x2 : (w3.alloc (.cells #[.int .u8 (nk : Int), .int .i64 (np : Int), .int .i64 (ne : Int)] 29)).cell? ⟨w3.heap.size, 2, none⟩ = some (.int .i64 (ne : Int)) := by simp [go_sem]
      have zz : w3.heap.size < (w3.alloc (.cells #[.int .u8 (nk : Int), .int .i64 (np : Int), .int .i64 (ne : Int)] 29)).heap.size := by simp
      generalize w3.alloc (.cells #[.int .u8 (nk : Int), .int .i64 (np : Int), .int .i64 (ne : Int)] 29) = w4 at hb3' x0 x1 x2 zz ⊢
      have MR4 := Lib.hid (MR3.out.next hb3')
      have Br4 := Lib.hid (Br3.out.trans (hb3'.mono Br3.out.size))
      refine (N2.out _).mono ?_
      rintro r w5 ⟨rfl, hb5⟩
      obtain ⟨hc5, hf5⟩ := bcell hb5
      have y0 := (hc5 _ 0 zz).trans x0
      have y1 := (hc5 _ 1 zz).trans x1
      have y2 := (hc5 _ 2 zz).trans x2
      have z5 : w3.heap.size < w5.heap.size := Nat.lt_of_lt_of_le zz hb5.size
      have MR5 := Lib.hid (MR4.out.next hb5)
      have Br5 := Lib.hid (Br4.out.trans (hb5.mono Br4.out.size))
      clear x0 x1 x2 hb3' zz hc5 hf5 hb5
      go_wp2_with fail
      have hz5 : w0.heap.size ≤ w5.heap.size := Br5.out.size
      refine (is_yes (nk : Int) (np : Int) (ne : Int) _ (by omega) (by omega)).mono ?_
      rintro r w6 ⟨rfl, hb6⟩
      have Ba := (Br5.out.alloc hz5 (.cells #[.int .i64 (nk : Int), .int .i64 (np : Int), .int .i64 (ne : Int)] 82))
      have Br6 := Lib.hid (Ba.trans (hb6.mono Ba.size))
      have MR6 := Lib.hid (M0.out.next Br6.out)
      clear hb6 Ba y0 y1 y2 z5 hz5
      go_wp2_with fail
      refine (L1.out _ MR6.out).mono ?_
      rintro r w7 ⟨rfl, hb7⟩
      have Br7 := Lib.hid (Br6.out.trans (hb7.mono Br6.out.size))
      clear hb7
      go_wp2_with fail
      refine (L2.out _).mono ?_
      rintro r w8 ⟨rfl, rfl⟩
      go_wp2_with fail
      refine (D1.out _).mono ?_
      rintro r w8 ⟨rfl, hb8⟩
      have Br8 := Lib.hid (Br7.out.trans (hb8.mono Br7.out.size))
      clear hb8
      go_wp2_with fail
      refine (D2.out _).mono ?_
      rintro r w9 ⟨rfl, hb9⟩
      have Br9 := Lib.hid (Br8.out.trans (hb9.mono Br8.out.size))
      clear hb9
      have y0 := (Br9.out.cell (p := ⟨w.heap.size, 0, none⟩) hz0).trans X0.out
      have y1 := (Br9.out.cell (p := ⟨w.heap.size, 1, none⟩) hz0).trans X1.out
      have y2 := (Br9.out.cell (p := ⟨w.heap.size, 2, none⟩) hz0).trans X2.out
      have z9 : w.heap.size < w9.heap.size := Nat.lt_of_lt_of_le hz0 Br9.out.size
      go_wp2_with fail
      have ZB := Br9.out
      clear N1 N2 L1 L2 S1 S2 D1 D2 HM HKL Q1 Z1 Q2 Z2 B2 MR MR3 MR4 MR5 MR6 M0 Br Br3 Br4 Br5 Br6 Br7 Br8 Br9 X0 X1 X2
      have hwk : IntKind.i64.wrap k = k := IntWalk.i64_in _ (by omega)
      go_region_held3 (fun w' => Below w0.heap.size w0 w' ∧ w.heap.size < w'.heap.size ∧ w'.cell? ⟨w.heap.size, 0, none⟩ = some (.int .u8 k) ∧ w'.cell? ⟨w.heap.size, 1, none⟩ = some (.int .i64 a) ∧ w'.cell? ⟨w.heap.size, 2, none⟩ = some (.int .i64 e))
        (first | exact ⟨ZB.drew, z9, y0, y1, y2⟩ | (go_split_ands; exact ⟨Below.trans (by first | assumption | exact ZB.drew) (hb3.mono (Below.size (by first | assumption | exact ZB.drew))), Nat.lt_of_lt_of_le (by first | assumption | (simp; assumption) | exact z9 | exact y0 | exact y1 | exact y2) hb3.size, (hc3 w.heap.size 0 (by first | assumption | (simp; assumption) | exact z9 | exact y0 | exact y1 | exact y2)).trans (by first | assumption | (simp; assumption) | exact z9 | exact y0 | exact y1 | exact y2), (hc3 w.heap.size 1 (by first | assumption | (simp; assumption) | exact z9 | exact y0 | exact y1 | exact y2)).trans (by first | assumption | (simp; assumption) | exact z9 | exact y0 | exact y1 | exact y2), (hc3 w.heap.size 2 (by first | assumption | (simp; assumption) | exact z9 | exact y0 | exact y1 | exact y2)).trans (by first | assumption | (simp; assumption) | exact z9 | exact y0 | exact y1 | exact y2)⟩) | go_keep)
        ((first | (go_at_call 13; refine (T1.out _).mono ?_; rintro r wx ⟨rfl, hb3⟩; obtain ⟨hc3, hf3⟩ := bcell hb3) | (go_at_call 44; refine (T2.out _).mono ?_; rintro r wx ⟨rfl, hb3⟩; obtain ⟨hc3, hf3⟩ := bcell hb3)))
      go_wp2
      go_ret
      exact ⟨rfl, B0.out.trans ((‹Below w0.heap.size w0 wx ∧ _›).1.mono B0.out.size)⟩

set_option maxHeartbeats 1000000 in
theorem tells_any (s : ByteArray) (at_ k a e : Int) (w : World) (hm : MaxL w) (hk0 : 0 ≤ k) (hk1 : k ≤ 255) :
    Calls Tryd.prog 18 #[.string s, .int .i64 at_, .agg #[.int .u8 k, .int .i64 a, .int .i64 e]] w fun r w' => r = .returned (.bool true) ∧ Below w.heap.size w w' := by
  by_cases hs : s.size ≤ 400
  · exact tells_in s at_ k a e w hm hs hk0 hk1
  · have hl : 400 < s.size := by omega
    go_enter Tryd.func18, Tryd.ntmps18
    go_wp2
    go_ret
    exact ⟨rfl, by go_grown⟩

theorem ttells_any (s : ByteArray) (at_ k a e : Int) (w : World) (hm : MaxL w) (hk0 : 0 ≤ k) (hk1 : k ≤ 255) :
    Calls Tryd.prog 6 #[.string s, .int .i64 at_, .agg #[.int .u8 k, .int .i64 a, .int .i64 e]] w fun r w' => r = .returned (.bool true) ∧ Below w.heap.size w w' := by
  go_enter Tryd.func6, Tryd.ntmps6
  go_wp2_with fail
  refine (tells_any s at_ k a e _ (hm.next ((Below.refl _ _).alloc (Nat.le_refl _) _)) hk0 hk1).mono ?_
  rintro r w1 ⟨rfl, hb⟩
  have hB1 : Below w.heap.size w w1 := ((Below.refl _ _).alloc (Nat.le_refl _) _).trans (hb.mono (by simp))
  go_wp2_with fail
  refine (awake_any _ (hm.next hB1)).mono ?_
  rintro e w2 ⟨rfl, hb2⟩
  go_wp2_with fail
  go_ret
  exact ⟨rfl, hB1.trans (hb2.mono hB1.size)⟩
end Go.Proofs.YtihigfpikiaaiaaDoor
