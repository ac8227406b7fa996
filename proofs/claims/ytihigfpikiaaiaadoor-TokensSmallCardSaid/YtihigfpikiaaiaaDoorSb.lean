/- The walk of TokensSmall. -/
import Derived.Test.YtihigfpikiaaiaaDoorSa
import Derived.IntWalk
namespace Go.Proofs.YtihigfpikiaaiaaDoor
open Go.RowKit

theorem tmod_nat (n m : Nat) : (n : Int).tmod (m : Int) = ((n % m : Nat) : Int) := (Int.ofNat_tmod n m).symm
theorem tdiv_nat (n m : Nat) : (n : Int).tdiv (m : Int) = ((n / m : Nat) : Int) := (Int.ofNat_tdiv n m).symm
def piecesB : List ByteArray := [⟨#[]⟩, ⟨#[97]⟩, ⟨#[49]⟩, ⟨#[58]⟩, ⟨#[60]⟩, ⟨#[61]⟩, ⟨#[62]⟩, ⟨#[33]⟩, ⟨#[46]⟩, ⟨#[32]⟩, ⟨#[10]⟩, ⟨#[35]⟩, ⟨#[43]⟩, ⟨#[65]⟩]
def pieceAt (j : Nat) : ByteArray := piecesB.getD j ⟨#[]⟩
theorem conv_one (c : Nat) (hc : c < 256) (w : World) : ∃ bb : ByteArray, bb.size ≤ 1 ∧ (convert 30 9 (.slice (some ⟨w.heap.size, 0, none⟩) 1 1)).run Tryd.prog (w.alloc (.cells #[.int .u8 (c : Int)] 5)) = .ok (.string bb) (w.alloc (.cells #[.int .u8 (c : Int)] 5)) := by
  refine ⟨⟨#[UInt8.ofNat c]⟩, by show 1 ≤ 1; omega, ?_⟩
  refine run_convert_bytes_back (w.alloc (.cells #[.int .u8 (c : Int)] 5)) 30 9 5 ⟨w.heap.size, 0, none⟩ 1 [UInt8.ofNat c] Tryd.underlying30 Tryd.underlying5 Tryd.underlying9 (fun j hj => ?_)
  obtain rfl : j = 0 := by simp at hj; omega
  rw [show (⟨w.heap.size, 0, none⟩ : Addr).add 0 = ⟨w.heap.size, 0, none⟩ from rfl, cells_new]
  simp only [List.getElem_cons_zero]
  rw [UInt8.toNat_ofNat_of_lt' hc]
  rfl
theorem strs_cell (w : World) (xs : List ByteArray) (j : Nat) (hj : j < xs.length) : ∃ E, (w.alloc (.cells (xs.map Value.string).toArray 9)).cell? ⟨w.heap.size, j, none⟩ = some (.string E) := by
  rw [cells_new]
  exact ⟨xs[j], by rw [List.getElem?_toArray, List.getElem?_map, List.getElem?_eq_getElem hj]; rfl⟩
theorem ints_cell (w : World) (xs : List Int) (j : Nat) (hj : j < xs.length) : ∃ E, (w.alloc (.cells (xs.map (Value.int .i64)).toArray 3)).cell? ⟨w.heap.size, j, none⟩ = some (.int .i64 E) := by
  rw [cells_new]
  exact ⟨xs[j], by rw [List.getElem?_toArray, List.getElem?_map, List.getElem?_eq_getElem hj]; rfl⟩
theorem rep_str (c : UInt8) (k : Nat) (hk : k ≤ 100000) (w : World) : Calls Tryd.prog 28 #[.string ⟨#[c]⟩, .int .i64 (k : Int)] w fun e w' => e = .returned (.string (repS c k)) ∧ Below w.heap.size w w' :=
  Tryd.strings_Repeat ⟨#[c]⟩ k w (by omega) (by show 1 * k ≤ _; omega)
theorem scan_spaces (k : Nat) (hk : k ≤ 65536) (w : World) : Calls Tryd.prog 11 #[.string (repS 32 k)] w fun e W' => ∃ (A : Option Addr) (n c : Nat), e = .returned (.tuple #[.slice A n c, .int .i64 (k : Int), .int .i64 0]) ∧ Below w.heap.size w W' := by
  refine (scan_toks (repS 32 k) (by rw [repS_size]; exact hk) w).mono ?_
  rintro e w' ⟨A, c, he, _, hb⟩
  rw [(spaces_scan k).1, (spaces_scan k).2] at he
  exact ⟨A, _, c, he, hb⟩
theorem scan_plus (k : Nat) (hk : k ≤ 65536) (w : World) : Calls Tryd.prog 11 #[.string (repS 43 k)] w fun e W' => ∃ (A : Option Addr) (c : Nat), e = .returned (.tuple #[.slice A k c, .int .i64 (k : Int), .int .i64 0]) ∧ Below w.heap.size w W' := by
  refine (scan_toks (repS 43 k) (by rw [repS_size]; exact hk) w).mono ?_
  rintro e w' ⟨A, c, he, _, hb⟩
  rw [(plus_scan k).1, (plus_scan k).2.1, (plus_scan k).2.2] at he
  exact ⟨A, c, he, hb⟩
theorem next_spaces (k a : Nat) (hk : k ≤ 65536) (ha : a ≤ k) (w : World) : Calls Tryd.prog 26 #[.string (repS 32 k ++ ⟨#[97]⟩), .int .i64 (a : Int)] w fun e w' => e = .returned (.tuple #[.agg #[.int .u8 1, .int .i64 (k : Int), .int .i64 ((k + 1 : Nat) : Int)], .int .i64 0]) ∧ Below w.heap.size w w' := by
  refine (next_any (spacesA k) a w (by rw [spacesA_size]; omega) (by rw [spacesA_size]; omega)).mono ?_
  rintro e w' ⟨he, hb⟩
  rw [spacesA_skip k a ha, (spacesA_tok k).1, (spacesA_tok k).2.1, (spacesA_tok k).2.2] at he
  exact ⟨he, hb⟩
def piecesW (w : World) : World := w.alloc (.cells (piecesB.map Value.string).toArray 9)
theorem piecesW_cell (w : World) (j : Nat) (hj : j < 14) : (piecesW w).cell? ⟨w.heap.size, j, none⟩ = some (.string (pieceAt j)) := by
  unfold piecesW
  rw [cells_new]
  have h1 : j < piecesB.length := hj
  rw [List.getElem?_toArray, List.getElem?_map, List.getElem?_eq_getElem h1, pieceAt, List.getD_eq_getElem?_getD, List.getElem?_eq_getElem h1]
  rfl
theorem piecesW_below (w : World) : Below w.heap.size w (piecesW w) := (Below.refl _ _).alloc (Nat.le_refl _) _
theorem piece_size (j : Nat) : (pieceAt j).size ≤ 1 := by
  by_cases h : j < 14
  · rcases (show j = 0 ∨ j = 1 ∨ j = 2 ∨ j = 3 ∨ j = 4 ∨ j = 5 ∨ j = 6 ∨ j = 7 ∨ j = 8 ∨ j = 9 ∨ j = 10 ∨ j = 11 ∨ j = 12 ∨ j = 13 by omega) with h | h | h | h | h | h | h | h | h | h | h | h | h | h <;> subst h <;> decide
  · unfold pieceAt
    rw [List.getD_eq_getElem?_getD, List.getElem?_eq_none (by show 14 ≤ j; omega)]
    decide

set_option maxRecDepth 1000000 in
set_option maxHeartbeats 4000000 in
theorem small_any (w : World) (hm : MaxL w) :
    Calls Tryd.prog 9 #[] w fun e w' => e = .returned (.bool true) ∧ Below w.heap.size w w' := by
  go_enter Tryd.func9, Tryd.ntmps9
  go_wp2_with fail
  show Code.wp _ _ _ _ (piecesW w)
  have hB := piecesW_below w
  have hC := piecesW_cell w
  have hZ : w.heap.size < (piecesW w).heap.size := by unfold piecesW; simp
  generalize piecesW w = w1 at hB hC hZ ⊢
  have M1 := Lib.hid (hm.next hB)
  have HC := Lib.hid hC
  clear hC
  go_loopw [26] (fun i wr => ∃ n : Nat, n ≤ 38416 ∧ i = .int .i64 n ∧ Hid (Below w1.heap.size w1 wr)) (fun i _ => 38416 - (intOf i).toNat)
  case atStart => exact ⟨0, by omega, rfl, Lib.hid (Below.refl _ _)⟩
  case round =>
    obtain ⟨n, hn, rfl, HB⟩ := hrel
    by_cases hlt : n < 38416
    · have c1 := (HB.out.cell (p := ⟨w.heap.size, n % 14, none⟩) hZ).trans (HC.out (n % 14) (by omega))
      have c2 := (HB.out.cell (p := ⟨w.heap.size, n / 14 % 14, none⟩) hZ).trans (HC.out (n / 14 % 14) (by omega))
      have c3 := (HB.out.cell (p := ⟨w.heap.size, n / 196 % 14, none⟩) hZ).trans (HC.out (n / 196 % 14) (by omega))
      have c4 := (HB.out.cell (p := ⟨w.heap.size, n / 2744, none⟩) hZ).trans (HC.out (n / 2744) (by omega))
      have s1 := piece_size (n % 14)
      have s2 := piece_size (n / 14 % 14)
      have s3 := piece_size (n / 196 % 14)
      have s4 := piece_size (n / 2744)
      go_wp2_with fail
      have h1 : (n : Int).tmod 14 = ((n % 14 : Nat) : Int) := tmod_nat n 14
      have h2 : (n : Int).tdiv 14 = ((n / 14 : Nat) : Int) := tdiv_nat n 14
      have h3 : ((n / 14 : Nat) : Int).tmod 14 = ((n / 14 % 14 : Nat) : Int) := tmod_nat _ 14
      have h4 : (n : Int).tdiv 196 = ((n / 196 : Nat) : Int) := tdiv_nat n 196
      have h5 : ((n / 196 : Nat) : Int).tmod 14 = ((n / 196 % 14 : Nat) : Int) := tmod_nat _ 14
      have h6 : (n : Int).tdiv 2744 = ((n / 2744 : Nat) : Int) := tdiv_nat n 2744
      go_quiet (fail)
      have hBn := below_drewN HB.out nq
      generalize wr.drewN nq = w2 at hBn ⊢
      have M2 := M1.out.next hBn
      clear h1 h2 h3 h4 h5 h6 c1 c2 c3 c4 s1 s2 s3 s4
      generalize pieceAt (n % 14) ++ pieceAt (n / 14 % 14) ++ pieceAt (n / 196 % 14) ++ pieceAt (n / 2744) = S
      have HBn := Lib.hid hBn
      clear hBn
      by_cases h7 : n % 7 = 0
      · have e7 : ((n : Int) % 7 == 0) = true := by simp; omega
        clear h7
        go_wp2_with fail
        refine (tells_any _ _ _ _ _ _ M2 (by omega) (by omega)).mono ?_
        rintro e w3 ⟨rfl, hb⟩
        go_wp2_with fail
        refine (values_any _ _).mono ?_
        rintro e w4 ⟨rfl, hb2⟩
        go_wp2_with fail
        go_roundw
        case rel => exact ⟨n + 1, by omega, by go_num, Lib.hid (HBn.out.trans ((hb.trans (hb2.mono hb.size)).mono HBn.out.size))⟩
        case measure => simp [intOf]; omega
      · have e7 : ((n : Int) % 7 == 0) = false := by simp; omega
        clear h7
        go_wp2_with fail
        refine (tells_any _ _ _ _ _ _ M2 (by omega) (by omega)).mono ?_
        rintro e w3 ⟨rfl, hb⟩
        go_wp2_with fail
        go_roundw
        case rel => exact ⟨n + 1, by omega, by go_num, Lib.hid (HBn.out.trans (hb.mono HBn.out.size))⟩
        case measure => simp [intOf]; omega
    · have hdn : decide ((n : Int) < 38416) = false := by simp; omega
      have B1 := Lib.hid (hB.trans (HB.out.mono hB.size))
      clear HC hZ M1 HB hB
      go_wp2_with fail
      go_loopw [76] (fun i wr => ∃ n : Nat, n ≤ 256 ∧ i = .int .i64 n ∧ Hid (Below w.heap.size w wr)) (fun i _ => 256 - (intOf i).toNat)
      case atStart => exact ⟨0, by omega, rfl, B1⟩
      case round =>
        obtain ⟨c, hc, rfl, HB⟩ := hrel
        by_cases hlt : c < 256
        · obtain ⟨bb, hbb, hcv⟩ := conv_one c hlt wr
          go_wp2_with fail
          obtain ⟨xs, hxs⟩ : ∃ xs : List ByteArray, xs = [bb, ⟨#[97]⟩ ++ bb ++ ⟨#[98]⟩, ⟨#[49]⟩ ++ bb ++ ⟨#[50]⟩, ⟨#[49, 58]⟩ ++ bb, bb ++ ⟨#[49]⟩, ⟨#[35, 32]⟩ ++ bb ++ ⟨#[10, 97]⟩, bb ++ ⟨#[61]⟩, ⟨#[60]⟩ ++ bb, ⟨#[97, 32]⟩ ++ bb ++ ⟨#[32, 98]⟩] := ⟨_, rfl⟩
          have hxl : xs.length = 9 := by rw [hxs]; rfl
          have hC := strs_cell (wr.alloc (.cells #[.int .u8 (c : Int)] 5)) xs
          rw [hxl] at hC
          have hA : Below w.heap.size w ((wr.alloc (.cells #[.int .u8 (c : Int)] 5)).alloc (.cells (xs.map Value.string).toArray 9)) := (HB.out.alloc HB.out.size _).alloc (by have := HB.out.size; simp; omega) _
          have hZ : (wr.alloc (.cells #[.int .u8 (c : Int)] 5)).heap.size < ((wr.alloc (.cells #[.int .u8 (c : Int)] 5)).alloc (.cells (xs.map Value.string).toArray 9)).heap.size := by simp
          have hZ2 : (wr.alloc (.cells #[.int .u8 (c : Int)] 5)).heap.size = wr.heap.size + 1 := by simp
          rw [hZ2] at hC hZ
          rw [hxs] at hC hA hZ
          simp only [List.map_cons, List.map_nil] at hC hA hZ
          generalize (wr.alloc (.cells #[.int .u8 (c : Int)] 5)).alloc _ = w2 at hC hA hZ ⊢
          have HC := Lib.hid hC
          have HA := Lib.hid hA
          clear hC hA hcv hxs hxl hZ2
          have hdc : decide ((c : Int) < 256) = true := by simp; omega
          try simp only [hdc]
          go_loopw [106] (fun i wr => ∃ n : Nat, n ≤ 9 ∧ i = .int .i64 n ∧ Hid (Below w2.heap.size w2 wr)) (fun i _ => 9 - (intOf i).toNat)
          case atStart => exact ⟨0, by omega, rfl, Lib.hid (Below.refl _ _)⟩
          case round =>
            obtain ⟨n, hn, rfl, HW⟩ := hrel
            by_cases hlt2 : n < 9
            · obtain ⟨E, hE⟩ := HC.out n hlt2
              have d0 := (HW.out.cell (p := ⟨_, n, none⟩) hZ).trans hE
              have hB3 := Lib.hid (HA.out.trans (HW.out.mono HA.out.size))
              have hI := ints_cell wr [0, 1, (E.size : Int)]
              have hI2 : Below wr.heap.size wr (wr.alloc (.cells ([0, 1, (E.size : Int)].map (Value.int .i64)).toArray 3)) := (Below.refl _ _).alloc (Nat.le_refl _) _
              have hI3 : wr.heap.size < (wr.alloc (.cells ([0, 1, (E.size : Int)].map (Value.int .i64)).toArray 3)).heap.size := by simp
              simp only [List.map_cons, List.map_nil, List.length_cons, List.length_nil] at hI hI2 hI3
              clear hE
              go_wp2_with fail
              generalize wr.alloc _ = w3 at hI hI2 hI3 ⊢
              have HG := Lib.hid (show ∀ (wr2 : World) (m : Nat) (x : Value), Below w3.heap.size w3 wr2 → w3.cell? ⟨wr.heap.size, m, none⟩ = some x → wr2.cell? ⟨wr.heap.size, m, none⟩ = some x from fun wr2 m x h hx => (h.cell (p := ⟨wr.heap.size, m, none⟩) hI3).trans hx)
              have HI := Lib.hid hI
              have HI2 := Lib.hid hI2
              clear hI hI2
              have hdc : decide ((n : Int) < 9) = true := by simp; omega
              try simp only [hdc]
              go_loopw [114] (fun i wr => ∃ n : Nat, n ≤ 3 ∧ i = .int .i64 n ∧ Hid (Below w3.heap.size w3 wr)) (fun i _ => 3 - (intOf i).toNat)
              case atStart => exact ⟨0, by omega, rfl, Lib.hid (Below.refl _ _)⟩
              case round =>
                obtain ⟨m, hm3, rfl, HV⟩ := hrel
                by_cases hlt3 : m < 3
                · obtain ⟨x, hx⟩ := HI.out m (by omega)
                  have d1 := HG.out _ _ _ HV.out hx
                  have hBB := Lib.hid (hB3.out.trans ((HI2.out.trans (HV.out.mono HI2.out.size)).mono hB3.out.size))
                  have MM := hm.next hBB.out
                  clear hx
                  go_wp2_with fail
                  refine (tells_any _ _ 0 _ _ _ MM (by omega) (by omega)).mono ?_
                  rintro e w4 ⟨rfl, hb⟩
                  go_wp2_with fail
                  refine (values_any _ _).mono ?_
                  rintro e w5 ⟨rfl, hb2⟩
                  go_wp2_with fail
                  go_roundw
                  case rel => exact ⟨m + 1, by omega, by go_num, Lib.hid (HV.out.trans ((hb.trans (hb2.mono hb.size)).mono HV.out.size))⟩
                  case measure => simp [intOf]; omega
                · obtain rfl : m = 3 := by omega
                  go_wp2_with fail
                  go_roundw
                  case rel => exact ⟨n + 1, by omega, by go_num, Lib.hid (HW.out.trans ((HI2.out.trans (HV.out.mono HI2.out.size)).mono HW.out.size))⟩
                  case measure => simp [intOf]; omega
            · obtain rfl : n = 9 := by omega
              go_wp2_with fail
              go_roundw
              case rel => exact ⟨c + 1, by omega, by go_num, Lib.hid (HA.out.trans (HW.out.mono HA.out.size))⟩
              case measure => simp [intOf]; omega
        · have hdc : decide ((c : Int) < 256) = false := by simp; omega
          have hI := ints_cell wr [-9223372036854775808, -1, 0, 2, 3, 4, 9223372036854775807]
          have hI2 : Below wr.heap.size wr (wr.alloc (.cells ([-9223372036854775808, -1, 0, 2, 3, 4, 9223372036854775807].map (Value.int .i64)).toArray 3)) := (Below.refl _ _).alloc (Nat.le_refl _) _
          have hI3 : wr.heap.size < (wr.alloc (.cells ([-9223372036854775808, -1, 0, 2, 3, 4, 9223372036854775807].map (Value.int .i64)).toArray 3)).heap.size := by simp
          simp only [List.map_cons, List.map_nil, List.length_cons, List.length_nil] at hI hI2 hI3
          go_wp2_with fail
          generalize wr.alloc _ = w3 at hI hI2 hI3 ⊢
          have HG := Lib.hid (show ∀ (wr2 : World) (m : Nat) (x : Value), Below w3.heap.size w3 wr2 → w3.cell? ⟨wr.heap.size, m, none⟩ = some x → wr2.cell? ⟨wr.heap.size, m, none⟩ = some x from fun wr2 m x h hx => (h.cell (p := ⟨wr.heap.size, m, none⟩) hI3).trans hx)
          have HI := Lib.hid hI
          have HA := Lib.hid (HB.out.trans (hI2.mono HB.out.size))
          clear hI hI2 HB
          go_loopw [136] (fun i wr => ∃ n : Nat, n ≤ 7 ∧ i = .int .i64 n ∧ Hid (Below w3.heap.size w3 wr)) (fun i _ => 7 - (intOf i).toNat)
          case atStart => exact ⟨0, by omega, rfl, Lib.hid (Below.refl _ _)⟩
          case round =>
            obtain ⟨m, hm3, rfl, HV⟩ := hrel
            by_cases hlt3 : m < 7
            · obtain ⟨x, hx⟩ := HI.out m (by omega)
              have d1 := HG.out _ _ _ HV.out hx
              have hBB := Lib.hid (HA.out.trans (HV.out.mono HA.out.size))
              have M1 := Lib.hid (hm.next hBB.out)
              clear hx
              go_wp2_with fail
              refine (tells_any _ _ 0 _ _ _ M1.out (by omega) (by omega)).mono ?_
              rintro e w4 ⟨rfl, hb⟩
              have M2 := Lib.hid (M1.out.next hb)
              go_wp2_with fail
              refine (tells_any _ _ 0 _ _ _ M2.out (by omega) (by omega)).mono ?_
              rintro e w5 ⟨rfl, hb2⟩
              have M3 := Lib.hid (M2.out.next hb2)
              go_wp2_with fail
              refine (tells_any _ _ 0 _ _ _ M3.out (by omega) (by omega)).mono ?_
              rintro e w6 ⟨rfl, hb3⟩
              have hb4 := hb.trans ((hb2.trans (hb3.mono hb2.size)).mono hb.size)
              go_wp2_with fail
              go_roundw
              case rel => exact ⟨m + 1, by omega, by go_num, Lib.hid (HV.out.trans (hb4.mono HV.out.size))⟩
              case measure => simp [intOf]; omega
            · have hdm : decide ((m : Int) < 7) = false := by simp; omega
              have B5 := Lib.hid (HA.out.trans (HV.out.mono HA.out.size))
              clear HA HV HI hI3
              go_wp2_with fail
              refine (rep_str 48 100 (by omega) _).mono ?_
              rintro e w4 ⟨rfl, hb⟩
              have B6 := Lib.hid (B5.out.trans (hb.mono B5.out.size))
              have hr1 := repS_size 48 100
              generalize repS 48 100 = R at hr1 ⊢
              have hI := strs_cell w4 [⟨#[49, 48, 48, 48, 48, 48, 48, 48, 48, 48]⟩, ⟨#[49, 48, 48, 48, 48, 48, 48, 48, 48, 49]⟩, ⟨#[48, 48, 48, 49, 48, 48, 48, 48, 48, 48, 48, 48, 48]⟩, ⟨#[57, 57, 57, 57, 57, 57, 57, 57, 57, 57]⟩, ⟨#[57, 57, 57, 57, 57, 57, 57, 57, 57, 57, 57, 57, 57, 57, 57, 57, 57, 57, 57, 57, 57, 57, 57]⟩, ⟨#[49, 58, 49, 48, 48, 48, 48, 48, 48, 48, 48, 49]⟩, ⟨#[49, 48, 48, 48, 48, 48, 48, 48, 48, 49, 58, 120]⟩, ⟨#[49, 48, 48, 48, 48, 48, 48, 48, 48, 48, 58, 48]⟩, R ++ ⟨#[49]⟩, ⟨#[49, 58]⟩, ⟨#[58, 49]⟩, ⟨#[49, 58, 50, 58, 51]⟩, ⟨#[45, 49]⟩, ⟨#[49, 32]⟩]
              simp only [List.map_cons, List.map_nil] at hI
              go_wp2_with fail
              obtain ⟨w5, hw5⟩ : ∃ w5, w4.alloc (.cells #[.string ⟨#[49, 48, 48, 48, 48, 48, 48, 48, 48, 48]⟩, .string ⟨#[49, 48, 48, 48, 48, 48, 48, 48, 48, 49]⟩, .string ⟨#[48, 48, 48, 49, 48, 48, 48, 48, 48, 48, 48, 48, 48]⟩, .string ⟨#[57, 57, 57, 57, 57, 57, 57, 57, 57, 57]⟩, .string ⟨#[57, 57, 57, 57, 57, 57, 57, 57, 57, 57, 57, 57, 57, 57, 57, 57, 57, 57, 57, 57, 57, 57, 57]⟩, .string ⟨#[49, 58, 49, 48, 48, 48, 48, 48, 48, 48, 48, 49]⟩, .string ⟨#[49, 48, 48, 48, 48, 48, 48, 48, 48, 49, 58, 120]⟩, .string ⟨#[49, 48, 48, 48, 48, 48, 48, 48, 48, 48, 58, 48]⟩, .string (R ++ ⟨#[49]⟩), .string ⟨#[49, 58]⟩, .string ⟨#[58, 49]⟩, .string ⟨#[49, 58, 50, 58, 51]⟩, .string ⟨#[45, 49]⟩, .string ⟨#[49, 32]⟩] 9) = w5 := ⟨_, rfl⟩
              have hI3 : w4.heap.size < w5.heap.size := by rw [← hw5]; simp
              have hI2 : Below w4.heap.size w4 w5 := by rw [← hw5]; exact (Below.refl _ _).alloc (Nat.le_refl _) _
              rw [hw5] at hI ⊢
              have HI := Lib.hid hI
              have B7 := Lib.hid (B6.out.trans (hI2.mono B6.out.size))
              have HG := Lib.hid (show ∀ (wr2 : World) (m : Nat) (x : Value), Below w5.heap.size w5 wr2 → w5.cell? ⟨w4.heap.size, m, none⟩ = some x → wr2.cell? ⟨w4.heap.size, m, none⟩ = some x from fun wr2 m x h hx => (h.cell (p := ⟨w4.heap.size, m, none⟩) hI3).trans hx)
              clear hI hI2 hw5 hb
              go_loopw [165] (fun i wr => ∃ n : Nat, n ≤ 14 ∧ i = .int .i64 n ∧ Hid (Below w5.heap.size w5 wr)) (fun i _ => 14 - (intOf i).toNat)
              case atStart => exact ⟨0, by omega, rfl, Lib.hid (Below.refl _ _)⟩
              case round =>
                obtain ⟨j, hj, rfl, HV⟩ := hrel
                by_cases hlt4 : j < 14
                · obtain ⟨x, hx⟩ := HI.out j hlt4
                  have d1 := HG.out _ _ _ HV.out hx
                  clear hx
                  go_wp2_with fail
                  refine (values_any _ _).mono ?_
                  rintro e w6 ⟨rfl, hb⟩
                  go_wp2_with fail
                  go_roundw
                  case rel => exact ⟨j + 1, by omega, by go_num, Lib.hid (HV.out.trans (hb.mono HV.out.size))⟩
                  case measure => simp [intOf]; omega
                · have hdj : decide ((j : Int) < 14) = false := by simp; omega
                  have B8 := Lib.hid (B7.out.trans (HV.out.mono B7.out.size))
                  clear HV HG HI B7 B6 B5 hI3
                  go_wp2_with fail
                  refine (rep_str 32 65537 (by omega) _).mono ?_
                  rintro e w6 ⟨rfl, hb⟩
                  have B9 := Lib.hid (B8.out.trans (hb.mono B8.out.size))
                  clear hb
                  go_wp2_with fail
                  refine (scan_long (repS 32 65537) (by rw [repS_size]; omega) _).mono ?_
                  rintro e w' ⟨rfl, rfl⟩
                  go_wp2_with fail
                  refine (rep_str 32 65536 (by omega) _).mono ?_
                  rintro e w7 ⟨rfl, hb⟩
                  have C1 := Lib.hid (B9.out.trans (hb.mono B9.out.size))
                  clear hb
                  go_wp2_with fail
                  refine (scan_spaces 65536 (by omega) _).mono ?_
                  rintro e w8 ⟨A1, n1, c1, rfl, hb⟩
                  have C2 := Lib.hid (C1.out.trans (hb.mono C1.out.size))
                  clear hb
                  go_wp2_with fail
                  refine (rep_str 43 65536 (by omega) _).mono ?_
                  rintro e w9 ⟨rfl, hb⟩
                  have C3 := Lib.hid (C2.out.trans (hb.mono C2.out.size))
                  clear hb
                  go_wp2_with fail
                  refine (scan_plus 65536 (by omega) _).mono ?_
                  rintro e w10 ⟨A2, c2, rfl, hb⟩
                  have C4 := Lib.hid (C3.out.trans (hb.mono C3.out.size))
                  clear hb
                  go_wp2_with fail
                  refine (rep_str 32 65536 (by omega) _).mono ?_
                  rintro e w11 ⟨rfl, hb⟩
                  have C5 := Lib.hid (C4.out.trans (hb.mono C4.out.size))
                  have hnx := fun w => next_spaces 65536 5 (by omega) (by omega) w
                  have hr2 := repS_size 32 65536
                  generalize repS 32 65536 = R2 at hnx hr2 ⊢
                  have HNX := Lib.hid hnx
                  clear hb hnx
                  go_wp2_with fail
                  refine (HNX.out _).mono ?_
                  rintro e w12 ⟨rfl, hb⟩
                  have C6 := C5.out.trans (hb.mono C5.out.size)
                  have C7 := Lib.hid (C6.alloc C6.size (.cells #[.int .u8 1, .int .i64 65536, .int .i64 65537] 29))
                  have MM := hm.next C7.out
                  clear hb
                  go_wp2_with fail
                  refine (awake_any _ MM).mono ?_
                  rintro e w13 ⟨rfl, hb⟩
                  go_wp2_with fail
                  go_ret
                  exact ⟨rfl, C7.out.trans (hb.mono C7.out.size)⟩
end Go.Proofs.YtihigfpikiaaiaaDoor
