/- MinimSmall: the walk. -/
import Derived.Test.YtiodfolcnnkdjaaGreatUj
namespace Go.Proofs.YtiodfolcnnkdjaaGreat
open Go.RowKit

def ch15 : List (List Int) := [[1], [-1, 2], [-3, 4], [-4, -2, 5], [-5, 6, -3], [-7, 8], [-8, -6, -4, -2], [-8, -5]]
def low15 : List ActP := [⟨false, 1, 1⟩, ⟨false, 2, 2⟩, ⟨true, 0, 0⟩, ⟨false, 3, 0⟩, ⟨false, 4, 3⟩, ⟨false, 5, 4⟩, ⟨false, 6, 5⟩, ⟨true, 0, 0⟩, ⟨false, 7, 0⟩, ⟨false, 8, 6⟩]
theorem chain15 (W : World) : ∃ W9, ((((((((W.alloc (.cells #[.int .i64 1] 31)).alloc (.cells #[.int .i64 (-1), .int .i64 2] 31)).alloc (.cells #[.int .i64 (-3), .int .i64 4] 31)).alloc (.cells #[.int .i64 (-4), .int .i64 (-2), .int .i64 5] 31)).alloc (.cells #[.int .i64 (-5), .int .i64 6, .int .i64 (-3)] 31)).alloc (.cells #[.int .i64 (-7), .int .i64 8] 31)).alloc (.cells #[.int .i64 (-8), .int .i64 (-6), .int .i64 (-4), .int .i64 (-2)] 31)).alloc (.cells #[.int .i64 (-8), .int .i64 (-5)] 31)).alloc (.cells #[.slice (some ⟨W.heap.size, 0, none⟩) 1 1, .slice (some ⟨W.heap.size + 1, 0, none⟩) 2 2, .slice (some ⟨W.heap.size + 1 + 1, 0, none⟩) 2 2, .slice (some ⟨W.heap.size + 1 + 1 + 1, 0, none⟩) 3 3, .slice (some ⟨W.heap.size + 1 + 1 + 1 + 1, 0, none⟩) 3 3, .slice (some ⟨W.heap.size + 1 + 1 + 1 + 1 + 1, 0, none⟩) 2 2, .slice (some ⟨W.heap.size + 1 + 1 + 1 + 1 + 1 + 1, 0, none⟩) 4 4, .slice (some ⟨W.heap.size + 1 + 1 + 1 + 1 + 1 + 1 + 1, 0, none⟩) 2 2] 25) = W9 ∧ Below W.heap.size W W9 ∧ ClsAt W9 (.slice (some ⟨W.heap.size + 1 + 1 + 1 + 1 + 1 + 1 + 1 + 1, 0, none⟩) 8 8) ch15 := by
 obtain ⟨W1, h1⟩ : ∃ x, W.alloc (.cells #[.int .i64 1] 31) = x := ⟨_, rfl⟩
 obtain ⟨W2, h2⟩ : ∃ x, W1.alloc (.cells #[.int .i64 (-1), .int .i64 2] 31) = x := ⟨_, rfl⟩
 obtain ⟨W3, h3⟩ : ∃ x, W2.alloc (.cells #[.int .i64 (-3), .int .i64 4] 31) = x := ⟨_, rfl⟩
 obtain ⟨W4, h4⟩ : ∃ x, W3.alloc (.cells #[.int .i64 (-4), .int .i64 (-2), .int .i64 5] 31) = x := ⟨_, rfl⟩
 obtain ⟨W5, h5⟩ : ∃ x, W4.alloc (.cells #[.int .i64 (-5), .int .i64 6, .int .i64 (-3)] 31) = x := ⟨_, rfl⟩
 obtain ⟨W6, h6⟩ : ∃ x, W5.alloc (.cells #[.int .i64 (-7), .int .i64 8] 31) = x := ⟨_, rfl⟩
 obtain ⟨W7, h7⟩ : ∃ x, W6.alloc (.cells #[.int .i64 (-8), .int .i64 (-6), .int .i64 (-4), .int .i64 (-2)] 31) = x := ⟨_, rfl⟩
 obtain ⟨W8, h8⟩ : ∃ x, W7.alloc (.cells #[.int .i64 (-8), .int .i64 (-5)] 31) = x := ⟨_, rfl⟩
 rw [h1, h2, h3, h4, h5, h6, h7, h8]
 obtain ⟨W9, h9⟩ : ∃ x, W8.alloc (.cells #[.slice (some ⟨W.heap.size, 0, none⟩) 1 1, .slice (some ⟨W.heap.size + 1, 0, none⟩) 2 2, .slice (some ⟨W.heap.size + 1 + 1, 0, none⟩) 2 2, .slice (some ⟨W.heap.size + 1 + 1 + 1, 0, none⟩) 3 3, .slice (some ⟨W.heap.size + 1 + 1 + 1 + 1, 0, none⟩) 3 3, .slice (some ⟨W.heap.size + 1 + 1 + 1 + 1 + 1, 0, none⟩) 2 2, .slice (some ⟨W.heap.size + 1 + 1 + 1 + 1 + 1 + 1, 0, none⟩) 4 4, .slice (some ⟨W.heap.size + 1 + 1 + 1 + 1 + 1 + 1 + 1, 0, none⟩) 2 2] 25) = x := ⟨_, rfl⟩
 have z1 : W1.heap.size = W.heap.size + 1 := by rw [← h1]; simp
 have z2 : W2.heap.size = W1.heap.size + 1 := by rw [← h2]; simp
 have z3 : W3.heap.size = W2.heap.size + 1 := by rw [← h3]; simp
 have z4 : W4.heap.size = W3.heap.size + 1 := by rw [← h4]; simp
 have z5 : W5.heap.size = W4.heap.size + 1 := by rw [← h5]; simp
 have z6 : W6.heap.size = W5.heap.size + 1 := by rw [← h6]; simp
 have z7 : W7.heap.size = W6.heap.size + 1 := by rw [← h7]; simp
 have z8 : W8.heap.size = W7.heap.size + 1 := by rw [← h8]; simp
 have z9 : W9.heap.size = W8.heap.size + 1 := by rw [← h9]; simp
 have b1 : Below W.heap.size W W1 := by rw [← h1]; exact mx_al _ _
 have b2 : Below W1.heap.size W1 W2 := by rw [← h2]; exact mx_al _ _
 have b3 : Below W2.heap.size W2 W3 := by rw [← h3]; exact mx_al _ _
 have b4 : Below W3.heap.size W3 W4 := by rw [← h4]; exact mx_al _ _
 have b5 : Below W4.heap.size W4 W5 := by rw [← h5]; exact mx_al _ _
 have b6 : Below W5.heap.size W5 W6 := by rw [← h6]; exact mx_al _ _
 have b7 : Below W6.heap.size W6 W7 := by rw [← h7]; exact mx_al _ _
 have b8 : Below W7.heap.size W7 W8 := by rw [← h8]; exact mx_al _ _
 have b9 : Below W8.heap.size W8 W9 := by rw [← h9]; exact mx_al _ _
 have c9 := b9
 have c8 := b8.trans (c9.mono b8.size)
 have c7 := b7.trans (c8.mono b7.size)
 have c6 := b6.trans (c7.mono b6.size)
 have c5 := b5.trans (c6.mono b5.size)
 have c4 := b4.trans (c5.mono b4.size)
 have c3 := b3.trans (c4.mono b3.size)
 have c2 := b2.trans (c3.mono b2.size)
 have c1 := b1.trans (c2.mono b1.size)
 have e1 : IntsIn (fun g => g < W9.heap.size) W9 (.slice (some ⟨W.heap.size, 0, none⟩) 1 1) [1] := by
  have n0 := mx_ints W [1] 31
  have k : Below W1.heap.size W1 W9 := c2
  rw [← h1] at k
  exact (n0.below k).mono (fun g hg => by rw [hg]; omega)
 have e2 : IntsIn (fun g => g < W9.heap.size) W9 (.slice (some ⟨W.heap.size + 1, 0, none⟩) 2 2) [-1, 2] := by
  have n0 := mx_ints W1 [-1, 2] 31
  have k : Below W2.heap.size W2 W9 := c3
  rw [← h2] at k
  rw [← z1]
  exact (n0.below k).mono (fun g hg => by rw [hg]; omega)
 have e3 : IntsIn (fun g => g < W9.heap.size) W9 (.slice (some ⟨W.heap.size + 1 + 1, 0, none⟩) 2 2) [-3, 4] := by
  have n0 := mx_ints W2 [-3, 4] 31
  have k : Below W3.heap.size W3 W9 := c4
  rw [← h3] at k
  rw [← z1, ← z2]
  exact (n0.below k).mono (fun g hg => by rw [hg]; omega)
 have e4 : IntsIn (fun g => g < W9.heap.size) W9 (.slice (some ⟨W.heap.size + 1 + 1 + 1, 0, none⟩) 3 3) [-4, -2, 5] := by
  have n0 := mx_ints W3 [-4, -2, 5] 31
  have k : Below W4.heap.size W4 W9 := c5
  rw [← h4] at k
  rw [← z1, ← z2, ← z3]
  exact (n0.below k).mono (fun g hg => by rw [hg]; omega)
 have e5 : IntsIn (fun g => g < W9.heap.size) W9 (.slice (some ⟨W.heap.size + 1 + 1 + 1 + 1, 0, none⟩) 3 3) [-5, 6, -3] := by
  have n0 := mx_ints W4 [-5, 6, -3] 31
  have k : Below W5.heap.size W5 W9 := c6
  rw [← h5] at k
  rw [← z1, ← z2, ← z3, ← z4]
  exact (n0.below k).mono (fun g hg => by rw [hg]; omega)
 have e6 : IntsIn (fun g => g < W9.heap.size) W9 (.slice (some ⟨W.heap.size + 1 + 1 + 1 + 1 + 1, 0, none⟩) 2 2) [-7, 8] := by
  have n0 := mx_ints W5 [-7, 8] 31
  have k : Below W6.heap.size W6 W9 := c7
  rw [← h6] at k
  rw [← z1, ← z2, ← z3, ← z4, ← z5]
  exact (n0.below k).mono (fun g hg => by rw [hg]; omega)
 have e7 : IntsIn (fun g => g < W9.heap.size) W9 (.slice (some ⟨W.heap.size + 1 + 1 + 1 + 1 + 1 + 1, 0, none⟩) 4 4) [-8, -6, -4, -2] := by
  have n0 := mx_ints W6 [-8, -6, -4, -2] 31
  have k : Below W7.heap.size W7 W9 := c8
  rw [← h7] at k
  rw [← z1, ← z2, ← z3, ← z4, ← z5, ← z6]
  exact (n0.below k).mono (fun g hg => by rw [hg]; omega)
 have e8 : IntsIn (fun g => g < W9.heap.size) W9 (.slice (some ⟨W.heap.size + 1 + 1 + 1 + 1 + 1 + 1 + 1, 0, none⟩) 2 2) [-8, -5] := by
  have n0 := mx_ints W7 [-8, -5] 31
  have k : Below W8.heap.size W8 W9 := c9
  rw [← h8] at k
  rw [← z1, ← z2, ← z3, ← z4, ← z5, ← z6, ← z7]
  exact (n0.below k).mono (fun g hg => by rw [hg]; omega)
 have hblk := World.alloc_heap_new W8 (.cells #[.slice (some ⟨W.heap.size, 0, none⟩) 1 1, .slice (some ⟨W.heap.size + 1, 0, none⟩) 2 2, .slice (some ⟨W.heap.size + 1 + 1, 0, none⟩) 2 2, .slice (some ⟨W.heap.size + 1 + 1 + 1, 0, none⟩) 3 3, .slice (some ⟨W.heap.size + 1 + 1 + 1 + 1, 0, none⟩) 3 3, .slice (some ⟨W.heap.size + 1 + 1 + 1 + 1 + 1, 0, none⟩) 2 2, .slice (some ⟨W.heap.size + 1 + 1 + 1 + 1 + 1 + 1, 0, none⟩) 4 4, .slice (some ⟨W.heap.size + 1 + 1 + 1 + 1 + 1 + 1 + 1, 0, none⟩) 2 2] 25)
 rw [h9, show W8.heap.size = W.heap.size + 1 + 1 + 1 + 1 + 1 + 1 + 1 + 1 by omega] at hblk
 refine ⟨W9, h9, c1, _, 8, rfl, fun i xs hi => ?_⟩
 refine ⟨W.heap.size + 1 + 1 + 1 + 1 + 1 + 1 + 1 + 1, 0, ?_⟩
 rw [Nat.zero_add]
 match i, hi with
 | 0, hi => exact ⟨_, rfl, by omega, mx_cell (j := 0) hblk, by cases hi; exact e1⟩
 | 1, hi => exact ⟨_, rfl, by omega, mx_cell (j := 1) hblk, by cases hi; exact e2⟩
 | 2, hi => exact ⟨_, rfl, by omega, mx_cell (j := 2) hblk, by cases hi; exact e3⟩
 | 3, hi => exact ⟨_, rfl, by omega, mx_cell (j := 3) hblk, by cases hi; exact e4⟩
 | 4, hi => exact ⟨_, rfl, by omega, mx_cell (j := 4) hblk, by cases hi; exact e5⟩
 | 5, hi => exact ⟨_, rfl, by omega, mx_cell (j := 5) hblk, by cases hi; exact e6⟩
 | 6, hi => exact ⟨_, rfl, by omega, mx_cell (j := 6) hblk, by cases hi; exact e7⟩
 | 7, hi => exact ⟨_, rfl, by omega, mx_cell (j := 7) hblk, by cases hi; exact e8⟩
 | n + 8, hi => simp [ch15] at hi
theorem ints_from {O : Nat → Prop} {w : World} {g c : Nat} {xs : List Int} (h : IntsIn O w (.slice (some ⟨g, 0, none⟩) xs.length c) xs) (j : Nat) (hj : j ≤ xs.length) : IntsIn O w (.slice (some ⟨g, j, none⟩) (xs.length - j) (c - j)) (xs.drop j) := by
 obtain ⟨A, c', hv, hc, _, hx⟩ := h
 simp only [Value.slice.injEq, true_and] at hv
 obtain ⟨rfl, rfl⟩ := hv
 refine ⟨_, _, by rw [List.length_drop], by rw [List.length_drop]; omega, (fun e => by cases e), fun i x hi => ?_⟩
 rw [List.getElem?_drop] at hi
 obtain ⟨g', o, e, h1, h2, h3⟩ := hx _ x hi
 simp only [Option.some.injEq, Addr.mk.injEq, and_true] at e
 obtain ⟨rfl, rfl⟩ := e
 exact ⟨g, j, rfl, h1, h2, by rw [Nat.zero_add] at h3; exact h3⟩
theorem ints_upto {O : Nat → Prop} {w : World} {g c : Nat} {xs : List Int} (h : IntsIn O w (.slice (some ⟨g, 0, none⟩) xs.length c) xs) (j : Nat) (hj : j ≤ xs.length) : IntsIn O w (.slice (some ⟨g, 0, none⟩) j c) (xs.take j) := by
 obtain ⟨A, c', hv, hc, _, hx⟩ := h
 simp only [Value.slice.injEq, true_and] at hv
 obtain ⟨rfl, rfl⟩ := hv
 have hl : (xs.take j).length = j := by rw [List.length_take]; omega
 refine ⟨_, _, by rw [hl], by rw [hl]; omega, (fun e => by cases e), fun i x hi => ?_⟩
 have hij : i < j := by have := (List.getElem?_eq_some_iff.1 hi).1; omega
 rw [List.getElem?_take, if_pos hij] at hi
 exact hx i x hi
/-- the comparison says yes -/
def TellsYes15 : Prop := ∀ (n : Nat) (cs : List (List Int)) (acs : List ActP) (c : List Int) (cv av u : Value) (id v : Int) (w : World), n ≤ 1000 → ClsAt w cv cs → ActsIn w av acs → IntsIn (fun _ => True) w u c → cs.length ≤ 900 → (∀ c ∈ cs, c.length ≤ 900) → acs.length ≤ 90 → c.length ≤ 900 →
 Calls Tryz.prog 7 #[.int .i64 (n : Int), cv, av, .int .i64 id, .int .i64 v, u] w fun e w' => e = .returned (.bool true) ∧ Below w.heap.size w w'
def all15 : List Int := [-5, -3, -2, -1, -5]
def big15 : List Int := [-9223372036854775808, -1, 0, 1, 5, 9, 1048576, 1073741825, 9223372036854775807]
set_option maxRecDepth 100000 in
set_option maxHeartbeats 16000000 in
theorem minimSmall_core (hte : TellsYes15) (w : World) : Calls Tryz.prog 4 #[] w fun e w' => e = .returned (.bool true) ∧ Below w.heap.size w w' := by
 have HEX := Lib.hid (example15_any w)
 have HT5 := Lib.hid (fun cs acs c cv av u id v w => hte 5 cs acs c cv av u id v w (by decide))
 have HT8 := Lib.hid (fun cs acs c cv av u id v w => hte 8 cs acs c cv av u id v w (by decide))
 rw [show ((5 : Nat) : Int) = 5 from rfl] at HT5
 rw [show ((8 : Nat) : Int) = 8 from rfl] at HT8
 clear hte
 have HAW := Lib.hid (fun w => awake15_any w)
 have HNO := Lib.hid (fun w => none15_any w)
 go_enter Tryz.func4, Tryz.ntmps4
 go_wp2_with fail
 refine HEX.out.mono ?_
 rintro e w1 ⟨cv, g, W6, rfl, hc, hz6, hb6, hg, hwg, hb1⟩
 have HB1 := Lib.hid hb1
 have HCL0 := Lib.hid ((hc).below (by rw [hz6]; exact hb6))
 have hg1 := heap_lt hg
 have HAC0 := Lib.hid (show w1.ownsRow 0 34 3 (.slice (some ⟨g, 0, none⟩) 7 7) 7 (e15A.flatMap ActP.cells) from ⟨by rw [actCells_len]; rfl, .inr ⟨g, 7, _, rfl, Nat.zero_le _, hg, Nat.le_refl _, by unfold maxLen; omega, by rw [List.size_toArray, actCells_len]; rfl, by rw [List.toList_toArray]; exact List.take_of_length_le (by rw [actCells_len]; exact Nat.le_refl _)⟩⟩)
 have HEL := Lib.hid (show ∀ c ∈ e15L, c.length ≤ 900 from by decide)
 obtain ⟨Ac, cc, rfl, _⟩ := hc
 rw [show e15L.length = 4 from rfl] at HCL0
 clear hz6 hb6 hg hwg hb1 HEX
 rw [show e15L.length = 4 from rfl]
 obtain ⟨w2, hw2⟩ : ∃ x, w1.alloc (.cells #[.int .i64 (-5), .int .i64 (-3), .int .i64 (-2), .int .i64 (-1), .int .i64 (-5)] 31) = x := ⟨_, rfl⟩
 have hb2 : Below w1.heap.size w1 w2 := by rw [← hw2]; exact mx_al _ _
 have HALL := Lib.hid (show IntsIn (fun _ => True) w2 (.slice (some ⟨w1.heap.size, 0, none⟩) 5 5) all15 from by rw [← hw2]; exact (mx_ints w1 all15 31).mono (fun _ _ => trivial))
 have HW2 := Lib.hid hw2
 have HB2 := Lib.hid (HB1.out.trans (hb2.mono HB1.out.size))
 have HCL := Lib.hid (HCL0.out.below hb2)
 have HAC := Lib.hid (own_below HAC0.out hb2)
 have HAI := Lib.hid (show ActsIn w2 (.slice (some ⟨g, 0, none⟩) 7 7) e15A from acts_own HAC.out)
 obtain ⟨ba, hba⟩ : ∃ x, w1.heap.size = x := ⟨_, rfl⟩
 rw [hba] at HALL
 clear hw2 hb2 HCL0 HAC0
 go_upto_region 3 with fail
 rw [HW2.out]
 clear hba HW2
 go_wp2_with fail
 go_loopw [23] (fun iv wr => ∃ (k : Nat), k ≤ 7 ∧ iv = .int .i64 k ∧ Hid (Below w2.heap.size w2 wr)) (fun iv _ => 7 - (intOf iv).toNat)
 case atStart => exact ⟨0, Nat.zero_le _, rfl, Lib.hid (Below.refl _ _)⟩
 case round =>
  obtain ⟨k, hk, rfl, HW⟩ := hrel
  by_cases hlt : k < 7
  ·
   obtain ⟨wo, rfl⟩ : ∃ wo : World, wo = wr := ⟨_, rfl⟩
   have hdk : decide ((k : Int) < 7) = true := by simp; omega
   have w1' : IntKind.i64.wrap ((k : Int) + 1) = (k : Int) + 1 := IntWalk.i64_in _ (by omega)
   obtain ⟨xa, hxa⟩ : ∃ q, e15A[k]? = some q := ⟨e15A[k]'hlt, List.getElem?_eq_getElem hlt⟩
   have HXA := Lib.hid hxa
   clear hxa
   go_wp2_with fail
   go_loopw [5] (fun bv wr => ∃ (z : Int), -1 ≤ z ∧ z ≤ 6 ∧ bv = .int .i64 z ∧ Hid (Below w2.heap.size w2 wr)) (fun bv _ => (6 - intOf bv).toNat)
   case atStart => exact ⟨-1, by decide, by decide, rfl, HW⟩
   case round =>
    obtain ⟨z, hz1, hz2, rfl, HW2⟩ := hrel
    by_cases hlz : z < 6
    ·
     have w2' : IntKind.i64.wrap (z + 1) = z + 1 := IntWalk.i64_in _ (by omega)
     have hdz : decide (z < 6) = true := by simpa using hlz
     have hcl := clone_acts g 7 e15A wr (own_below HAC.out HW2.out) (by decide)
     rw [show e15A.length = 7 from rfl] at hcl
     have HCN := Lib.hid hcl
     clear hcl
     go_wp2_with fail
     refine HCN.out.mono ?_
     rintro e x1 ⟨v', rfl, hown, hb⟩
     obtain ⟨go, co, cso, rfl, hco, hbo, hgo, hblk, _⟩ := mx_some hown (by decide)
     have HOW := Lib.hid hown
     have HBX := Lib.hid hb
     have hlen : k * 3 + 2 < (e15A.flatMap ActP.cells).length := by rw [actCells_len, show e15A.length = 7 from rfl]; omega
     obtain ⟨uo, huo⟩ : ∃ q, (e15A.flatMap ActP.cells)[k * 3 + 2]? = some q := getElem_of hlen
     have p0 : x1.cell? ⟨go, k * 3 + 2, none⟩ = some uo := mx_at hown huo
     have fr := mx_free (j := k * 3 + 2) hblk
     obtain ⟨x2, hx2⟩ : ∃ q, x1.setCell ⟨go, k * 3 + 2, none⟩ (.int .i64 z) = q := ⟨_, rfl⟩
     have HX2 := Lib.hid hx2
     have HO2 := Lib.hid (show ActsIn x2 (.slice (some ⟨go, 0, none⟩) 7 co) (e15A.set k ⟨xa.push, xa.l, z⟩) from by
      have h := own_puts (k * 3 + 2) HOW.out (.int .i64 z)
      rw [hx2, act_set e15A k xa z HXA.out] at h
      exact acts_own (l := e15A.set k ⟨xa.push, xa.l, z⟩) (by rw [List.length_set]; exact h))
     have HB2 := Lib.hid (show Below wr.heap.size wr x2 from by rw [← hx2]; exact HBX.out.setCell (p := ⟨go, k * 3 + 2, none⟩) hbo _)
     have HBW := Lib.hid (HW2.out.trans (HB2.out.mono HW2.out.size))
     have hkco : k < co := by omega
     clear hown hb hblk huo hx2 HCN hlen
     go_upto_region 11 with fail
     rw [HX2.out]
     clear p0 fr
     go_wp2_with fail
     go_loopw [7] (fun yv wr => ∃ (y : Int), 3 ≤ y ∧ y ≤ 6 ∧ yv = .int .i64 y ∧ Hid (Below x2.heap.size x2 wr)) (fun yv _ => (6 - intOf yv).toNat)
     case atStart => exact ⟨3, by decide, by decide, rfl, Lib.hid (Below.refl _ _)⟩
     case round =>
      obtain ⟨y, hy1, hy2, rfl, HY⟩ := hrel
      by_cases hly : y < 6
      ·
       have hdy : decide (y < 6) = true := by simpa using hly
       have w3' : IntKind.i64.wrap (y + 1) = y + 1 := IntWalk.i64_in _ (by omega)
       obtain ⟨wy, rfl⟩ : ∃ wo : World, wo = wr := ⟨_, rfl⟩
       go_wp2_with fail
       go_loopw [41] (fun iv wr => ∃ (q : Nat), q ≤ 5 ∧ iv = .int .i64 q ∧ Hid (Below x2.heap.size x2 wr)) (fun iv _ => 5 - (intOf iv).toNat)
       case atStart => exact ⟨0, Nat.zero_le _, rfl, HY⟩
       case round =>
        obtain ⟨q, hq, rfl, HW3⟩ := hrel
        by_cases hlq : q < 5
        ·
         have hdq : decide ((q : Int) < 5) = true := by simp; omega
         have HW13 := Lib.hid (HBW.out.trans (HW3.out.mono HBW.out.size))
         have wzk : IntKind.i64.wrap (z + (k : Int)) = z + (k : Int) := IntWalk.i64_in _ (by omega)
         obtain ⟨r, hr⟩ : ∃ r, (z + (k : Int)).tmod 5 = r := ⟨_, rfl⟩
         have hr1 : -5 < r ∧ r < 5 := by
          rw [← hr]
          have h1 := Int.tmod_lt_of_pos (z + (k : Int)) (show (0 : Int) < 5 by decide)
          have h2 := Int.lt_tmod_of_pos (z + (k : Int)) (show (0 : Int) < 5 by decide)
          omega
         have wr1 : IntKind.i64.wrap (-1 - r) = -1 - r := IntWalk.i64_in _ (by omega)
         have HCLr := Lib.hid (HCL.out.below HW13.out)
         have hq0 : (0 : Int) ≤ (q : Int) := by omega
         have hq1 : (q : Int) ≤ 5 := by omega
         have hq5 : ¬ 5 = q := by omega
         go_upto_region 17 with fail
         refine wp_region_held_drew (S := fun w' => Below wr.heap.size wr w') (by kernel_rfl) (mx_drew wr) (fun hS => ?_)
         refine takeE 0 44 ?_
         refine takeE 1 45 ?_
         refine takeE 2 46 ?_
         refine takeE 3 47 ?_
         refine takeE 4 48 ?_
         refine takeE 5 49 ?_
         refine takeE 6 50 ?_
         refine takeE 7 51 ?_
         refine takeE 8 52 ?_
         refine takeE 9 53 ?_
         refine takeE 10 54 ?_
         have HD0 := Lib.hid (ints_from (xs := all15) (c := 5) (HALL.out.below (HW13.out.trans (hS.mono HW13.out.size))) q (by show q ≤ 5; omega))
         have HU0 := Lib.hid (ints_upto (xs := all15) (c := 5) HALL.out q (by show q ≤ 5; omega))
         rw [show all15.length = 5 from rfl] at HD0
         refine ready1 11 (fun K hK => ?_)
         go_simp
         refine (HT5.out e15L (e15A.set k ⟨xa.push, xa.l, z⟩) (all15.drop q) _ _ (.slice (some ⟨ba, q, none⟩) (5 - q) (5 - q)) y (-1 - r) _ (HCLr.out.below hS) (HO2.out.below (HW3.out.trans (hS.mono HW3.out.size))) HD0.out (by decide) HEL.out (by rw [List.length_set]; decide) (by rw [List.length_drop]; show 5 - q ≤ 900; omega)).mono ?_
         rintro e y1 ⟨rfl, hbN⟩
         have hSN := hS.trans (hbN.mono hS.size)
         refine hK.out _ _ hSN (fun _ => ?_)
         clear hK hbN hS
         have hS := hSN
         clear hSN
         refine takeE 12 56 ?_
         refine takeE 13 57 ?_
         refine takeE 14 58 ?_
         refine takeE 15 59 ?_
         refine takeE 17 61 ?_
         refine takeE 18 62 ?_
         refine takeE 19 63 ?_
         refine takeE 21 65 ?_
         refine takeE 22 66 ?_
         refine takeE 23 67 ?_
         refine takeE 24 68 ?_
         have HCA := Lib.hid (own_below HAC.out (HW13.out.trans (hS.mono HW13.out.size)))
         have hcl := clone_acts g 7 e15A y1 HCA.out (by decide)
         rw [show e15A.length = 7 from rfl] at hcl
         have HCN := Lib.hid hcl
         clear hcl
         refine ready1 16 (fun K hK => ?_)
         go_simp
         refine HCN.out.mono ?_
         rintro e y2 ⟨v', rfl, hown, hbN⟩
         obtain ⟨gd, cd, csd, rfl, hcd, hbd, hgd, _, _⟩ := mx_some hown (by decide)
         have HOD := Lib.hid hown
         have hS1 := hS.size
         have hSN := hS.trans (hbN.mono hS.size)
         refine hK.out _ _ hSN (fun _ => ?_)
         clear hK hbN hS hown HCN
         have hS := hSN
         clear hSN
         obtain ⟨m, hm⟩ : ∃ m, 7 = k + m + 1 := ⟨6 - k, by omega⟩
         have hdl := del_any gd cd k m y1.heap.size e15A y2 HOD.out hm (by decide)
         rw [show e15A.length = 7 from rfl] at hdl
         have HDL := Lib.hid hdl
         have HM := Lib.hid hm
         clear hdl hm
         refine ready1 20 (fun K hK => ?_)
         go_simp
         refine HDL.out.mono ?_
         rintro e y3 ⟨rfl, hai, hk3⟩
         have HAI3 := Lib.hid hai
         have hSN := hS.trans (kept_below hk3 (fun g hg => by rw [hg]; omega) hS.size)
         refine hK.out _ _ hSN (fun _ => ?_)
         clear hK hS hai hk3 HDL
         have hS := hSN
         clear hSN
         refine ready1 25 (fun K hK => ?_)
         go_simp
         refine (HT5.out e15L (e15A.eraseIdx k) (all15.take q) _ _ (.slice (some ⟨ba, 0, none⟩) q 5) y (-3) y3 (HCLr.out.below hS) HAI3.out (HU0.out.below (HW13.out.trans (hS.mono HW13.out.size))) (by decide) HEL.out (by rw [List.length_eraseIdx_of_lt hlt]; decide) (by rw [List.length_take]; omega)).mono ?_
         rintro e y4 ⟨rfl, hbN⟩
         have hSN := hS.trans (hbN.mono hS.size)
         refine hK.out _ _ hSN (fun _ => ?_)
         clear hK hbN hS
         have hS := hSN
         clear hSN
         refine takeE 26 70 ?_
         refine takeE 27 71 ?_
         refine wpAnyH_done (by kernel_rfl) ?_ _
         have HBE := Lib.hid (HW3.out.trans (hS.mono HW3.out.size))
         clear hS
         go_wp2_with fail
         go_roundw
         case rel => exact ⟨q + 1, by omega, by go_num, HBE⟩
         case measure => simp [intOf]; omega
        ·
         have hdq : decide ((q : Int) < 5) = false := by simp; omega
         go_wp2_with fail
         go_roundw
         case rel => exact ⟨y + 1, by omega, by omega, by go_num, HW3⟩
         case measure => simp [intOf]; omega
      ·
       have hdy : decide (y < 6) = false := by simpa using hly
       go_wp2_with fail
       go_roundw
       case rel => exact ⟨z + 1, by omega, by omega, by go_num, Lib.hid (HBW.out.trans (HY.out.mono HBW.out.size))⟩
       case measure => simp [intOf]; omega
    ·
     have hdz : decide (z < 6) = false := by simpa using hlz
     go_wp2_with fail
     go_roundw
     case rel => exact ⟨k + 1, by omega, by go_num, HW2⟩
     case measure => simp [intOf]; omega
  ·
   have hdk : decide ((k : Int) < 7) = false := by simp; omega
   obtain ⟨wb, rfl⟩ : ∃ wo : World, wo = wr := ⟨_, rfl⟩
   clear hlt
   obtain ⟨W9, h9, hb9, hch⟩ := chain15 wb
   have H9 := Lib.hid h9
   have HCH9 := Lib.hid hch
   have HB29 := Lib.hid (HW.out.trans (hb9.mono HW.out.size))
   obtain ⟨chb, hchb⟩ : ∃ x, wb.heap.size + 1 + 1 + 1 + 1 + 1 + 1 + 1 + 1 = x := ⟨_, rfl⟩
   rw [hchb] at HCH9
   clear h9 hb9 hch
   go_upto_region 22 with fail
   rw [H9.out]
   obtain ⟨wl, hwl⟩ : ∃ x, W9.alloc (.cells #[.bool false, .int .i64 1, .int .i64 1, .bool false, .int .i64 2, .int .i64 2, .bool true, .int .i64 0, .int .i64 0, .bool false, .int .i64 3, .int .i64 0, .bool false, .int .i64 4, .int .i64 3, .bool false, .int .i64 5, .int .i64 4, .bool false, .int .i64 6, .int .i64 5, .bool true, .int .i64 0, .int .i64 0, .bool false, .int .i64 7, .int .i64 0, .bool false, .int .i64 8, .int .i64 6] 34) = x := ⟨_, rfl⟩
   have hbl : Below W9.heap.size W9 wl := by rw [← hwl]; exact mx_al _ _
   have hll : wl.heap[W9.heap.size]? = some (.cells (low15.flatMap ActP.cells).toArray 34 (0, 0)) := by rw [← hwl]; exact World.alloc_heap_new _ _
   have HLA := Lib.hid (show ActsIn wl (.slice (some ⟨W9.heap.size, 0, none⟩) 10 10) low15 from acts_of_block (l := low15) hll rfl (by rw [List.toList_toArray]; exact List.take_of_length_le (by decide)))
   have HWL := Lib.hid hwl
   have HCH := Lib.hid (HCH9.out.below hbl)
   have HBL := Lib.hid (HB29.out.trans (hbl.mono HB29.out.size))
   have HCHL := Lib.hid (show ∀ c ∈ ch15, c.length ≤ 900 from by decide)
   clear hwl hbl hll HCH9 HB29 HW
   go_upto_region 23 with fail
   rw [HWL.out]
   clear hchb H9 HWL
   go_wp2_with fail
   go_loopw [94] (fun iv wr => ∃ (k : Nat), k ≤ 256 ∧ iv = .int .i64 k ∧ Hid (Below wl.heap.size wl wr)) (fun iv _ => 256 - (intOf iv).toNat)
   case atStart => exact ⟨0, Nat.zero_le _, rfl, Lib.hid (Below.refl _ _)⟩
   case round =>
    obtain ⟨n, hn, rfl, HV⟩ := hrel
    by_cases hltn : n < 256
    ·
     obtain ⟨wo, rfl⟩ : ∃ wo : World, wo = wr := ⟨_, rfl⟩
     have hdn : decide ((n : Int) < 256) = true := by simp; omega
     have wn1 : IntKind.i64.wrap ((n : Int) + 1) = (n : Int) + 1 := IntWalk.i64_in _ (by omega)
     go_wp2_with fail
     go_loopw [12, 97] (fun cv iv wr => ∃ (j : Nat) (ys : List Int), j ≤ 8 ∧ iv = .int .i64 j ∧ ys.length ≤ j ∧ Hid (wr.ownsRow wo.heap.size 31 1 cv ys.length (ys.map (Value.int .i64))) ∧ Hid (Below wo.heap.size wo wr)) (fun _ iv _ => 8 - (intOf iv).toNat)
     case atStart => exact ⟨0, [], Nat.zero_le _, rfl, Nat.le_refl _, Lib.hid (World.ownsRow_nil _ _ _ _), Lib.hid (Below.refl _ _)⟩
     case round =>
      obtain ⟨j, ys, hj, rfl, hys, HO, HJ⟩ := hrel
      obtain ⟨Ay, cy, rfl, _⟩ := mx_slice HO.out
      by_cases hlj : j < 8
      ·
       have hdj : decide ((j : Int) < 8) = true := by simp; omega
       have wj1 : IntKind.i64.wrap ((j : Int) + 1) = (j : Int) + 1 := IntWalk.i64_in _ (by omega)
       have wj3 : IntKind.i64.wrap ((j : Int) * 3) = (j : Int) * 3 := IntWalk.i64_in _ (by omega)
       have wjn : IntKind.i64.wrap ((j : Int) * 3 + (n : Int)) = (j : Int) * 3 + (n : Int) := IntWalk.i64_in _ (by omega)
       obtain ⟨r, hr⟩ : ∃ r, ((j : Int) * 3 + (n : Int)).tmod 8 = r := ⟨_, rfl⟩
       have hrb : 0 ≤ r ∧ r < 8 := by rw [← hr, Int.tmod_eq_emod_of_nonneg (by omega)]; omega
       have wr1 : IntKind.i64.wrap (-1 - r) = -1 - r := IntWalk.i64_in _ (by omega)
       have hzj := HJ.out.size
       go_upto_if 104 with fail
       obtain ⟨bt, hbt⟩ : ∃ b : Bool, (bits BinOp.and IntKind.i64 ((n : Int) / 2 ^ j) 1 == 1) = b := ⟨_, rfl⟩
       skip
       rw [hbt]
       clear hbt
       cases bt with
       | true =>
        obtain ⟨i0, hi0, hi1, hi2, hi3⟩ := info_parts info_c
        go_wp2_with (at_builtin; refine wpList_append_own_at _ rfl _ _ 25 rfl wo.heap.size 31 i0 (.int .i64 0) 1 8 Tryz.underlying25 hi0 hi1 hi2 hi3 rfl (by decide) _ ys.length _ rfl (own_below HO.out (mx_al wr _)) ⟨wr.heap.size, 0, none⟩ 1 1 [.int .i64 (-1 - r)] rfl rfl (cell_one15 _ _ _) (by simp [Value.oneCell']) (by unfold maxLen; omega) (by omega) (by simp; omega) ?_; intro v' w9 hown hgrow hnl hat; obtain ⟨Aw, kw, hv2, _⟩ := mx_slice hown; subst hv2; have HOWN := Lib.hid hown; have HG := Lib.hid hgrow; clear hown hgrow hnl hat)
        have hw9 : Below wo.heap.size wo w9 := (HJ.out.trans ((mx_al wr (.cells #[.int .i64 (-1 - r)] 31)).mono hzj)).grown HG.out (by simp; omega) (fun g hg => (own_lt HO.out g hg).1)
        go_roundw
        case rel => exact ⟨j + 1, ys ++ [-1 - r], by omega, by go_num, by simp; omega, Lib.hid (by rw [List.length_append, List.map_append]; exact HOWN.out), Lib.hid hw9⟩
        case measure => simp [intOf]; omega
       | false =>
        go_wp2_with fail
        go_roundw
        case rel => exact ⟨j + 1, ys, by omega, by go_num, by omega, HO, HJ⟩
        case measure => simp [intOf]; omega
      ·
       have hdj : decide ((j : Int) < 8) = false := by simp; omega
       obtain ⟨r2, hr2⟩ : ∃ r, (n : Int).tmod 2 = r := ⟨_, rfl⟩
       obtain ⟨r8, hr8⟩ : ∃ r, (n : Int).tmod 8 = r := ⟨_, rfl⟩
       have hb2 : 0 ≤ r2 ∧ r2 < 2 := by rw [← hr2, Int.tmod_eq_emod_of_nonneg (by omega)]; omega
       have hb8 : 0 ≤ r8 ∧ r8 < 8 := by rw [← hr8, Int.tmod_eq_emod_of_nonneg (by omega)]; omega
       have e2 : IntKind.i64.wrap (7 + r2) = 7 + r2 := IntWalk.i64_in _ (by omega)
       have e8 : IntKind.i64.wrap (-1 - r8) = -1 - r8 := IntWalk.i64_in _ (by omega)
       have HBJ := Lib.hid (HV.out.trans (HJ.out.mono HV.out.size))
       have HT := Lib.hid (HT8.out ch15 low15 ys (.slice (some ⟨chb, 0, none⟩) 8 8) (.slice (some ⟨W9.heap.size, 0, none⟩) 10 10) (.slice Ay ys.length cy) (7 + r2) (-1 - r8) wr (HCH.out.below HBJ.out) (HLA.out.below HBJ.out) ((IntsIn.of_own HO.out).mono (fun _ _ => trivial)) (by decide) HCHL.out (by decide) (by omega))
       clear HO
       go_wp2_with fail
       refine HT.out.mono ?_
       rintro e y1 ⟨rfl, hb⟩
       have HBE := Lib.hid (HBJ.out.trans (hb.mono HBJ.out.size))
       clear hb HT
       go_wp2_with fail
       go_roundw
       case rel => exact ⟨n + 1, by omega, by go_num, HBE⟩
       case measure => simp [intOf]; omega
    ·
     have hdn : decide ((n : Int) < 256) = false := by simp; omega
     obtain ⟨wc5, rfl⟩ : ∃ wo : World, wo = wr := ⟨_, rfl⟩
     have HB5 := Lib.hid (HBL.out.trans (HV.out.mono HBL.out.size))
     clear hltn
     have HCL5 := Lib.hid (HCL.out.below HB5.out)
     have HAI5 := Lib.hid (HAI.out.below HB5.out)
     have HB25 := Lib.hid (HB2.out.trans (HB5.out.mono HB2.out.size))
     clear HCL HAI HB5 HBL HB2 HCH HLA HALL HAC HV HB1 HT8
     obtain ⟨wn, hwn⟩ : ∃ x, wc5.alloc (.cells #[.int .i64 (-9223372036854775808), .int .i64 (-1), .int .i64 0, .int .i64 1, .int .i64 5, .int .i64 9, .int .i64 1048576, .int .i64 1073741825, .int .i64 9223372036854775807] 3) = x := ⟨_, rfl⟩
     have hbn : Below wc5.heap.size wc5 wn := by rw [← hwn]; exact mx_al _ _
     have HBK := Lib.hid (show wn.heap[wc5.heap.size]? = some (.cells (big15.map (Value.int .i64)).toArray 3 (0, 0)) from by rw [← hwn]; exact World.alloc_heap_new _ _)
     have HWN := Lib.hid hwn
     have HCLn := Lib.hid (HCL5.out.below hbn)
     have HAIn := Lib.hid (HAI5.out.below hbn)
     have HB2n := Lib.hid (HB25.out.trans (hbn.mono HB25.out.size))
     have HEA := Lib.hid (show e15A.length ≤ 90 from by decide)
     clear hwn hbn HCL5 HAI5 HB25
     go_upto_region 36 with fail
     go_wp2_with fail
     rw [HWN.out]
     go_loopw [129] (fun iv wr => ∃ (k : Nat), k ≤ 9 ∧ iv = .int .i64 k ∧ Hid (Below wn.heap.size wn wr)) (fun iv _ => 9 - (intOf iv).toNat)
     case atStart => exact ⟨0, Nat.zero_le _, rfl, Lib.hid (Below.refl _ _)⟩
     case round =>
      obtain ⟨k, hk, rfl, HV⟩ := hrel
      by_cases hltk : k < 9
      ·
       have hdk : decide ((k : Int) < 9) = true := by simp; omega
       have hk9 : (k : Int) < 9 := by omega
       have hk0 : (0 : Int) ≤ (k : Int) := by omega
       obtain ⟨x, hx⟩ := getElem_of (show k < big15.length from hltk)
       have c0 : wr.cell? ⟨wc5.heap.size, k, none⟩ = some (.int .i64 x) := by
        rw [mx_cell (j := k) ((HV.out.block _ (heap_lt HBK.out)).trans HBK.out), List.getElem?_toArray, List.getElem?_map, hx]
        rfl
       clear hx
       obtain ⟨x1, hx1⟩ : ∃ q, wr.alloc (.cells #[.int .i64 (-5), .int .i64 x] 31) = q := ⟨_, rfl⟩
       have hb1 : Below wr.heap.size wr x1 := by rw [← hx1]; exact mx_al _ _
       have hin : IntsIn (fun _ => True) x1 (.slice (some ⟨wr.heap.size, 0, none⟩) 2 2) [-5, x] := by rw [← hx1]; exact (mx_ints wr [-5, x] 31).mono (fun _ _ => trivial)
       have HBV := Lib.hid (HV.out.trans (hb1.mono HV.out.size))
       have HTA := Lib.hid (HT5.out e15L e15A [-5, x] _ _ (.slice (some ⟨wr.heap.size, 0, none⟩) 2 2) x x x1 (HCLn.out.below HBV.out) (HAIn.out.below HBV.out) hin (by decide) HEL.out HEA.out (by simp))
       have HX1 := Lib.hid hx1
       clear hb1 hin hx1
       go_wp2_with fail
       rw [HX1.out]
       refine HTA.out.mono ?_
       rintro e x2 ⟨rfl, hb⟩
       have HBW := Lib.hid (HBV.out.trans (hb.mono HBV.out.size))
       obtain ⟨x3, hx3⟩ : ∃ q, x2.alloc (.cells #[.int .i64 (-5), .int .i64 (-1)] 31) = q := ⟨_, rfl⟩
       have hb1 : Below x2.heap.size x2 x3 := by rw [← hx3]; exact mx_al _ _
       have hin : IntsIn (fun _ => True) x3 (.slice (some ⟨x2.heap.size, 0, none⟩) 2 2) [-5, -1] := by rw [← hx3]; exact (mx_ints x2 [-5, -1] 31).mono (fun _ _ => trivial)
       have HBX := Lib.hid (HBW.out.trans (hb1.mono HBW.out.size))
       have HTB := Lib.hid (HT5.out e15L e15A [-5, -1] _ _ (.slice (some ⟨x2.heap.size, 0, none⟩) 2 2) x x x3 (HCLn.out.below HBX.out) (HAIn.out.below HBX.out) hin (by decide) HEL.out HEA.out (by simp))
       have HX3 := Lib.hid hx3
       clear hb hb1 hin hx3 HTA c0
       go_wp2_with fail
       rw [HX3.out]
       refine HTB.out.mono ?_
       rintro e x4 ⟨rfl, hb⟩
       have HBY := Lib.hid (HBX.out.trans (hb.mono HBX.out.size))
       clear hb HTB
       go_wp2_with fail
       go_roundw
       case rel => exact ⟨k + 1, by omega, by go_num, HBY⟩
       case measure => simp [intOf]; omega
      ·
       have hdk : decide ((k : Int) < 9) = false := by simp; omega
       have HBF := Lib.hid (HB2n.out.trans (HV.out.mono HB2n.out.size))
       go_wp2_with fail
       refine (HNO.out wr).mono ?_
       rintro e z1 ⟨rfl, hb⟩
       have HBG := Lib.hid (HBF.out.trans (hb.mono HBF.out.size))
       clear hb
       go_wp2_with fail
       refine (HAW.out z1).mono ?_
       rintro e z2 ⟨rfl, hb⟩
       have HBH := Lib.hid (HBG.out.trans (hb.mono HBG.out.size))
       clear hb
       go_wp2_with fail
       go_ret
       exact ⟨rfl, HBH.out⟩
end Go.Proofs.YtiodfolcnnkdjaaGreat
