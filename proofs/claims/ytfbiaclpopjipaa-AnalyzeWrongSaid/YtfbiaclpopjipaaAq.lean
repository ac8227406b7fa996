/- The example of the chapter (package salvorlaw14): what is computed; example; Delete. -/
import Derived.Test.YtfbiaclpopjipaaAp
import Derived.Lib.SliceRun
namespace Go.Proofs.Ytfbiaclpopjipaa
open Go.RowKit

theorem sortI_eq {xs ys : List Int} (hp : xs.Perm ys) (hs : ys.Pairwise (· ≤ ·)) : sortI xs = ys := by
  refine List.Perm.eq_of_pairwise (le := fun a b => a ≤ b) (fun a b _ _ h1 h2 => by omega) ?_ hs ((List.mergeSort_perm _ _).trans hp)
  have := List.pairwise_mergeSort (le := fun x y : Int => decide (x ≤ y)) (fun a b c h1 h2 => by simp at *; omega) (fun a b => by simp; omega) xs
  exact this.imp (fun h => by simpa using h)
theorem mx_ints (W : World) (xs : List Int) (t : TypeId) : IntsIn (fun g => g = W.heap.size) (W.alloc (.cells (xs.map (Value.int .i64)).toArray t)) (.slice (some ⟨W.heap.size, 0, none⟩) xs.length xs.length) xs :=
  ⟨some ⟨W.heap.size, 0, none⟩, xs.length, rfl, Nat.le_refl _, (fun h => by cases h), fun i x hi => ⟨W.heap.size, 0, rfl, by simp, rfl, by
    rw [cell_new, Nat.zero_add]
    simp [hi]⟩⟩
def exL : List (List Int) := [[-1, 2], [-2, -3, 4], [-4, 5], [-5, -4, -2], [3]]
def exA : List ActP := [⟨true, 0, 0⟩, ⟨false, 3, 0⟩, ⟨true, 0, 0⟩, ⟨false, 1, 0⟩, ⟨false, 2, 1⟩, ⟨false, 4, 2⟩, ⟨false, 5, 3⟩]
def exB : List ActP := [⟨false, 3, 5⟩, ⟨true, 0, 0⟩, ⟨false, 1, 0⟩, ⟨false, 2, 1⟩, ⟨false, 4, 2⟩, ⟨false, 5, 3⟩]
def exAr : Arn := addAll arn0 0 exL
def exT : Trl := playAll (trl0 5) exA
def exU : Trl := playAll (trl0 5) exB
theorem ex_get4 : exAr.get 4 = some [-5, -4, -2] := by kernel_rfl
theorem ex_get5 : exAr.get 5 = some [3] := by kernel_rfl
theorem ex_f4 : exT.failMax [-5, -4, -2] 0 = some 2 := by kernel_rfl
theorem ex_f5 : exT.failMax [3] 0 = none := by kernel_rfl
theorem ex_g4 : exU.failMax [-5, -4, -2] 0 = some 1 := by kernel_rfl
theorem ex_end1 : cfEnd exAr exT 2 [-5, -4, -2] = some ⟨[5, 4, 2, 3], 1, [-2, -3], [3, 2], [5, 4, 2, 3]⟩ := by kernel_rfl
theorem ex_end2 : cfEnd exAr exU 1 [-5, -4, -2] = some ⟨[5, 4, 2, 3], 1, [-2], [3, 2, 5], [5, 4, 2]⟩ := by kernel_rfl
theorem ex_lv1 : exT.levelsOf [-2, -3] = 2 := by
  unfold Trl.levelsOf Trl.nLevels
  rw [if_pos (by decide), show exT.lvls [-2, -3] = [2, 1] from by kernel_rfl, sortI_eq (ys := [1, 2]) (by decide) (by decide)]
  rfl
theorem ex_lv2 : exU.levelsOf [-2] = 1 := by
  unfold Trl.levelsOf Trl.nLevels
  rw [if_pos (by decide), show exU.lvls [-2] = [1] from by kernel_rfl, sortI_eq (ys := [1]) (by decide) (by decide)]
  rfl
theorem ex_conf1 : confP exAr exT 4 = (⟨[-2, -3], 1, 2, [2, 3, 4], [2, 3, 4, 5]⟩, 0) := by
  unfold confP
  rw [ex_get4]
  simp only [ex_f4, ex_end1]
  rw [ex_lv1, sortI_eq (xs := [5, 4, 2, 3]) (ys := [2, 3, 4, 5]) (by decide) (by decide), show exT.backOf [-2, -3] = 1 from by kernel_rfl]
  rfl
theorem ex_conf2 : confP exAr exU 4 = (⟨[-2], 0, 1, [5, 2, 3, 4], [2, 4, 5]⟩, 0) := by
  unfold confP
  rw [ex_get4]
  simp only [ex_g4, ex_end2]
  rw [ex_lv2, sortI_eq (xs := [5, 4, 2]) (ys := [2, 4, 5]) (by decide) (by decide), show exU.backOf [-2] = 0 from by kernel_rfl]
  rfl
theorem ex_conf5 : confP exAr exT 5 = (lrn0, 140) := by
  unfold confP
  rw [ex_get5]
  simp only [ex_f5]
theorem ex_right4 : rightB exAr exT 4 = true := by kernel_rfl
theorem ex_right1 : rightB exAr exT 1 = false := by kernel_rfl

/-! ### the lists of the example in memory -/
def ActP.cells (a : ActP) : List Value := [.bool a.push, .int .i64 a.l, .int .i64 a.by_]
theorem actCells_at (l : List ActP) (i j : Nat) (x : ActP) (h : l[i]? = some x) (hj : j < 3) : (l.flatMap ActP.cells)[i * 3 + j]? = x.cells[j]? := by
  induction l generalizing i with
  | nil => simp at h
  | cons y l ih =>
    rw [List.flatMap_cons]
    cases i with
    | zero =>
      obtain rfl : y = x := by simpa using h
      rw [Nat.zero_mul, Nat.zero_add, List.getElem?_append_left (by simpa [ActP.cells] using hj)]
    | succ i =>
      rw [List.getElem?_append_right (by simp [ActP.cells]; omega)]
      have e : (i + 1) * 3 + j - y.cells.length = i * 3 + j := by simp [ActP.cells]; omega
      rw [e]
      exact ih i (by simpa using h)
theorem actCells_len (l : List ActP) : (l.flatMap ActP.cells).length = l.length * 3 := by
  induction l with
  | nil => rfl
  | cons y l ih =>
    rw [List.flatMap_cons, List.length_append, ih, List.length_cons]
    simp only [ActP.cells, List.length_cons, List.length_nil]
    omega
/-- a block whose cells begin with these calls -/
theorem acts_of_block {w : World} {g n c : Nat} {cs : Array Value} {t : TypeId} {l : List ActP} (h : w.heap[g]? = some (.cells cs t (0, 0))) (hl : l.length = n) (ht : cs.toList.take (n * 3) = l.flatMap ActP.cells) : ActsIn w (.slice (some ⟨g, 0, none⟩) n c) l := by
  subst hl
  refine ⟨_, c, rfl, fun i a hi => ⟨g, 0, rfl, heap_lt h, ?_⟩⟩
  have hlt : i < l.length := (List.getElem?_eq_some_iff.1 hi).1
  have hc : ∀ j, j < 3 → w.cell? ⟨g, i * 3 + j, none⟩ = a.cells[j]? := fun j hj => by
    rw [mx_cell h, ← actCells_at l i j a hi hj, ← ht, List.getElem?_take_of_lt (by omega), Array.getElem?_toList]
  have h0 := hc 0 (by omega)
  have h1 := hc 1 (by omega)
  have h2 := hc 2 (by omega)
  exact ⟨by rw [Nat.zero_add]; exact h0, by rw [Nat.zero_add]; exact h1, by rw [Nat.zero_add]; exact h2⟩
theorem cls_new (W : World) (us : List Value) (cs : List (List Int)) (t : TypeId) (h : ∀ (i : Nat) (xs : List Int), cs[i]? = some xs → ∃ u, us[i]? = some u ∧ IntsIn (fun g => g < W.heap.size) W u xs) : ClsAt (W.alloc (.cells us.toArray t)) (.slice (some ⟨W.heap.size, 0, none⟩) cs.length cs.length) cs := by
  refine ⟨_, cs.length, rfl, fun i xs hi => ?_⟩
  obtain ⟨u, hu, hx⟩ := h i xs hi
  have hb := mx_al W (.cells us.toArray t)
  refine ⟨W.heap.size, 0, u, rfl, by simp, ?_, (hx.below hb).mono (fun g hg => by simp; omega)⟩
  rw [cell_new, Nat.zero_add]
  simpa using hu
theorem ex_in {w : World} {n : Nat} {xs : List Int} {t : TypeId} {W : World} (hs : W.heap.size = n) (hb : Below (n + 1) (W.alloc (.cells (xs.map (Value.int .i64)).toArray t)) w) : IntsIn (fun g => g < w.heap.size) w (.slice (some ⟨n, 0, none⟩) xs.length xs.length) xs := by
  subst hs
  have hb' : Below (W.alloc (.cells (xs.map (Value.int .i64)).toArray t)).heap.size (W.alloc (.cells (xs.map (Value.int .i64)).toArray t)) w := by simpa using hb
  refine ((mx_ints W xs t).below hb').mono (fun g hg => ?_)
  have := hb.size
  simp at this
  omega
set_option maxRecDepth 100000 in
set_option maxHeartbeats 1000000 in
theorem example_any (w : World) :
    Calls Try.prog 25 #[] w fun e w' => ∃ cv g W6, e = .returned (.tuple #[cv, .slice (some ⟨g, 0, none⟩) 7 7]) ∧ ClsAt W6 cv exL ∧ W6.heap.size = g ∧ Below g W6 w' ∧ w'.heap[g]? = some (.cells (exA.flatMap ActP.cells).toArray 66 (0, 0)) ∧ w.heap.size ≤ g ∧ Below w.heap.size w w' := by
  obtain ⟨W6, hW6, hb6, hc6⟩ : ∃ W6, ((((((w.alloc (.cells #[.int .i64 (-1), .int .i64 2] 33)).alloc (.cells #[.int .i64 (-2), .int .i64 (-3), .int .i64 4] 33)).alloc (.cells #[.int .i64 (-4), .int .i64 5] 33)).alloc (.cells #[.int .i64 (-5), .int .i64 (-4), .int .i64 (-2)] 33)).alloc (.cells #[.int .i64 3] 33)).alloc (.cells #[.slice (some ⟨w.heap.size, 0, none⟩) 2 2, .slice (some ⟨w.heap.size + 1, 0, none⟩) 3 3, .slice (some ⟨w.heap.size + 1 + 1, 0, none⟩) 2 2, .slice (some ⟨w.heap.size + 1 + 1 + 1, 0, none⟩) 3 3, .slice (some ⟨w.heap.size + 1 + 1 + 1 + 1, 0, none⟩) 1 1] 29)) = W6 ∧ Below w.heap.size w W6 ∧ ClsAt W6 (.slice (some ⟨w.heap.size + 1 + 1 + 1 + 1 + 1, 0, none⟩) 5 5) exL := by
    refine ⟨_, rfl, (((((mx_al _ _).alloc (by simp) _).alloc (by simp; omega) _).alloc (by simp; omega) _).alloc (by simp; omega) _).alloc (by simp; omega) _, ?_⟩
    have key := cls_new (((((w.alloc (.cells #[.int .i64 (-1), .int .i64 2] 33)).alloc (.cells #[.int .i64 (-2), .int .i64 (-3), .int .i64 4] 33)).alloc (.cells #[.int .i64 (-4), .int .i64 5] 33)).alloc (.cells #[.int .i64 (-5), .int .i64 (-4), .int .i64 (-2)] 33)).alloc (.cells #[.int .i64 3] 33)) [.slice (some ⟨w.heap.size, 0, none⟩) 2 2, .slice (some ⟨w.heap.size + 1, 0, none⟩) 3 3, .slice (some ⟨w.heap.size + 1 + 1, 0, none⟩) 2 2, .slice (some ⟨w.heap.size + 1 + 1 + 1, 0, none⟩) 3 3, .slice (some ⟨w.heap.size + 1 + 1 + 1 + 1, 0, none⟩) 1 1] exL 29 (fun i xs hi => by
      match i, hi with
      | 0, hi =>
        obtain rfl := Option.some.inj hi
        exact ⟨_, rfl, ex_in (xs := [-1, 2]) (W := w) rfl ((((mx_al _ _).mono (by simp)).alloc (by simp) _).alloc (by simp) _ |>.alloc (by simp) _)⟩
      | 1, hi =>
        obtain rfl := Option.some.inj hi
        exact ⟨_, rfl, ex_in (xs := [-2, -3, 4]) (W := w.alloc (.cells #[.int .i64 (-1), .int .i64 2] 33)) (by simp) ((((mx_al _ _).mono (by simp)).alloc (by simp) _).alloc (by simp) _)⟩
      | 2, hi =>
        obtain rfl := Option.some.inj hi
        exact ⟨_, rfl, ex_in (xs := [-4, 5]) (W := (w.alloc (.cells #[.int .i64 (-1), .int .i64 2] 33)).alloc (.cells #[.int .i64 (-2), .int .i64 (-3), .int .i64 4] 33)) (by simp) (((mx_al _ _).mono (by simp)).alloc (by simp) _)⟩
      | 3, hi =>
        obtain rfl := Option.some.inj hi
        exact ⟨_, rfl, ex_in (xs := [-5, -4, -2]) (W := ((w.alloc (.cells #[.int .i64 (-1), .int .i64 2] 33)).alloc (.cells #[.int .i64 (-2), .int .i64 (-3), .int .i64 4] 33)).alloc (.cells #[.int .i64 (-4), .int .i64 5] 33)) (by simp) ((mx_al _ _).mono (by simp))⟩
      | 4, hi =>
        obtain rfl := Option.some.inj hi
        exact ⟨_, rfl, ex_in (xs := [3]) (W := (((w.alloc (.cells #[.int .i64 (-1), .int .i64 2] 33)).alloc (.cells #[.int .i64 (-2), .int .i64 (-3), .int .i64 4] 33)).alloc (.cells #[.int .i64 (-4), .int .i64 5] 33)).alloc (.cells #[.int .i64 (-5), .int .i64 (-4), .int .i64 (-2)] 33)) (by simp) (Below.refl _ _)⟩
      | n + 5, hi => exact absurd hi (by simp [exL]))
    simpa [exL] using key
  have hsz : W6.heap.size = w.heap.size + 1 + 1 + 1 + 1 + 1 + 1 := by rw [← hW6]; simp
  have HSZ := Lib.hid hsz
  have HW6 := Lib.hid hW6
  have HB6 := Lib.hid hb6
  have HC6 := Lib.hid hc6
  clear hW6 hb6 hc6 hsz
  go_enter Try.func25, Try.ntmps25
  go_wp2_with fail
  rw [HW6.out]
  go_ret2
  have hnew := World.alloc_heap_new W6 (.cells (exA.flatMap ActP.cells).toArray 66)
  have hb := mx_al W6 (.cells (exA.flatMap ActP.cells).toArray 66)
  rw [HSZ.out] at hnew hb
  exact ⟨_, _, W6, rfl, HC6.out, HSZ.out, hb, hnew, by omega, HB6.out.trans (hb.mono (by omega))⟩
end Go.Proofs.Ytfbiaclpopjipaa
