/- What EmitSmall meets: calls in memory, a log that is nil, many IDs. -/
import Derived.Test.YtbokfjmbamgenaaDoorRn
namespace Go.Proofs.YtbokfjmbamgenaaDoor
open Go.RowKit

/-- a fresh row of constants, or nil -/
theorem row_new (W : World) (xs : List Int) (t : TypeId) (hw : ∀ n ∈ xs, (Lit.int .i64 n).wf = true) (hl : xs.length ≤ maxLen) : RowAt .i64 (W.alloc (.cells (xs.map (Value.int .i64)).toArray t)) (.slice (some ⟨W.heap.size, 0, none⟩) xs.length xs.length) xs :=
  ⟨some ⟨W.heap.size, 0, none⟩, xs.length, rfl, Nat.le_refl _, hl, (fun h => by cases h), hw, fun i x hi => ⟨W.heap.size, 0, rfl, by simp, by
    rw [cell_new, Nat.zero_add]
    simp [hi]⟩⟩
theorem row_nil (W : World) : RowAt .i64 W (.slice none 0 0) [] := ⟨none, 0, rfl, Nat.le_refl _, Nat.zero_le _, fun _ => rfl, by simp, by simp⟩
def actCells (x : Call17 × Value × Value) : List Value := [.bool x.1.forget, x.2.1, x.2.2]
theorem actCells_at (l : List (Call17 × Value × Value)) (i j : Nat) (x : Call17 × Value × Value) (h : l[i]? = some x) (hj : j < 3) : (l.flatMap actCells)[i * 3 + j]? = (actCells x)[j]? := by
  induction l generalizing i with
  | nil => simp at h
  | cons y l ih =>
    rw [List.flatMap_cons]
    cases i with
    | zero =>
      obtain rfl : y = x := by simpa using h
      rw [Nat.zero_mul, Nat.zero_add, List.getElem?_append_left (by simpa [actCells] using hj)]
    | succ i =>
      rw [List.getElem?_append_right (by simp [actCells]; omega)]
      have e : (i + 1) * 3 + j - (actCells y).length = i * 3 + j := by simp [actCells]; omega
      rw [e]
      exact ih i (by simpa using h)
theorem acts_new (W : World) (l : List (Call17 × Value × Value)) (h : ∀ x ∈ l, RowAt .i64 W x.2.1 x.1.lits ∧ RowAt .i64 W x.2.2 x.1.ids) :
    ActsAt (W.alloc (.cells (l.flatMap actCells).toArray 28)) (.slice (some ⟨W.heap.size, 0, none⟩) l.length l.length) (l.map (·.1)) := by
  refine ⟨some ⟨W.heap.size, 0, none⟩, l.length, by rw [List.length_map], by rw [List.length_map]; exact Nat.le_refl _, (fun h => by cases h), fun i a hi => ?_⟩
  rw [List.getElem?_map] at hi
  cases hx : l[i]? with
  | none => rw [hx] at hi; cases hi
  | some x =>
    rw [hx] at hi
    obtain rfl : x.1 = a := Option.some.inj hi
    have hb := below_al W (.cells (l.flatMap actCells).toArray 28)
    obtain ⟨r1, r2⟩ := h x (List.mem_of_getElem? hx)
    have hc : ∀ j, j < 3 → (W.alloc (.cells (l.flatMap actCells).toArray 28)).cell? ⟨W.heap.size, i * 3 + j, none⟩ = (actCells x)[j]? := fun j hj => by
      rw [cell_new, List.getElem?_toArray]
      exact actCells_at l i j x hx hj
    refine ⟨W.heap.size, 0, x.2.1, x.2.2, rfl, by simp, ?_, ?_, ?_, r1.below hb, r2.below hb⟩
    · rw [Nat.zero_add]
      exact hc 0 (by omega)
    · rw [Nat.zero_add]
      exact hc 1 (by omega)
    · rw [Nat.zero_add]
      exact hc 2 (by omega)
/-- plays, whatever the first number -/
theorem plays_all (f : Int) (v : Value) (al : List Call17) (w : World) (ht : TabW w) (ha : ActsAt w v al) (hl : al.length ≤ 30) (hf : ∀ a ∈ al, a.Fits) :
    Calls Tryd.prog 9 #[.int .i64 f, v] w fun e w' => e = .returned (.bool true) ∧ Below w.heap.size w w' := by
  by_cases h : f < 0 ∨ 1048576 < f
  · obtain ⟨A, c, rfl, _, _⟩ := ha
    exact plays_bad f A al.length c w h
  · obtain ⟨n, rfl⟩ : ∃ n : Nat, f = (n : Int) := ⟨f.toNat, by omega⟩
    exact plays_any n v al w ht (by omega) ha hl hf
/-- the seven calls -/
def someL : List Call17 := [⟨false, [1, -2], [1, 2]⟩, ⟨true, [], [2]⟩, ⟨true, [], [3, 1]⟩, ⟨false, [], [3]⟩, ⟨false, [3], []⟩, ⟨true, [], []⟩, ⟨false, [0], [9]⟩]
theorem someL_fits : ∀ a ∈ someL, a.Fits := by
  intro a ha
  simp only [someL, List.mem_cons, List.not_mem_nil, or_false] at ha
  rcases ha with rfl | rfl | rfl | rfl | rfl | rfl | rfl <;> exact ⟨by decide, by decide⟩
/-- the four calls of a number -/
def fourL (x : Int) : List Call17 := [⟨false, [1], [1, x]⟩, ⟨true, [], [x]⟩, ⟨true, [], [1, 1]⟩, ⟨true, [], [1, x]⟩]
theorem fourL_fits (x : Int) : ∀ a ∈ fourL x, a.Fits := by
  intro a ha
  simp only [fourL, List.mem_cons, List.not_mem_nil, or_false] at ha
  rcases ha with rfl | rfl | rfl | rfl
  · exact ⟨by show 1 ≤ 10; omega, by show 2 ≤ 20; omega⟩
  · exact ⟨by show 0 ≤ 10; omega, by show 1 ≤ 20; omega⟩
  · exact ⟨by show 0 ≤ 10; omega, by show 2 ≤ 20; omega⟩
  · exact ⟨by show 0 ≤ 10; omega, by show 2 ≤ 20; omega⟩
def numsL : List Int := [-9223372036854775808, -1, 0, 1, 2, 3, 1048577, 1073741824, 9223372036854775807]
theorem numsL_wf : ∀ x ∈ numsL, (Lit.int .i64 x).wf = true := by decide
theorem badGo_none (L : ELog) (seen ids : List Int) (h : ∀ x ∈ ids, L.has x = true ∧ x ∉ seen) (hn : ids.Nodup) : badGo L seen ids = [] := by
  induction ids generalizing seen with
  | nil => rfl
  | cons x r ih =>
    have hx := h x List.mem_cons_self
    have hn' := List.nodup_cons.1 hn
    simp only [badGo]
    rw [if_neg (by rw [hx.1]; simpa using hx.2)]
    refine ih _ (fun y hy => ⟨(h y (List.mem_cons_of_mem _ hy)).1, fun hm => ?_⟩) hn'.2
    rcases List.mem_append.1 hm with h1 | h1
    · exact (h y (List.mem_cons_of_mem _ hy)).2 h1
    · rw [List.mem_singleton.1 h1] at hy
      exact hn'.1 hy
theorem thereL_has (m n : Nat) (h : m ≤ n) : ∀ x ∈ thereL m, (newLog n).has x = true ∧ x ∉ ([] : List Int) := fun x hx => ⟨by
  rw [new_has', decide_eq_true_eq]
  have := (thereL_mem m x).1 hx
  omega, by simp⟩
theorem thereL_wf (n : Nat) (h : n ≤ 1048576) : ∀ x ∈ thereL n, (Lit.int .i64 x).wf = true := fun x hx => by
  have := (thereL_mem n x).1 hx
  simp only [Lit.wf, Bool.and_eq_true, decide_eq_true_eq]
  exact ⟨by show (-9223372036854775808 : Int) ≤ x; omega, by show x ≤ (9223372036854775807 : Int); omega⟩
theorem tot_addDel (n : Nat) (ids : List Int) (x : Int) : ((newLog n).addDel ids).tot [x] = 1 + ids.length := by
  unfold ELog.tot ELog.addDel newLog
  simp
/-- what the greatest log answers -/
structure BigFacts : Prop where
  e1 : learnErr (newLog 1048576) [] (thereL 65537) = 5
  l1 : learnLog (newLog 1048576) [] (thereL 65537) = newLog 1048576
  e2 : forgetErr (newLog 1048576) (thereL 65537) = 5
  l2 : forgetLog (newLog 1048576) (thereL 65537) = newLog 1048576
  e3 : forgetErr (newLog 1048576) (thereL 65536) = 0
  n3 : forgetNum (newLog 1048576) (thereL 65536) = 65536
  l3 : forgetLog (newLog 1048576) (thereL 65536) = (newLog 1048576).addDel (thereL 65536)
  e4 : forgetErr ((newLog 1048576).addDel (thereL 65536)) [65537] = 5
  l4 : forgetLog ((newLog 1048576).addDel (thereL 65536)) [65537] = (newLog 1048576).addDel (thereL 65536)
theorem bigFacts : BigFacts := by
  have hd : (newLog 1048576).done = false := rfl
  have b2 : badGo (newLog 1048576) [] (thereL 65537) = [] := badGo_none _ _ _ (thereL_has _ _ (by omega)) (thereL_nodup _)
  have b3 : badGo (newLog 1048576) [] (thereL 65536) = [] := badGo_none _ _ _ (thereL_has _ _ (by omega)) (thereL_nodup _)
  have t2 : (newLog 1048576).tot (thereL 65537) = 65537 := by
    show (thereL 65537).length = 65537
    exact thereL_length _
  have t3 : (newLog 1048576).tot (thereL 65536) = 65536 := by
    show (thereL 65536).length = 65536
    exact thereL_length _
  have hl2 : (thereL 65537).length = 65537 := thereL_length _
  have hl3 : (thereL 65536).length = 65536 := thereL_length _
  have e1 : learnErr (newLog 1048576) [] (thereL 65537) = 5 := by
    unfold learnErr
    rw [if_neg (by rw [hd]; decide), if_neg (by decide), if_pos (by rw [hl2]; omega)]
  have e2 : forgetErr (newLog 1048576) (thereL 65537) = 5 := by
    unfold forgetErr
    rw [if_neg (by rw [hd]; decide), if_neg (by rw [b2]; simp), if_neg (by rw [hl2]; omega), if_pos (by rw [t2]; omega)]
  have e3 : forgetErr (newLog 1048576) (thereL 65536) = 0 := by
    unfold forgetErr
    rw [if_neg (by rw [hd]; decide), if_neg (by rw [b3]; simp), if_neg (by rw [hl3]; omega), if_neg (by rw [t3]; omega), if_neg (by rintro ⟨_, h⟩; exact absurd h (by decide))]
  have b4 : badGo ((newLog 1048576).addDel (thereL 65536)) [] [65537] = [] := by
    refine badGo_none _ _ _ (fun x hx => ?_) (by simp)
    rw [List.mem_singleton.1 hx]
    refine ⟨?_, by simp⟩
    unfold ELog.has ELog.addDel newLog
    simp only [List.nil_append, Bool.and_eq_true, decide_eq_true_eq, Bool.not_eq_true', List.contains_eq_mem, decide_eq_false_iff_not, thereL_mem]
    omega
  have t4 : ((newLog 1048576).addDel (thereL 65536)).tot [65537] = 65537 := by
    rw [tot_addDel, hl3]
  have e4 : forgetErr ((newLog 1048576).addDel (thereL 65536)) [65537] = 5 := by
    unfold forgetErr
    rw [if_neg (by decide), if_neg (by rw [b4]; simp), if_neg (by decide), if_pos (by rw [t4]; omega)]
  refine ⟨e1, ?_, e2, ?_, e3, ?_, ?_, e4, ?_⟩
  · unfold learnLog
    rw [if_neg (by rw [e1]; decide)]
  · unfold forgetLog
    rw [if_neg (by rw [e2]; simp)]
  · unfold forgetNum
    rw [if_neg (by rw [hd]; decide), b3]
    show (if forgetErr (newLog 1048576) (thereL 65536) = 0 then (((thereL 65536).length : Nat) : Int) else 0) = 65536
    rw [if_pos e3, hl3]
    omega
  · unfold forgetLog
    rw [if_pos ⟨e3, by rw [hl3]; omega⟩]
    rfl
  · unfold forgetLog
    rw [if_neg (by rw [e4]; simp)]
theorem last_nil (w : World) : Calls Tryd.prog 17 #[.pointer none] w fun e w' => e = .returned (.int .i64 0) ∧ w = w' := by
  go_enter Tryd.func17, Tryd.ntmps17
  go_wp2
  go_ret
  exact ⟨rfl, rfl⟩
theorem count_nil (w : World) : Calls Tryd.prog 11 #[.pointer none] w fun e w' => e = .returned (.int .i64 0) ∧ w = w' := by
  go_enter Tryd.func11, Tryd.ntmps11
  go_wp2
  go_ret
  exact ⟨rfl, rfl⟩
theorem done_nil (w : World) : Calls Tryd.prog 18 #[.pointer none] w fun e w' => e = .returned (.bool false) ∧ w = w' := by
  go_enter Tryd.func18, Tryd.ntmps18
  go_wp2
  go_ret
  exact ⟨rfl, rfl⟩
theorem has_nil (x : Int) (w : World) : Calls Tryd.prog 12 #[.pointer none, .int .i64 x] w fun e w' => e = .returned (.bool false) ∧ w = w' := by
  go_enter Tryd.func12, Tryd.ntmps12
  go_wp2
  go_ret
  exact ⟨rfl, rfl⟩
theorem text_nil (w : World) : Calls Tryd.prog 16 #[.pointer none] w fun e w' => e = .returned (.tuple #[.string ⟨#[]⟩, .int .i64 1]) ∧ w = w' := by
  go_enter Tryd.func16, Tryd.ntmps16
  go_wp2
  go_ret2
  exact ⟨rfl, rfl⟩
end Go.Proofs.YtbokfjmbamgenaaDoor
