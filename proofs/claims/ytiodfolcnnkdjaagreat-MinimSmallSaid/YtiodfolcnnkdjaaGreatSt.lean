/- Sort, Reverse, Compact at rows that are owned (some laws turned from a worked proof of the kit). -/
import Derived.Test.YtiodfolcnnkdjaaGreatShelf
import Derived.Test.YtiodfolcnnkdjaaGreatMx
import Derived.Sort.OwnSorted
namespace Go.Proofs.YtiodfolcnnkdjaaGreat
open Go.RowKit Go.Sort

theorem st_holds {w : World} {g : Nat} {cur : Array Value} {e : TypeId} {ss : List Int} (hb : w.heap[g]? = some (.cells cur e (0, 0))) (ht : cur.toList.take ss.length = ss.map (Value.int .i64)) : Holds (Value.int .i64) w g 0 ss.toArray := by
  intro j hj
  have hj' : j < ss.length := by simpa using hj
  refine ⟨?_, by simp [World.frozen?, hb]⟩
  have h1 : (cur.toList.take ss.length)[j]? = (ss.map (Value.int .i64))[j]? := by rw [ht]
  rw [List.getElem?_take_of_lt hj'] at h1
  simp only [World.cell?, hb, Nat.zero_add]
  simp only [Option.isSome_none, Bool.false_eq_true, if_false]
  rw [← Array.getElem?_toList, h1]
  simp [hj']
theorem st_heap {w : World} {g n : Nat} {os : Array Obj} {cur : Array Value} {e : TypeId} {fr : Nat × Nat} (d : Array Int) (hb : w.heap[g]? = some (.cells cur e fr)) :
    (grow (putRow (Value.int .i64) (Sort.ahead w n) g 0 d) os).heap[g]? = some (.cells (putCells (Value.int .i64) 0 d cur) e fr) := by
  have hg : g < w.heap.size := (Array.getElem?_eq_some_iff.1 hb).1
  rw [heap_grow_old _ _ (by simpa using hg)]
  simp [putRow, mapBlock, Sort.ahead, Array.getElem?_modify, hb, onCells]
theorem st_heap1 {w : World} {g n : Nat} {cur : Array Value} {e : TypeId} {fr : Nat × Nat} (d : Array Int) (hb : w.heap[g]? = some (.cells cur e fr)) :
    (putRow (Value.int .i64) (Sort.ahead w n) g 0 d).heap[g]? = some (.cells (putCells (Value.int .i64) 0 d cur) e fr) := by
  simp [putRow, mapBlock, Sort.ahead, Array.getElem?_modify, hb, onCells]
theorem st_kept {w : World} {g n : Nat} {os : Array Obj} (d : Array Int) : Kept (fun k => some g = some k) w (grow (putRow (Value.int .i64) (Sort.ahead w n) g 0 d) os) := by
  refine ⟨rfl, rfl, rfl, by simp, fun k hk hne => ?_⟩
  rw [heap_grow_old _ _ (by simpa using hk)]
  have : g ≠ k := fun e => hne (by rw [e])
  simp [putRow, mapBlock, Sort.ahead, Array.getElem?_modify, this]
theorem st_kept1 {w : World} {g n : Nat} (d : Array Int) : Kept (fun k => some g = some k) w (putRow (Value.int .i64) (Sort.ahead w n) g 0 d) := by
  refine ⟨rfl, rfl, rfl, by simp, fun k hk hne => ?_⟩
  have : g ≠ k := fun e => hne (by rw [e])
  simp [putRow, mapBlock, Sort.ahead, Array.getElem?_modify, this]
theorem st_take (cur : Array Value) (ts : List Int) (h : ts.length ≤ cur.size) : (putCells (Value.int .i64) 0 ts.toArray cur).toList.take ts.length = ts.map (Value.int .i64) := by
  apply List.ext_getElem?
  intro j
  by_cases hj : j < ts.length
  · rw [List.getElem?_take_of_lt hj, Array.getElem?_toList]
    simp [putCells, hj, show j < cur.size by omega]
  · rw [List.getElem?_take_eq_none (by omega), List.getElem?_eq_none (by simp; omega)]
/-- numbers in order -/
def sortI (xs : List Int) : List Int := xs.mergeSort fun x y => decide (x ≤ y)
theorem sortI_length (xs : List Int) : (sortI xs).length = xs.length := by simp [sortI]
theorem own_sort {base : Nat} (v : Value) (xs : List Int) (w : World) (h : w.ownsRow base 3 1 v xs.length (xs.map (Value.int .i64))) (hl : xs.length < 4611686018427387904) :
    Calls Tryz.prog 80 #[v] w fun e w' => e = .returned (.tuple #[]) ∧ w'.ownsRow base 3 1 v (sortI xs).length ((sortI xs).map (Value.int .i64)) ∧ Kept (fun g => v.ownBlock = some g) w w' := by
  rcases h.2 with ⟨rfl, h0⟩ | ⟨g, cap, cur, rfl, hb, hg, h1, h2, h3, h4⟩
  · obtain rfl : xs = [] := List.eq_nil_of_length_eq_zero h0
    refine (Tryz.slices_Sort_int_none none 0 w).mono ?_
    rintro e w' ⟨rfl, rfl⟩
    have hs : sortI [] = [] := by simp [sortI]
    rw [hs]
    exact ⟨rfl, h, Kept.refl _ _⟩
  · refine (Tryz.slices_Sort_int g 0 cap xs w (st_holds hg (by simpa using h4)) (heap_lt hg) hl).mono ?_
    rintro e w' ⟨rfl, n, os, rfl⟩
    refine ⟨rfl, ?_, st_kept _⟩
    rw [sortI_length]
    refine ⟨by simp [sortI], .inr ⟨g, cap, _, rfl, hb, st_heap _ hg, h1, h2, by simp [putCells, h3], ?_⟩⟩
    have e : xs.length * 1 = (sortI xs).length := by rw [sortI_length, Nat.mul_one]
    rw [e]
    exact st_take cur (sortI xs) (by rw [sortI_length]; omega)
theorem own_reverse {base : Nat} (v : Value) (xs : List Int) (w : World) (h : w.ownsRow base 3 1 v xs.length (xs.map (Value.int .i64))) (hl : xs.length < 4611686018427387904) :
    Calls Tryz.prog 79 #[v] w fun e w' => e = .returned (.tuple #[]) ∧ w'.ownsRow base 3 1 v xs.reverse.length (xs.reverse.map (Value.int .i64)) ∧ Kept (fun g => v.ownBlock = some g) w w' := by
  rcases h.2 with ⟨rfl, h0⟩ | ⟨g, cap, cur, rfl, hb, hg, h1, h2, h3, h4⟩
  · obtain rfl : xs = [] := List.eq_nil_of_length_eq_zero h0
    refine (Tryz.slices_Reverse_int_empty none 0 w).mono ?_
    rintro e w' ⟨rfl, rfl⟩
    exact ⟨rfl, h, Kept.refl _ _⟩
  · refine (Tryz.slices_Reverse_int g 0 cap xs w (st_holds hg (by simpa using h4)) (by omega)).mono ?_
    rintro e w' ⟨rfl, n, rfl⟩
    refine ⟨rfl, ?_, st_kept1 _⟩
    rw [List.length_reverse]
    refine ⟨by simp, .inr ⟨g, cap, _, rfl, hb, st_heap1 _ hg, h1, h2, by simp [putCells, h3], ?_⟩⟩
    have e : xs.length * 1 = xs.reverse.length := by simp
    rw [e]
    exact st_take cur xs.reverse (by rw [List.length_reverse]; omega)
theorem own_compact {base : Nat} (v : Value) (xs : List Int) (w : World) (h : w.ownsRow base 3 1 v xs.length (xs.map (Value.int .i64))) (hl : xs.length < 4611686018427387904) :
    Calls Tryz.prog 89 #[v] w fun e w' => ∃ a c, e = .returned (.slice a (Lib.compact xs).length c) ∧ Kept (fun g => v.ownBlock = some g) w w' := by
  rcases h.2 with ⟨rfl, h0⟩ | ⟨g, cap, cur, rfl, hb, hg, h1, h2, h3, h4⟩
  · obtain rfl : xs = [] := List.eq_nil_of_length_eq_zero h0
    refine (Tryz.slices_Compact_int_empty none 0 w).mono ?_
    rintro e w' ⟨rfl, rfl⟩
    exact ⟨_, _, rfl, Kept.refl _ _⟩
  · refine (Tryz.slices_Compact_int g 0 cap xs w (st_holds hg (by simpa using h4)) (by omega) h1).mono ?_
    rintro e w' ⟨rfl, n, rfl⟩
    exact ⟨_, _, rfl, st_kept1 _⟩
end Go.Proofs.YtiodfolcnnkdjaaGreat
