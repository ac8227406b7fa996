/- What a range over a function keeps: all cells and walks but some. -/
import Derived.Test.YthhpffdbipgkcaaGreatDoorMx
import Derived.Test.YthhpffdbipgkcaaGreatDoorMc
import Derived.RangeFuncNested
import Derived.RangeFuncBound
import Derived.RangeFuncCalls
import Derived.RangeFuncLeaves
import Derived.RangeFuncBox
import Derived.Shelf.Abstract
import Derived.Shelf.RegionOpen
import Derived.OwnWalkIn
import Derived.TacticsInMore
import Derived.LoopNIn
import Derived.LoopIn
import Derived.Maps.OwnIn
namespace Go.Proofs.YthhpffdbipgkcaaGreatDoor
open Go.RowKit Go.Shelf Go.Maps
attribute [local go_sem] Oper.semAt_some

/-- a block that is neither cells nor a walk -/
def XO (W : World) (g : Nat) : Prop := ∃ o, W.heap[g]? = some o ∧ o.isCells = false ∧ o.isWalk = false
/-- all cells and walks are as they were, but those of X -/
structure KpC (X : Nat → Prop) (W W' : World) : Prop where
  os : W'.os = W.os
  tape : W'.tape = W.tape
  output : W'.output = W.output
  size : W.heap.size ≤ W'.heap.size
  same : ∀ k o, W.heap[k]? = some o → ¬ X k → (o.isCells = true ∨ o.isWalk = true) → W'.heap[k]? = some o
theorem KpC.kept {X : Nat → Prop} {W W' : World} (h : KpC X W W') : Kept (fun g => X g ∨ XO W g) W W' :=
  ⟨h.os, h.tape, h.output, h.size, fun k hk hn => by
    have hg : W.heap[k]? = some W.heap[k] := Array.getElem?_eq_getElem hk
    rw [hg]
    refine h.same k _ hg (fun hx => hn (.inl hx)) ?_
    apply Classical.byContradiction
    intro hc
    simp only [not_or, Bool.not_eq_true] at hc
    exact hn (.inr ⟨_, hg, hc.1, hc.2⟩)⟩
theorem KpC.trans {X : Nat → Prop} {A B C : World} (h : KpC X A B) (k : KpC X B C) : KpC X A C :=
  ⟨k.os.trans h.os, k.tape.trans h.tape, k.output.trans h.output, Nat.le_trans h.size k.size, fun i o hi hx ho => k.same i o (h.same i o hi hx ho) hx ho⟩
theorem KpC.mono {X X' : Nat → Prop} {A B : World} (h : KpC X A B) (hX : ∀ g, g < A.heap.size → X g → X' g) : KpC X' A B :=
  ⟨h.os, h.tape, h.output, h.size, fun i o hi hx ho => h.same i o hi (fun h' => hx (hX i (heap_lt hi) h')) ho⟩
theorem KpC.of_grown {A B : World} {row : Option Nat} (h : A.grownBy B row) : KpC (fun g => some g = row) A B :=
  ⟨h.os, h.tape, h.output, h.size, fun k _ hk hn _ => (h.block k (heap_lt hk) hn).trans hk⟩
theorem KpC.refl (X : Nat → Prop) (A : World) : KpC X A A := ⟨rfl, rfl, rfl, Nat.le_refl _, fun _ _ h _ _ => h⟩
theorem KpC.of_below {X : Nat → Prop} {A B : World} (h : Below A.heap.size A B) : KpC X A B := ⟨h.os, h.tape, h.output, h.size, fun k _ hk _ _ => (h.block k (heap_lt hk)).trans hk⟩
theorem KpC.putObj (W : World) (l : Nat) (o o' : Obj) (h : W.heap[l]? = some o) (hc : o.isCells = false) (hw : o.isWalk = false) : KpC (fun _ => False) W (W.putObj l o') := by
  have hg := grownBy_putObj' W l o'
  refine ⟨hg.os, hg.tape, hg.output, hg.size, fun k x hk _ hx => ?_⟩
  rw [hg.block k (heap_lt hk) (fun e => by
    cases e
    rw [h] at hk
    cases hk
    rw [hc, hw] at hx
    simp at hx)]
  exact hk
theorem xo_cells {W : World} {g : Nat} {c : Array Value} {t : TypeId} {f : Nat × Nat} (h : W.heap[g]? = some (.cells c t f)) : ¬ XO W g := by
  rintro ⟨o, ho, hc, _⟩
  rw [h] at ho
  cases ho
  cases hc
theorem xo_cell {W : World} {p : Addr} {v : Value} (h : W.cell? p = some v) : ¬ XO W p.block := by
  rintro ⟨o, ho, hc, _⟩
  unfold World.cell? at h
  rw [ho] at h
  cases o <;> simp_all [Obj.isCells]
theorem IntsIn.narrow {O : Nat → Prop} {w : World} {v : Value} {xs : List Int} (h : IntsIn O w v xs) : IntsIn (fun g => O g ∧ ¬ XO w g) w v xs := by
  obtain ⟨A, c, hv, hc, hn, hx⟩ := h
  refine ⟨A, c, hv, hc, hn, fun i x hi => ?_⟩
  obtain ⟨g, o, h1, h2, h3, h4⟩ := hx i x hi
  exact ⟨g, o, h1, h2, ⟨h3, xo_cell h4⟩, h4⟩
theorem wpListIn_put {F : Fence} {n : Nat} {w : World} {ops : Array Oper} {rest : List Oper} {o : Oper} {a : Act} {Q : Exit → Act → World → Prop} {b k : Nat} {f : Int → Int} (hown : MapAt w b k f)
    (hg : o.guard = none) (m x v : Operand) (hop : o.op = Op.mapUpdate 51 m x v) (hm : a.eval m = .map (some b)) (hn : k < maxLen) (i y : Int) (hx : a.eval x = .int .i64 i) (hv : a.eval v = .int .i64 y)
    (hi : (Lit.int .i64 i).wf = true) (hy : (Lit.int .i64 y).wf = true)
    (hK : ∀ w', MapAt w' b (k + 1) (fun z => if z = i then y else f z) → w.grownBy w' (some b) → wpListIn F n Tryz.prog ops Q rest (a.put o.dst undef) w') : wpListIn F n Tryz.prog ops Q (o :: rest) a w := by
  obtain ⟨D, ho, hmap, hf⟩ := hown
  exact wpListIn_mapUpdate_own w hg m x v _ hop 3 3 int_law Tryz.underlying51 _ b k D hm ho hn _ _ _ hx hv (keyOf_int_mk Tryz.underlying3 hi) _ [] (plainElem_int Tryz.underlying3 hy)
    (fun w' h1 h2 => hK w' (MapAt.put hmap hf h1) h2)
end Go.Proofs.YthhpffdbipgkcaaGreatDoor
