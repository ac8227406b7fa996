/- A map of integers to integers that the program made. -/
import Derived.Test.YthhpffdbipgkcaaGreatDoorMb
namespace Go.Proofs.YthhpffdbipgkcaaGreatDoor
open Go.RowKit Go.Maps

theorem int_law : Keyed Tryz.prog 3 := int_keyed Tryz.underlying3
theorem int_zero (w : World) : (zeroValue 3).run Tryz.prog w = .ok (.int .i64 0) w := by kernel_rfl
theorem wf64 {x : Int} (h0 : -9223372036854775808 ≤ x) (h1 : x ≤ 9223372036854775807) : (Lit.int .i64 x).wf = true := by
  refine WalkArith.wf_i64 ?_
  omega
/-- block b is a map of integers to integers that reads as f (0 where there is nothing), of at most n entries -/
def MapAt (w : World) (b n : Nat) (f : Int → Int) : Prop :=
  ∃ D : DataW Unit, w.ownsMap Tryz.prog 3 (plainElem Tryz.prog 3) b n D ∧ IsMap D ∧ ∀ x : Int, (Lit.int .i64 x).wf = true → D.atKey (.int .i64 x) (.lit (.int .i64 0)) = .lit (.int .i64 (f x))
theorem MapAt.lt {w : World} {b n : Nat} {f : Int → Int} (h : MapAt w b n f) : b < w.heap.size := by
  obtain ⟨D, ⟨es, cl, hb, _⟩, _⟩ := h
  exact heap_lt hb
theorem MapAt.kept {O : Nat → Prop} {w w' : World} {b n : Nat} {f : Int → Int} (h : MapAt w b n f) (k : Kept O w w') (hO : ¬ O b) : MapAt w' b n f := by
  obtain ⟨D, ⟨es, cl, hb, rest⟩, h2⟩ := h
  exact ⟨D, ⟨es, cl, (k.block b (heap_lt hb) hO).trans hb, rest⟩, h2⟩
theorem MapAt.below {w w' : World} {b n : Nat} {f : Int → Int} (h : MapAt w b n f) (k : Below w.heap.size w w') : MapAt w' b n f :=
  h.kept (O := fun _ => False) (Kept.of_below k) (fun h => h)
theorem MapAt.made (w : World) : MapAt (w.alloc (.map #[] 0)) w.heap.size 0 (fun _ => 0) :=
  ⟨.map [], World.ownsMap_made _ _ _ _, isMap_empty, fun _ _ => rfl⟩
theorem MapAt.lookup {w : World} {b n : Nat} {f : Int → Int} (h : MapAt w b n f) {x : Int} (hx : (Lit.int .i64 x).wf = true) :
    (Instr.lookup 51 (.map (some b)) (.int .i64 x) false).run Tryz.prog w = .ok (.int .i64 (f x)) w := by
  obtain ⟨D, ho, hm, hf⟩ := h
  obtain ⟨c, hrun, hat, _⟩ := ho.lookup_int int_law Tryz.underlying51 Tryz.underlying3 (int_zero _) (keyOf_int_mk Tryz.underlying3 hx)
  have := hf x hx
  rw [hat] at this
  have hc : c = f x := by simpa using this
  rw [hrun, hc]
theorem MapAt.put {w' : World} {b n : Nat} {f : Int → Int} {D : DataW Unit} {x y : Int} (hm : IsMap D) (hf : ∀ x : Int, (Lit.int .i64 x).wf = true → D.atKey (.int .i64 x) (.lit (.int .i64 0)) = .lit (.int .i64 (f x)))
    (h : w'.ownsMap Tryz.prog 3 (plainElem Tryz.prog 3) b (n + 1) (D.put (.int .i64 x) (.lit (.int .i64 y)))) : MapAt w' b (n + 1) (fun z => if z = x then y else f z) := by
  refine ⟨_, h, hm.put _ _, fun z hz => ?_⟩
  show _ = DataW.lit (Lit.int .i64 (if z = x then y else f z))
  by_cases hzx : z = x
  · subst hzx
    rw [if_pos rfl, atKey_put_same hm (by simp [WideAt.IsKeyLit])]
  · rw [if_neg hzx, atKey_put_other (by simpa using hzx), hf z hz]
/-- a store into the map, at the walk's operation -/
theorem wpList_put {w : World} {ops : Array Oper} {rest : List Oper} {o : Oper} {a : Act} {Q : Exit → Act → World → Prop} {b n : Nat} {f : Int → Int} (hown : MapAt w b n f)
    (hg : o.guard = none) (m x v : Operand) (hop : o.op = Op.mapUpdate 51 m x v) (hm : a.eval m = .map (some b)) (hn : n < maxLen) (i y : Int) (hx : a.eval x = .int .i64 i) (hv : a.eval v = .int .i64 y)
    (hi : (Lit.int .i64 i).wf = true) (hy : (Lit.int .i64 y).wf = true)
    (hK : ∀ w', MapAt w' b (n + 1) (fun z => if z = i then y else f z) → w.grownBy w' (some b) → wpList Tryz.prog ops Q rest (a.put o.dst undef) w') : wpList Tryz.prog ops Q (o :: rest) a w := by
  obtain ⟨D, ho, hmap, hf⟩ := hown
  exact wpList_mapUpdate_own w hg m x v _ hop 3 3 int_law Tryz.underlying51 _ b n D hm ho hn _ _ _ hx hv (keyOf_int_mk Tryz.underlying3 hi) _ [] (plainElem_int Tryz.underlying3 hy)
    (fun w' h1 h2 => hK w' (MapAt.put hmap hf h1) h2)
end Go.Proofs.YthhpffdbipgkcaaGreatDoor
