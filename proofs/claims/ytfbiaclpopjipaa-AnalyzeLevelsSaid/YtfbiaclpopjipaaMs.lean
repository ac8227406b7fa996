/- A set of integers kept in a map[int]int that the program made: what is in it has 1. -/
import Derived.Test.YtfbiaclpopjipaaMc
import Derived.Maps.OwnSet
namespace Go.Proofs.Ytfbiaclpopjipaa
open Go.RowKit Go.Maps

/-- block b is a map of integers that has 1 at the elements of S, nothing else; z entries -/
def SetM (w : World) (b n : Nat) (S : Int → Bool) (z : Nat) : Prop :=
  ∃ D : DataW Unit, w.ownsMap Try.prog 3 (plainElem Try.prog 3) b n D ∧ Tidy D ∧ size D = z ∧ ∀ x : Int, (Lit.int .i64 x).wf = true → D.atKey (.int .i64 x) (.lit (.int .i64 0)) = .lit (.int .i64 (if S x then 1 else 0)) ∧ has D (.int .i64 x) = S x
theorem SetM.lt {w : World} {b n : Nat} {S : Int → Bool} {z : Nat} (h : SetM w b n S z) : b < w.heap.size := by
  obtain ⟨D, ⟨es, cl, hb, _⟩, _⟩ := h
  exact heap_lt hb
theorem SetM.map {w : World} {b n : Nat} {S : Int → Bool} {z : Nat} (h : SetM w b n S z) : MapAt w b n (fun x => if S x then 1 else 0) := by
  obtain ⟨D, ho, ht, _, hx⟩ := h
  exact ⟨D, ho, ht.isMap, fun x hw => (hx x hw).1⟩
theorem SetM.kept {O : Nat → Prop} {w w' : World} {b n : Nat} {S : Int → Bool} {z : Nat} (h : SetM w b n S z) (k : Kept O w w') (hO : ¬ O b) : SetM w' b n S z := by
  obtain ⟨D, ⟨es, cl, hb, rest⟩, h2⟩ := h
  exact ⟨D, ⟨es, cl, (k.block b (heap_lt hb) hO).trans hb, rest⟩, h2⟩
theorem SetM.below {w w' : World} {b n : Nat} {S : Int → Bool} {z : Nat} (h : SetM w b n S z) (k : Below w.heap.size w w') : SetM w' b n S z := h.kept (O := fun _ => False) (Kept.of_below k) (fun h => h)
theorem SetM.made (w : World) : SetM (w.alloc (.map #[] 0)) w.heap.size 0 (fun _ => false) 0 :=
  ⟨.map [], World.ownsMap_made _ _ _ _, tidy_empty, rfl, fun _ _ => ⟨rfl, rfl⟩⟩
theorem SetM.mono {w : World} {b n n' : Nat} {S : Int → Bool} {z : Nat} (h : SetM w b n S z) (hn : n ≤ n') : SetM w b n' S z := by
  obtain ⟨D, ho, h2⟩ := h
  exact ⟨D, ho.mono hn, h2⟩
theorem SetM.congr {w : World} {b n : Nat} {S S' : Int → Bool} {z z' : Nat} (h : SetM w b n S z) (hS : ∀ x, S' x = S x) (hz : z' = z) : SetM w b n S' z' := by
  obtain rfl : S' = S := funext hS
  subst hz
  exact h
theorem wpList_add {w : World} {ops : Array Oper} {rest : List Oper} {o : Oper} {a : Act} {Q : Exit → Act → World → Prop} {b n z : Nat} {S : Int → Bool} (hown : SetM w b n S z)
    (hg : o.guard = none) (m x v : Operand) (hop : o.op = Op.mapUpdate 31 m x v) (hm : a.eval m = .map (some b)) (hn : n < maxLen) (i : Int) (hx : a.eval x = .int .i64 i) (hv : a.eval v = .int .i64 1)
    (hi : (Lit.int .i64 i).wf = true)
    (hK : ∀ w', SetM w' b (n + 1) (fun y => y == i || S y) (if S i then z else z + 1) → w.grownBy w' (some b) → wpList Try.prog ops Q rest (a.put o.dst undef) w') : wpList Try.prog ops Q (o :: rest) a w := by
  obtain ⟨D, ho, ht, hz, hf⟩ := hown
  refine wpList_mapUpdate_own w hg m x v _ hop 3 3 int_law Try.underlying31 _ b n D hm ho hn _ _ _ hx hv (keyOf_int_mk Try.underlying3 hi) (.lit (.int .i64 1)) [] (plainElem_int Try.underlying3 (by decide))
    (fun w' h1 h2 => hK w' ⟨_, h1, ht.put (by simp [WideAt.IsKeyLit]) _, ?_, fun y hy => ?_⟩ h2)
  · rw [size_put ht, (hf i hi).2, hz]
  · by_cases hyi : y = i
    · subst hyi
      refine ⟨?_, ?_⟩
      · rw [atKey_put_same ht.isMap (by simp [WideAt.IsKeyLit])]
        simp
      · rw [has_put_same ht.isMap (by simp [WideAt.IsKeyLit])]
        simp
    · have hne : (Lit.int .i64 y) ≠ .int .i64 i := by simpa using hyi
      refine ⟨?_, ?_⟩
      · rw [atKey_put_other hne, (hf y hy).1]
        simp [hyi]
      · rw [has_put_other hne, (hf y hy).2]
        simp [hyi]
theorem wpList_remove {w : World} {ops : Array Oper} {rest : List Oper} {o : Oper} {a : Act} {Q : Exit → Act → World → Prop} {b n z : Nat} {S : Int → Bool} (hown : SetM w b n S z)
    (hg : o.guard = none) (m x : Operand) (hop : o.op = Op.call { callee := Callee.builtin Builtin.delete, args := #[m, x], argTypes := #[31, 3] }) (hm : a.eval m = .map (some b)) (i : Int) (hx : a.eval x = .int .i64 i)
    (hi : (Lit.int .i64 i).wf = true)
    (hK : ∀ w', SetM w' b n (fun y => y != i && S y) (if S i then z - 1 else z) → w.grownBy w' (some b) → wpList Try.prog ops Q rest (a.put o.dst (.tuple #[])) w') : wpList Try.prog ops Q (o :: rest) a w := by
  obtain ⟨D, ho, ht, hz, hf⟩ := hown
  refine wpList_delete_own w hg m x _ _ hop 3 int_law Try.underlying31 _ b n D hm ho _ _ hx (keyOf_int_mk Try.underlying3 hi)
    (fun w' h1 h2 => hK w' ⟨_, h1, ht.del _, ?_, fun y hy => ?_⟩ h2.grown)
  · have := size_del (k := .int .i64 i) ht
    rw [(hf i hi).2, hz] at this
    cases hS : S i <;> rw [hS] at this <;> simp at this ⊢ <;> omega
  · by_cases hyi : y = i
    · subst hyi
      refine ⟨?_, ?_⟩
      · rw [atKey_del_same]
        simp
      · rw [has_del_same]
        simp
    · have hne : (Lit.int .i64 y) ≠ .int .i64 i := by simpa using hyi
      refine ⟨?_, ?_⟩
      · rw [atKey_del_other hne, (hf y hy).1]
        simp [hyi]
      · rw [has_del_other hne, (hf y hy).2]
        simp [hyi]
theorem wpList_setlen {w : World} {ops : Array Oper} {rest : List Oper} {o : Oper} {a : Act} {Q : Exit → Act → World → Prop} {b n z : Nat} {S : Int → Bool} (hown : SetM w b n S z)
    (hg : o.guard = none) (m : Operand) (hop : o.op = Op.call { callee := Callee.builtin Builtin.len, args := #[m], argTypes := #[31] }) (hm : a.eval m = .map (some b))
    (hK : wpList Try.prog ops Q rest (a.put o.dst (.int .i64 z)) w) : wpList Try.prog ops Q (o :: rest) a w := by
  obtain ⟨D, ho, ht, hz, hf⟩ := hown
  exact wpList_len_own w hg m _ hop 3 3 Try.underlying31 _ b n D hm ho (by rw [hz]; exact hK)
end Go.Proofs.Ytfbiaclpopjipaa
