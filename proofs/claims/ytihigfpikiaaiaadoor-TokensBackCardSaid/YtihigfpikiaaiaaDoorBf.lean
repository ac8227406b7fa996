/- The text as the law builds it, word by word (plain). -/
import Derived.Test.YtihigfpikiaaiaaDoorBe
namespace Go.Proofs.YtihigfpikiaaiaaDoor
open Go.RowKit

theorem mkP_snoc (gf : Nat → List UInt8) (i : Nat) (ws : List (List UInt8)) (w : List UInt8) : mkP gf i (ws ++ [w]) = mkP gf i ws ++ [(gf (i + ws.length), w)] := by
  induction ws generalizing i with
  | nil => rfl
  | cons v ws ih =>
    simp only [List.cons_append, mkP, ih, List.length_cons]
    rw [show i + 1 + ws.length = i + (ws.length + 1) by omega]
theorem flat_app (a b : List (List UInt8 × List UInt8)) : Tk.flat (a ++ b) = Tk.flat a ++ Tk.flat b := by
  induction a with
  | nil => rfl
  | cons q a ih => obtain ⟨g, w⟩ := q; simp only [List.cons_append, Tk.flat, ih, List.append_assoc]
/-- the text of the first k words -/
def textTo (gf : Nat → List UInt8) (ws : List (List UInt8)) (k : Nat) : List UInt8 := Tk.flat (mkP gf 0 (ws.take k))
theorem textTo_zero (gf : Nat → List UInt8) (ws : List (List UInt8)) : textTo gf ws 0 = [] := rfl
theorem textTo_step (gf : Nat → List UInt8) (ws : List (List UInt8)) (k : Nat) (w : List UInt8) (h : ws[k]? = some w) : textTo gf ws (k + 1) = textTo gf ws k ++ gf k ++ w := by
  have hl : k < ws.length := by
    rcases Nat.lt_or_ge k ws.length with h2 | h2
    · exact h2
    · rw [List.getElem?_eq_none h2] at h; cases h
  unfold textTo
  rw [List.take_add_one, h, Option.toList_some, mkP_snoc, flat_app, List.length_take]
  simp only [Tk.flat, List.append_nil, List.append_assoc]
  rw [show 0 + min k ws.length = k by omega]
theorem textTo_all (gf : Nat → List UInt8) (ws : List (List UInt8)) : textTo gf ws ws.length = Tk.flat (mkP gf 0 ws) := by
  unfold textTo
  rw [List.take_length]
theorem posOf_app (a : Nat) (p q : List (List UInt8 × List UInt8)) : Tk.posOf a (p ++ q) = Tk.posOf a p ++ Tk.posOf (a + (Tk.flat p).length) q := by
  induction p generalizing a with
  | nil => rfl
  | cons x p ih =>
    obtain ⟨g, w⟩ := x
    simp only [List.cons_append, Tk.posOf, ih, Tk.flat, List.length_append]
    rw [show a + g.length + w.length + (Tk.flat p).length = a + (g.length + (w.length + (Tk.flat p).length)) by omega]
theorem atL_take (gf : Nat → List UInt8) (ws : List (List UInt8)) (k : Nat) (w : List UInt8) (h : ws[k]? = some w) : atL gf (ws.take (k + 1)) = atL gf (ws.take k) ++ [(textTo gf ws k).length + (gf k).length] := by
  have hl : k < ws.length := by
    rcases Nat.lt_or_ge k ws.length with h2 | h2
    · exact h2
    · rw [List.getElem?_eq_none h2] at h; cases h
  unfold atL textTo
  rw [List.take_add_one, h, Option.toList_some, mkP_snoc, posOf_app, List.length_take]
  simp only [Tk.posOf]
  rw [show 0 + min k ws.length = k by omega, Nat.zero_add]
theorem textTo_len (gf : Nat → List UInt8) (ws : List (List UInt8)) (hg : ∀ j, (gf j).length ≤ 8) (hw : ∀ w ∈ ws, w.length ≤ 12) (k : Nat) : (textTo gf ws k).length ≤ 20 * k := by
  induction k with
  | zero => simp [textTo_zero]
  | succ k ih =>
    rcases Nat.lt_or_ge k ws.length with hl | hl
    · have h := List.getElem?_eq_getElem hl
      rw [textTo_step gf ws k _ h, List.length_append, List.length_append]
      have h1 := hg k
      have h2 := hw _ (List.getElem_mem hl)
      omega
    · unfold textTo at ih ⊢
      rw [List.take_of_length_le (by omega)] at ih ⊢
      omega
/-- a row that is owned, as a slice with its cells -/
theorem slice_of_own {w : World} {base n : Nat} {e : TypeId} {v : Value} {xs : List Value} (h : w.ownsRow base e 1 v n xs) : ∃ A c, v = .slice A n c ∧ n ≤ c ∧ ∀ i u, xs[i]? = some u → ∃ g, A = some ⟨g, 0, none⟩ ∧ base ≤ g ∧ g < w.heap.size ∧ w.cell? ⟨g, i, none⟩ = some u := by
  have h1 := h.1
  rcases h.2 with ⟨rfl, rfl⟩ | ⟨g, cap, cur, rfl, hb, hg, hle, _⟩
  · refine ⟨none, 0, rfl, Nat.le_refl _, fun i u hi => ?_⟩
    have : xs = [] := List.length_eq_zero_iff.1 (by omega)
    subst this
    simp at hi
  · refine ⟨_, cap, rfl, hle, fun i u hi => ⟨g, rfl, hb, heap_lt hg, ?_⟩⟩
    have hc := h.cells (g := g) rfl i u hi
    have e : (⟨g, 0, none⟩ : Addr).add i = ⟨g, i, none⟩ := by unfold Addr.add; split <;> simp_all
    rwa [e] at hc
/-- a builder is kept by what touches neither its block nor its buffer -/
theorem builder_grown {T e : TypeId} {B b : Nat} {bs : List Value} {w w' : World} {row : Option Nat} (h : Lib.IsBuilderF T e B b bs w) (hg : w.grownBy w' row) (hr : ∀ g, row = some g → g ≠ b ∧ ∃ c t fz, w.heap[g]? = some (.cells c t fz) ∧ t ≠ e) : Lib.IsBuilderF T e B b bs w' := by
  have key : ∀ p, Lib.BuilderAtF T e B b p bs w → Lib.BuilderAtF T e B b p bs w' := fun p ⟨hB, v, hb, hown, hne⟩ => by
    refine ⟨hB, v, ?_, ?_, hne⟩
    · rw [hg.block b (heap_lt hb) (fun e => (hr b e.symm).1 rfl)]
      exact hb
    · refine hown.kept hg ?_
      cases hq : v.ownBlock with
      | none => exact .inl rfl
      | some q =>
        refine .inr (fun e' => ?_)
        obtain ⟨_, c, t, fz, hh, ht⟩ := hr q e'.symm
        rcases hown.2 with ⟨rfl, _⟩ | ⟨g, cap, cur, fz2, rfl, _, hg2, _⟩
        · simp [Value.ownBlock] at hq
        · simp only [Value.ownBlock, Option.some.injEq] at hq
          subst hq
          rw [hh] at hg2
          simp only [Option.some.injEq, Obj.cells.injEq] at hg2
          exact ht hg2.2.1
  exact h.elim (fun x => .inl (key _ x)) (fun x => .inr (key _ x))
theorem builder_below {T e : TypeId} {B b : Nat} {bs : List Value} {w w' : World} (h : Lib.IsBuilderF T e B b bs w) (hb : Below w.heap.size w w') : Lib.IsBuilderF T e B b bs w' :=
  builder_grown (row := none) h (grown_of_below hb none) (fun g hg => by cases hg)
/-- a row of another type is kept by what the builder does -/
theorem own_others {w w' : World} {base n : Nat} {e t : TypeId} {b : Nat} {v : Value} {xs : List Value} {size : Nat} (h : w.ownsRow base t size v n xs) (hk : Lib.OthersKept e (some b) w w') (ht : t ≠ e) (hb : v.ownBlock ≠ some b) : w'.ownsRow base t size v n xs := by
  refine ⟨h.1, ?_⟩
  rcases h.2 with hn | ⟨g, cap, cur, rfl, h1, hg, rest⟩
  · exact .inl hn
  · refine .inr ⟨g, cap, cur, rfl, h1, ?_, rest⟩
    refine hk g _ hg (fun e => hb (by rw [← e]; rfl)) (fun c fz e' => ?_)
    simp only [Obj.cells.injEq] at e'
    exact ht e'.2.1
/-- the block of a row holds its type's cells -/
theorem own_type {w : World} {base n size : Nat} {e : TypeId} {v : Value} {xs : List Value} (h : w.ownsRow base e size v n xs) : ∀ g, v.ownBlock = some g → ∃ c fz, w.heap[g]? = some (.cells c e fz) := by
  intro g hg
  rcases h.2 with ⟨rfl, _⟩ | ⟨g', cap, cur, rfl, _, hh, _⟩
  · simp [Value.ownBlock] at hg
  · simp only [Value.ownBlock, Option.some.injEq] at hg
    subst hg
    exact ⟨_, _, hh⟩
theorem own_not_builder {w : World} {base n size B b : Nat} {e t T : TypeId} {v : Value} {xs bs : List Value} (h : w.ownsRow base t size v n xs) (hb : Lib.IsBuilderF T e B b bs w) (ht : t ≠ T) : v.ownBlock ≠ some b := by
  intro hv
  obtain ⟨c, fz, hc⟩ := own_type h b hv
  have key : ∀ p, Lib.BuilderAtF T e B b p bs w → False := fun p ⟨_, v2, hb2, _⟩ => by
    rw [hc] at hb2
    simp only [Option.some.injEq, Obj.cells.injEq] at hb2
    exact ht hb2.2.1
  exact hb.elim (key _) (key _)
end Go.Proofs.YtihigfpikiaaiaaDoor
