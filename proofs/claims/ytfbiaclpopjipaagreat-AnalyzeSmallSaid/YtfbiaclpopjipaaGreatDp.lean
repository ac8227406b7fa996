/- The references' states in memory, in blocks of which something is known. -/
import Derived.Test.YtfbiaclpopjipaaGreatDa
namespace Go.Proofs.YtfbiaclpopjipaaGreat
open Go.RowKit

def RowO (O : Nat → Prop) (w : World) (v : Value) (n : Nat) (xs : List Value) : Prop :=
  ∃ A c, v = .slice A n c ∧ n ≤ c ∧ (A = none → c = 0) ∧ ∀ j u, xs[j]? = some u → ∃ g o, A = some ⟨g, o, none⟩ ∧ g < w.heap.size ∧ O g ∧ w.cell? ⟨g, o + j, none⟩ = some u
variable {O O' : Nat → Prop} {w w' : World}
theorem RowO.weak {v : Value} {n : Nat} {xs : List Value} (h : RowO O w v n xs) : RowIn w v n xs := by
  obtain ⟨A, c, h1, h2, h3, h4⟩ := h
  refine ⟨A, c, h1, h2, h3, fun j u hj => ?_⟩
  obtain ⟨g, o, e1, e2, _, e3⟩ := h4 j u hj
  exact ⟨g, o, e1, e2, e3⟩
theorem RowO.kept {v : Value} {n : Nat} {xs : List Value} (h : RowO O w v n xs) (k : Kept O' w w') (hO : ∀ g, O g → ¬ O' g) : RowO O w' v n xs := by
  obtain ⟨A, c, h1, h2, h3, h4⟩ := h
  refine ⟨A, c, h1, h2, h3, fun j u hj => ?_⟩
  obtain ⟨g, o, e1, e2, e3, e4⟩ := h4 j u hj
  exact ⟨g, o, e1, Nat.lt_of_lt_of_le e2 k.size, e3, (k.cell (p := ⟨g, o + j, none⟩) e2 (hO g e3)).trans e4⟩
theorem RowO.below {v : Value} {n : Nat} {xs : List Value} (h : RowO O w v n xs) (k : Below w.heap.size w w') : RowO O w' v n xs :=
  h.kept (O' := fun _ => False) (Kept.of_below k) (fun _ _ h => h)
theorem RowO.mono {v : Value} {n : Nat} {xs : List Value} (h : RowO O w v n xs) (hO : ∀ g, O g → O' g) : RowO O' w v n xs := by
  obtain ⟨A, c, h1, h2, h3, h4⟩ := h
  refine ⟨A, c, h1, h2, h3, fun j u hj => ?_⟩
  obtain ⟨g, o, e1, e2, e3, e4⟩ := h4 j u hj
  exact ⟨g, o, e1, e2, hO g e3, e4⟩
theorem RowO.nil (O : Nat → Prop) (w : World) : RowO O w (.slice none 0 0) 0 [] := ⟨none, 0, rfl, Nat.le_refl _, fun _ => rfl, fun j u h => by simp at h⟩
theorem RowO.of_own {base size n : Nat} {e : TypeId} {v : Value} {xs : List Value} (h : w.ownsRow base e size v n xs) : RowO (fun g => base ≤ g) w v n xs := by
  rcases h.2 with ⟨rfl, rfl⟩ | ⟨g, cap, cur, rfl, hb, hg, hle, _⟩
  · have h1 := h.1
    obtain rfl : xs = [] := List.eq_nil_of_length_eq_zero (by omega)
    exact RowO.nil _ w
  · refine ⟨_, cap, rfl, hle, (fun h => by cases h), fun j u hj => ⟨g, 0, rfl, heap_lt hg, hb, ?_⟩⟩
    rw [Nat.zero_add]
    exact mx_at h hj
theorem IntsIn.of_rowO {v : Value} {n : Nat} {zs : List Value} {xs : List Int} (h : RowO O w v n zs) (hz : zs = xs.map (Value.int .i64)) (hn : n = xs.length) : IntsIn O w v xs := by
  subst hn
  subst hz
  obtain ⟨A, c, h1, h2, h3, h4⟩ := h
  refine ⟨A, c, h1, h2, h3, fun j x hj => ?_⟩
  obtain ⟨g, o, e1, e2, e3, e4⟩ := h4 j (.int .i64 x) (by rw [List.getElem?_map, hj]; rfl)
  exact ⟨g, o, e1, e2, e3, e4⟩
/-- the reference's trail -/
def RTO (O : Nat → Prop) (w : World) (v : Value) (t : RTr) : Prop := ∃ iv sv, v = .agg #[.int .i64 t.vars, .int .i64 t.now, iv, sv] ∧ RowO O w iv t.items.length (t.items.flatMap RIt.cells) ∧ IntsIn O w sv t.starts
theorem RTO.weak {v : Value} {t : RTr} (h : RTO O w v t) : RTAt w v t := by
  obtain ⟨iv, sv, h1, h2, h3⟩ := h
  exact ⟨iv, sv, h1, h2.weak, h3.mono (fun _ _ => trivial)⟩
theorem RTO.kept {v : Value} {t : RTr} (h : RTO O w v t) (k : Kept O' w w') (hO : ∀ g, O g → ¬ O' g) : RTO O w' v t := by
  obtain ⟨iv, sv, h1, h2, h3⟩ := h
  exact ⟨iv, sv, h1, h2.kept k hO, h3.kept k hO⟩
theorem RTO.below {v : Value} {t : RTr} (h : RTO O w v t) (k : Below w.heap.size w w') : RTO O w' v t :=
  h.kept (O' := fun _ => False) (Kept.of_below k) (fun _ _ h => h)
theorem RTO.mono {v : Value} {t : RTr} (h : RTO O w v t) (hO : ∀ g, O g → O' g) : RTO O' w v t := by
  obtain ⟨iv, sv, h1, h2, h3⟩ := h
  exact ⟨iv, sv, h1, h2.mono hO, h3.mono hO⟩
def EntO (O : Nat → Prop) (w : World) (v : Value) (l : List REn) : Prop := ∃ ms : List MEn, ms.map MEn.e = l ∧ RowO O w v l.length (ms.flatMap MEn.cells) ∧ ∀ m ∈ ms, IntsIn O w m.lv m.e.lits
/-- the reference's arena -/
def RAO (O : Nat → Prop) (w : World) (v : Value) (a : RAr) : Prop := ∃ av, v = .agg #[av, .int .i64 a.last] ∧ EntO O w av a.all
theorem EntO.weak {v : Value} {l : List REn} (h : EntO O w v l) : EntsIn w v l := by
  obtain ⟨ms, h1, h2, h3⟩ := h
  exact ⟨ms, h1, h2.weak, fun m hm => (h3 m hm).mono (fun _ _ => trivial)⟩
theorem EntO.kept {v : Value} {l : List REn} (h : EntO O w v l) (k : Kept O' w w') (hO : ∀ g, O g → ¬ O' g) : EntO O w' v l := by
  obtain ⟨ms, h1, h2, h3⟩ := h
  exact ⟨ms, h1, h2.kept k hO, fun m hm => (h3 m hm).kept k hO⟩
theorem EntO.below {v : Value} {l : List REn} (h : EntO O w v l) (k : Below w.heap.size w w') : EntO O w' v l :=
  h.kept (O' := fun _ => False) (Kept.of_below k) (fun _ _ h => h)
theorem EntO.mono {v : Value} {l : List REn} (h : EntO O w v l) (hO : ∀ g, O g → O' g) : EntO O' w v l := by
  obtain ⟨ms, h1, h2, h3⟩ := h
  exact ⟨ms, h1, h2.mono hO, fun m hm => (h3 m hm).mono hO⟩
theorem RAO.weak {v : Value} {a : RAr} (h : RAO O w v a) : RAAt w v a := by
  obtain ⟨av, h1, h2⟩ := h
  exact ⟨av, h1, h2.weak⟩
theorem RAO.kept {v : Value} {a : RAr} (h : RAO O w v a) (k : Kept O' w w') (hO : ∀ g, O g → ¬ O' g) : RAO O w' v a := by
  obtain ⟨av, h1, h2⟩ := h
  exact ⟨av, h1, h2.kept k hO⟩
theorem RAO.below {v : Value} {a : RAr} (h : RAO O w v a) (k : Below w.heap.size w w') : RAO O w' v a :=
  h.kept (O' := fun _ => False) (Kept.of_below k) (fun _ _ h => h)
theorem RAO.mono {v : Value} {a : RAr} (h : RAO O w v a) (hO : ∀ g, O g → O' g) : RAO O' w v a := by
  obtain ⟨av, h1, h2⟩ := h
  exact ⟨av, h1, h2.mono hO⟩
end Go.Proofs.YtfbiaclpopjipaaGreat
