/- A slice of calls that came in: from what memory reads as to the walk's facts. -/
import Derived.Test.YtbokfjmbamgenaaDoorZr
import Derived.Test.YtbokfjmbamgenaaDoorRl
import Derived.Deep.Slices
import Derived.Deep.Fields
import Derived.ChangeSame
namespace Go.Proofs.YtbokfjmbamgenaaDoor
open Go.ChangeShapes Go.WideShapes Go.ChangeAt Go.RowKit

theorem list_choose {α : Type} {P : Nat → α → Prop} (n : Nat) (h : ∀ i, i < n → ∃ x, P i x) : ∃ l : List α, l.length = n ∧ ∀ i x, l[i]? = some x → P i x := by
  induction n with
  | zero => exact ⟨[], rfl, fun i x hx => by simp at hx⟩
  | succ n ih =>
    obtain ⟨l, hl, hp⟩ := ih (fun i hi => h i (by omega))
    obtain ⟨x, hx⟩ := h n (by omega)
    refine ⟨l ++ [x], by simp [hl], fun i y hy => ?_⟩
    rcases Nat.lt_or_ge i l.length with hi | hi
    · rw [List.getElem?_append_left hi] at hy
      exact hp i y hy
    · have hlt := (List.getElem?_eq_some_iff.1 hy).1
      rw [List.length_append, List.length_singleton] at hlt
      have hin : i = l.length := by omega
      subst hin
      rw [List.getElem?_append_right (Nat.le_refl _), Nat.sub_self] at hy
      obtain rfl := Option.some.inj hy
      rw [hl]
      exact hx
theorem row_of_trod {P : Program} {H : Type} {enc : TypeId × Value → H} {W : World} {t e : TypeId} {k : IntKind} {v : Value} {fuel : Nat} {x : DataW H × List MemPlace} (ht : P.underlying t = some (.slice e)) (he : P.underlying e = some (.int k)) (hc : P.cellsOf e = 1)
    (hf : DataW.trod enc P W 0 (fun _ => true) true fuel t [v] = some x) : ∃ xs, RowAt k W v xs := by
  rcases open_ints ht he hc hf with ⟨hcs, _⟩ | ⟨a, len, cap, zs, hcs, _, hl, hm, hz, _, hcell, hwz⟩
  · obtain rfl : v = .slice none 0 0 := by simpa using hcs
    exact ⟨[], none, 0, rfl, Nat.le_refl _, Nat.zero_le _, fun _ => rfl, by simp, by simp⟩
  · obtain rfl : v = .slice (some a) len cap := by simpa using hcs
    simp only [if_true] at hz
    have htl : (zs.take len).length = len := by rw [List.length_take]; omega
    refine ⟨zs.take len, some a, cap, by rw [htl], by rw [htl]; exact hl, hm, (fun h => by cases h), fun n hn => hwz n (List.mem_of_mem_take hn), fun i x hi => ?_⟩
    have hil : i < len := by
      have := (List.getElem?_eq_some_iff.1 hi).1
      omega
    rw [List.getElem?_take_of_lt hil] at hi
    obtain ⟨b, off, rfl, hc2⟩ := ints_at hcell (by omega)
    have hx := hc2 i (by omega)
    rw [List.getD_eq_getElem?_getD, hi] at hx
    exact ⟨b, off, rfl, World.block_lt_of_cell? W _ hx, hx⟩
/-- a slice of structs of a bool and two slices of integers -/
theorem open_acts {P : Program} {H : Type} {enc : TypeId × Value → H} {W : World} {base : Nat} {t e q1 q2 : TypeId} {f0 f1 f2 : Field} {v : Value} {d : DataW H} {p : List MemPlace} (ht : P.underlying t = some (.slice e)) (he : P.underlying e = some (.struct #[f0, f1, f2])) (ce : P.cellsOf e = 3)
    (o0 : f0.offset = 0) (o1 : f1.offset = 1) (o2 : f2.offset = 2) (c0 : P.cellsOf f0.type = 1) (c1 : P.cellsOf f1.type = 1) (c2 : P.cellsOf f2.type = 1) (u0 : P.underlying f0.type = some .bool)
    (u1 : P.underlying f1.type = some (.slice q1)) (r1 : P.underlying q1 = some (.int .i64)) (s1 : P.cellsOf q1 = 1) (u2 : P.underlying f2.type = some (.slice q2)) (r2 : P.underlying q2 = some (.int .i64)) (s2 : P.cellsOf q2 = 1)
    (hval : Value.okWide P W .any base t v) (h : DataW.Trod enc P W 0 (fun _ => true) true t v d p) : ∃ al, ActsAt W v al ∧ al.length ≤ 9223372036854775807 := by
  obtain ⟨a1, len, cap, rfl⟩ := okWide_slice ht hval
  obtain ⟨fuel, hf⟩ := h
  rcases Go.Deep.open_slice ht hf with ⟨hcs, _⟩ | ⟨a, len', cap', m, n, D, Pl, hcs, _, hl, hm, hmm, _, hi⟩
  · simp only [Value.cells, List.cons.injEq, Value.slice.injEq, and_true] at hcs
    obtain ⟨rfl, rfl, rfl⟩ := hcs
    exact ⟨[], ⟨none, 0, rfl, Nat.le_refl _, fun _ => rfl, fun i a hi => by simp at hi⟩, by simp⟩
  · simp only [Value.cells, List.cons.injEq, Value.slice.injEq, and_true] at hcs
    obtain ⟨rfl, rfl, rfl⟩ := hcs
    simp only [if_true] at hmm
    have hall : ∀ i, i < len → ∃ c : Call17, ∃ g o lv iv, some a = some (⟨g, o, none⟩ : Addr) ∧ g < W.heap.size ∧ W.cell? ⟨g, o + i * 3, none⟩ = some (.bool c.forget) ∧ W.cell? ⟨g, o + i * 3 + 1, none⟩ = some lv ∧ W.cell? ⟨g, o + i * 3 + 2, none⟩ = some iv ∧ RowAt .i64 W lv c.lits ∧ RowAt .i64 W iv c.ids := by
      intro i hil
      obtain ⟨cs', hc, htr⟩ := hi i (by omega)
      obtain ⟨xs, n', _, _, hlen, hxl, hg⟩ := DataW.trod_struct he htr
      obtain ⟨_, hcl, hat⟩ := World.cells?_some hc
      rw [ce] at hlen hat hcl
      obtain ⟨cs0, hc0, _⟩ := hi 0 (by omega)
      obtain ⟨_, hcl0, hat0⟩ := World.cells?_some hc0
      rw [ce] at hcl0 hat0
      have kz := (hat0 0 (by omega)).trans (List.getElem?_eq_getElem (by omega))
      rw [Go.Deep.add_add, Nat.zero_mul, Nat.add_zero] at kz
      match cs', hlen with
      | [w0, w1, w2], _ =>
        have g0 := hg 0 f0 rfl
        have g1 := hg 1 f1 rfl
        have g2 := hg 2 f2 rfl
        rw [o0, c0] at g0
        rw [o1, c1] at g1
        rw [o2, c2] at g2
        have x0 : xs[0]? = some (xs[0]'(by rw [hxl]; show 0 < 3; omega)) := List.getElem?_eq_getElem _
        have x1 : xs[1]? = some (xs[1]'(by rw [hxl]; show 1 < 3; omega)) := List.getElem?_eq_getElem _
        have x2 : xs[2]? = some (xs[2]'(by rw [hxl]; show 2 < 3; omega)) := List.getElem?_eq_getElem _
        obtain ⟨bf, hb, _⟩ := DataW.trod_bool u0 (g0.trans x0)
        obtain rfl : w0 = .bool bf := by simpa using hb
        obtain ⟨lits, hlits⟩ := row_of_trod u1 r1 s1 (g1.trans x1)
        obtain ⟨ids, hids⟩ := row_of_trod u2 r2 s2 (g2.trans x2)
        have k0 := hat 0 (by omega)
        have k1 := hat 1 (by omega)
        have k2 := hat 2 (by omega)
        rw [Go.Deep.add_add] at k0 k1 k2
        obtain ⟨g, o, rfl⟩ := add_form kz
        rw [addr_add2] at k0 k1 k2
        refine ⟨⟨bf, lits, ids⟩, g, o, w1, w2, rfl, World.block_lt_of_cell? W _ k0, ?_, ?_, ?_, hlits, hids⟩
        · simpa using k0
        · simpa [Nat.add_assoc] using k1
        · simpa [Nat.add_assoc] using k2
    obtain ⟨al, hlal, hp⟩ := list_choose len hall
    exact ⟨al, ⟨some a, cap, by rw [hlal], by rw [hlal]; exact hl, (fun h => by cases h), hp⟩, by rw [hlal]; unfold maxLen at hm; omega⟩
end Go.Proofs.YtbokfjmbamgenaaDoor
