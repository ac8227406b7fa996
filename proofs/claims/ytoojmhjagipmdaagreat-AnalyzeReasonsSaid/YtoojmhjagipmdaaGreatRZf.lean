/- Rows without a card: what they share; rows that come in; what is shown behind the call. -/
import Derived.Test.YtoojmhjagipmdaaGreatRows
import Derived.Test.YtoojmhjagipmdaaGreatQ19
import Derived.ProofKit
import Derived.WalkKit
import Derived.OpenShut
import Derived.ShutString
import Derived.ChangeOld
import Derived.LaidMore
import Derived.Lay
import Derived.Deep.Matrix
import Derived.Lib.SmallJoins
namespace Go.Proofs.YtoojmhjagipmdaaGreat
open Go.ChangeShapes Go.WideShapes Go.ChangeAt Go.RowKit

theorem own : ownKnob Tryz.prog.godebug = none := by kernel_rfl
theorem laidOut : laidOutB Tryz.prog = true := by kernel_rfl
/-- what came in reads as it did, where nothing of it was touched -/
theorem trodAll_below {P : Program} {H : Type} {enc : TypeId × Value → H} (hl : laidOutB P = true) {W W' : World} (hb : Below W.heap.size W W') :
    ∀ {ts : List TypeId} {vs : List Value} {ds : List (DataW H)} {ps : List MemPlace}, (ts.all fun t => P.readableRec t && decide (t < P.types.size)) = true →
      DataW.TrodAll enc P W 0 (fun _ => true) true ts vs ds ps → (∀ x ∈ ps, x.block < W.heap.size) → DataW.TrodAll enc P W' 0 (fun b => decide (b < W.heap.size)) true ts vs ds ps
  | [], [], [], _, _, h, _ => h
  | t :: ts, _ :: _, _ :: _, _, hr, ⟨p, q, h1, h2, e⟩, hx => by
    simp only [List.all_cons, Bool.and_eq_true, decide_eq_true_eq] at hr
    exact ⟨p, q, Below.trod hl hr.1.1 hr.1.2 h1 hb (fun x hx1 => hx x (by rw [e]; exact List.mem_append_left _ hx1)), trodAll_below hl hb hr.2 h2 (fun x hx1 => hx x (by rw [e]; exact List.mem_append_right _ hx1)), e⟩
/-- a slice of integers that came in -/
theorem open_row {P : Program} {H : Type} {enc : TypeId × Value → H} {W : World} {base : Nat} {t e : TypeId} {k : IntKind} {v : Value} {d : DataW H} {p : List MemPlace} (ht : P.underlying t = some (.slice e)) (he : P.underlying e = some (.int k)) (hc : P.cellsOf e = 1)
    (hval : Value.okWide P W .any base t v) (h : DataW.Trod enc P W 0 (fun _ => true) true t v d p) : ∃ xs, RowAt k W v xs := by
  obtain ⟨a1, len, cap, rfl⟩ := okWide_slice ht hval
  obtain ⟨fuel, hf⟩ := h
  rcases open_ints ht he hc hf with ⟨hcs, _⟩ | ⟨a, len', cap', zs, hcs, _, hl, hm, hz, _, hcell, hwz⟩
  · simp only [Value.cells, List.cons.injEq, Value.slice.injEq, and_true] at hcs
    obtain ⟨rfl, rfl, rfl⟩ := hcs
    exact ⟨[], none, 0, rfl, Nat.le_refl _, Nat.zero_le _, fun _ => rfl, by simp, by simp⟩
  · simp only [Value.cells, List.cons.injEq, Value.slice.injEq, and_true] at hcs
    obtain ⟨rfl, rfl, rfl⟩ := hcs
    simp only [if_true] at hz
    have htl : (zs.take len).length = len := by rw [List.length_take]; omega
    refine ⟨zs.take len, some a, cap, by rw [htl], by rw [htl]; exact hl, hm, (fun h => by cases h), fun n hn => hwz n (List.mem_of_mem_take hn), fun i x hi => ?_⟩
    have hil : i < len := by
      have := (List.getElem?_eq_some_iff.1 hi).1
      omega
    rw [List.getElem?_take_of_lt hil] at hi
    obtain ⟨b, off, rfl, hc2⟩ := ints_at hcell (by omega)
    have hx := hc2 i (by omega)
    rw [List.getD_eq_getElem?_getD, hi] at hx
    exact ⟨b, off, rfl, World.block_lt_of_cell? W _ hx, hx⟩
theorem add_form {W : World} {a : Addr} {v : Value} (h : W.cell? (a.add 0) = some v) : ∃ g o, a = ⟨g, o, none⟩ := by
  obtain ⟨g, o, s⟩ := a
  have hs : s = none := by simpa [Addr.add] using World.cell?_spot h
  subst hs
  exact ⟨g, o, rfl⟩
/-- a slice of slices of integers that came in -/
theorem open_rows {P : Program} {H : Type} {enc : TypeId × Value → H} {W : World} {base : Nat} {t e q : TypeId} {k : IntKind} {v : Value} {d : DataW H} {p : List MemPlace} (ht : P.underlying t = some (.slice e)) (he : P.underlying e = some (.slice q)) (hq : P.underlying q = some (.int k)) (ce : P.cellsOf e = 1) (cq : P.cellsOf q = 1)
    (hval : Value.okWide P W .any base t v) (h : DataW.Trod enc P W 0 (fun _ => true) true t v d p) : ∃ xss, RowsAt k W v xss := by
  obtain ⟨a1, len, cap, rfl⟩ := okWide_slice ht hval
  obtain ⟨fuel, hf⟩ := h
  rcases Go.Deep.open_int_rows ht he hq ce cq hf with ⟨hcs, _⟩ | ⟨a, len', cap', A, L, C, Z, hcs, _, hl, hm, _, hrow⟩
  · simp only [Value.cells, List.cons.injEq, Value.slice.injEq, and_true] at hcs
    obtain ⟨rfl, rfl, rfl⟩ := hcs
    exact ⟨[], none, 0, rfl, Nat.le_refl _, Nat.zero_le _, fun _ => rfl, by simp⟩
  · simp only [Value.cells, List.cons.injEq, Value.slice.injEq, and_true] at hcs
    obtain ⟨rfl, rfl, rfl⟩ := hcs
    refine ⟨(List.range len).map fun r => (Z r).take (L r), some a, cap, by simp, by simpa using hl, hm, (fun h => by cases h), fun i xs hi => ?_⟩
    have hil : i < len := by
      have := (List.getElem?_eq_some_iff.1 hi).1
      simpa using this
    rw [List.getElem?_map, List.getElem?_range hil] at hi
    obtain rfl := Option.some.inj hi
    obtain ⟨h1, h2, h3, h4, h5, h6, h7⟩ := hrow i (by omega)
    obtain ⟨g, o, rfl⟩ := add_form (hrow 0 (by omega)).1
    have hc : W.cell? ⟨g, o + i, none⟩ = some (.slice (A i) (L i) (C i)) := by rw [← addr_add2]; exact h1
    have htl : ((Z i).take (L i)).length = L i := by rw [List.length_take]; omega
    refine ⟨g, o, _, rfl, World.block_lt_of_cell? W _ hc, hc, A i, C i, by rw [htl], by rw [htl]; exact h2, h3, h6, fun n hn => h5 n (List.mem_of_mem_take hn), fun j x hj => ?_⟩
    change ((Z i).take (L i))[j]? = some x at hj
    have hjl : j < L i := by
      have := (List.getElem?_eq_some_iff.1 hj).1
      omega
    rw [List.getElem?_take_of_lt hjl] at hj
    cases hA : A i with
    | none => have := h6 hA; omega
    | some a' =>
      have hx := (h7 a' hA).2 j (by omega)
      rw [List.getD_eq_getElem?_getD, hj] at hx
      obtain ⟨g', o', rfl⟩ := add_form ((h7 a' hA).2 0 (by omega))
      have hc' : W.cell? ⟨g', o' + j, none⟩ = some (.int k x) := by rw [← addr_add2]; exact hx
      exact ⟨g', o', rfl, World.block_lt_of_cell? W _ hc', hc'⟩
end Go.Proofs.YtoojmhjagipmdaaGreat
