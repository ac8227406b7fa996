/- Steps (package emit), Copy (package lratext). -/
import Derived.Test.YthhpffdbipgkcaaGreatDoorEf
namespace Go.Proofs.YthhpffdbipgkcaaGreatDoor
open Go.RowKit

set_option maxRecDepth 100000 in
set_option maxHeartbeats 1000000 in
theorem clone_steps (v : Value) (n : Nat) (xs : List Value) (w : World) (h : w.ownsRow 0 71 4 v n xs) (hn : n ≤ 1000000) (h1 : ∀ u ∈ xs, u.oneCell' = true) :
    Calls Tryz.prog 56 #[v] w fun e w' => ∃ v', e = .returned v' ∧ w'.ownsRow w.heap.size 71 4 v' n xs ∧ Below w.heap.size w w' := by
  obtain ⟨i0, hi, iz0, iz1, iz2⟩ := info_parts info_step
  have hl := h.1
  rcases h.2 with ⟨rfl, rfl⟩ | ⟨g, cap, cur, rfl, _, hg, hle, _⟩
  · obtain rfl : xs = [] := List.eq_nil_of_length_eq_zero (by omega)
    have hq := fun w => Lib.run_eql_slice_nil (P := Tryz.prog) w 48 71 none 0 0 0 0 Tryz.underlying48
    go_enter Tryz.func56, Tryz.ntmps56
    go_wp2
    go_ret
    exact ⟨_, rfl, World.ownsRow_nil _ _ _ _, Below.refl _ _⟩
  · have hq := fun w => Lib.run_eql_slice_nil (P := Tryz.prog) w 48 71 (some ⟨g, 0, none⟩) n cap 0 0 Tryz.underlying48
    have hgl := heap_lt hg
    have hnews : ∀ j u, xs[j]? = some u → (w.alloc (.cells #[] 71)).cell? ((⟨g, 0, none⟩ : Addr).add j) = some u := fun j u hj => by
      rw [addr_add, ((Below.refl _ _).alloc (Nat.le_refl _) _).cell (p := ⟨g, j, none⟩) hgl, ← addr_add]
      exact h.cells (g := g) rfl j u hj
    have h0 : (w.alloc (.cells #[] 71)).ownsRow w.heap.size 71 4 (.slice (some ⟨w.heap.size, 0, none⟩) 0 0) 0 [] := ⟨rfl, .inr ⟨w.heap.size, 0, #[], rfl, Nat.le_refl _, World.alloc_heap_new _ _, Nat.le_refl _, Nat.zero_le _, rfl, rfl⟩⟩
    have HN := Lib.hid hnews
    have H0 := Lib.hid h0
    have H1 := Lib.hid h1
    have HL := Lib.hid hl
    clear h hg hnews h0 h1 hl
    go_enter Tryz.func56, Tryz.ntmps56
    go_wp2_with (at_builtin; refine wpList_append_own_at _ rfl _ _ 48 rfl w.heap.size 71 i0 (.agg #[.bool false, .int .i64 0, .slice none 0 0, .slice none 0 0]) 4 64 Tryz.underlying48 hi iz0 iz1 iz2 rfl (by decide) _ _ _ rfl H0.out ⟨g, 0, none⟩ n cap xs rfl HL.out HN.out H1.out (by unfold maxLen; omega) (by omega) (by simp) ?_; intro v' w1 hown hgrow hnl hat)
    go_ret
    have hB : Below w.heap.size w w1 := ((Below.refl w.heap.size w).alloc (Nat.le_refl _) (.cells #[] 71)).grown hgrow (by simp) (fun g hg => by cases hg; exact Nat.le_refl _)
    exact ⟨_, rfl, by simpa using hown, hB⟩
theorem bcell {W w1 : World} (hb : Below W.heap.size W w1) : (∀ b o, b < W.heap.size → w1.cell? ⟨b, o, none⟩ = W.cell? ⟨b, o, none⟩) ∧ (∀ b o, b < W.heap.size → w1.frozen? ⟨b, o, none⟩ = W.frozen? ⟨b, o, none⟩) :=
  ⟨fun b o h => hb.cell (p := ⟨b, o, none⟩) h, fun b o h => hb.frozen (p := ⟨b, o, none⟩) h⟩
/-- a store into a row that is owned -/
theorem own_set {w : World} {base size n c g : Nat} {e : TypeId} {xs : List Value} (h : w.ownsRow base e size (.slice (some ⟨g, 0, none⟩) n c) n xs) (j : Nat) (u : Value) : (w.setCell ⟨g, j, none⟩ u).ownsRow base e size (.slice (some ⟨g, 0, none⟩) n c) n (xs.set j u) := by
  refine ⟨by rw [List.length_set]; exact h.1, ?_⟩
  rcases h.2 with ⟨hv, _⟩ | ⟨g', cap, cur, hv, hb, hg, hle, hm, hs, ht⟩
  · cases hv
  · simp only [Value.slice.injEq, Option.some.injEq, Addr.mk.injEq, and_true, true_and] at hv
    obtain ⟨rfl, rfl⟩ := hv
    refine .inr ⟨g, c, cur.setIfInBounds j u, rfl, hb, block_set hg u, hle, hm, by simpa using hs, ?_⟩
    rw [Array.toList_setIfInBounds, List.take_set, ht]
theorem own_one {w : World} {base n : Nat} {e : TypeId} {v : Value} {xs : List Value} (h : w.ownsRow base e 1 v n xs) : v.oneCell' = true := by
  obtain ⟨A, c, rfl, _⟩ := own_slice h
  simp [Value.oneCell']
theorem cells_len (ms : List MStep) : (ms.flatMap MStep.cells).length = ms.length * 4 := by
  induction ms with
  | nil => rfl
  | cons m ms ih => simp only [List.flatMap_cons, List.length_append, ih, List.length_cons, MStep.cells, List.length_nil]; omega
theorem cells_at (ms : List MStep) (k : Nat) (m : MStep) (h : ms[k]? = some m) (j : Nat) (hj : j < 4) : (ms.flatMap MStep.cells)[k * 4 + j]? = m.cells[j]? := by
  induction ms generalizing k with
  | nil => simp at h
  | cons x ms ih =>
    rw [List.flatMap_cons]
    cases k with
    | zero =>
      simp only [List.getElem?_cons_zero, Option.some.injEq] at h
      subst h
      rw [Nat.zero_mul, Nat.zero_add, List.getElem?_append_left (by simp [MStep.cells]; omega)]
    | succ k =>
      rw [List.getElem?_append_right (by simp [MStep.cells]; omega), show (k + 1) * 4 + j - x.cells.length = k * 4 + j by simp [MStep.cells]; omega]
      exact ih k (by simpa using h)
end Go.Proofs.YthhpffdbipgkcaaGreatDoor
