/- What is used of Put (salvorlaw14), in every chapter that calls it. -/
import Derived.Test.YtiodfolcnnkdjaaGreatAp
import Derived.Lib.SliceRun
namespace Go.Proofs.YtiodfolcnnkdjaaGreat
open Go.RowKit

theorem sortI_eq {xs ys : List Int} (hp : xs.Perm ys) (hs : ys.Pairwise (· ≤ ·)) : sortI xs = ys := by
  refine List.Perm.eq_of_pairwise (le := fun a b => a ≤ b) (fun a b _ _ h1 h2 => by omega) ?_ hs ((List.mergeSort_perm _ _).trans hp)
  have := List.pairwise_mergeSort (le := fun x y : Int => decide (x ≤ y)) (fun a b c h1 h2 => by simp at *; omega) (fun a b => by simp; omega) xs
  exact this.imp (fun h => by simpa using h)
theorem mx_ints (W : World) (xs : List Int) (t : TypeId) : IntsIn (fun g => g = W.heap.size) (W.alloc (.cells (xs.map (Value.int .i64)).toArray t)) (.slice (some ⟨W.heap.size, 0, none⟩) xs.length xs.length) xs :=
  ⟨some ⟨W.heap.size, 0, none⟩, xs.length, rfl, Nat.le_refl _, (fun h => by cases h), fun i x hi => ⟨W.heap.size, 0, rfl, by simp, rfl, by
    rw [cell_new, Nat.zero_add]
    simp [hi]⟩⟩
def ActP.cells (a : ActP) : List Value := [.bool a.push, .int .i64 a.l, .int .i64 a.by_]
theorem actCells_at (l : List ActP) (i j : Nat) (x : ActP) (h : l[i]? = some x) (hj : j < 3) : (l.flatMap ActP.cells)[i * 3 + j]? = x.cells[j]? := by
  induction l generalizing i with
  | nil => simp at h
  | cons y l ih =>
    rw [List.flatMap_cons]
    cases i with
    | zero =>
      obtain rfl : y = x := by simpa using h
      rw [Nat.zero_mul, Nat.zero_add, List.getElem?_append_left (by simpa [ActP.cells] using hj)]
    | succ i =>
      rw [List.getElem?_append_right (by simp [ActP.cells]; omega)]
      have e : (i + 1) * 3 + j - y.cells.length = i * 3 + j := by simp [ActP.cells]; omega
      rw [e]
      exact ih i (by simpa using h)
theorem actCells_len (l : List ActP) : (l.flatMap ActP.cells).length = l.length * 3 := by
  induction l with
  | nil => rfl
  | cons y l ih =>
    rw [List.flatMap_cons, List.length_append, ih, List.length_cons]
    simp only [ActP.cells, List.length_cons, List.length_nil]
    omega
/-- a block whose cells begin with these calls -/
theorem acts_of_block {w : World} {g n c : Nat} {cs : Array Value} {t : TypeId} {l : List ActP} (h : w.heap[g]? = some (.cells cs t (0, 0))) (hl : l.length = n) (ht : cs.toList.take (n * 3) = l.flatMap ActP.cells) : ActsIn w (.slice (some ⟨g, 0, none⟩) n c) l := by
  subst hl
  refine ⟨_, c, rfl, fun i a hi => ⟨g, 0, rfl, heap_lt h, ?_⟩⟩
  have hlt : i < l.length := (List.getElem?_eq_some_iff.1 hi).1
  have hc : ∀ j, j < 3 → w.cell? ⟨g, i * 3 + j, none⟩ = a.cells[j]? := fun j hj => by
    rw [mx_cell h, ← actCells_at l i j a hi hj, ← ht, List.getElem?_take_of_lt (by omega), Array.getElem?_toList]
  have h0 := hc 0 (by omega)
  have h1 := hc 1 (by omega)
  have h2 := hc 2 (by omega)
  exact ⟨by rw [Nat.zero_add]; exact h0, by rw [Nat.zero_add]; exact h1, by rw [Nat.zero_add]; exact h2⟩
theorem cls_new (W : World) (us : List Value) (cs : List (List Int)) (t : TypeId) (h : ∀ (i : Nat) (xs : List Int), cs[i]? = some xs → ∃ u, us[i]? = some u ∧ IntsIn (fun g => g < W.heap.size) W u xs) : ClsAt (W.alloc (.cells us.toArray t)) (.slice (some ⟨W.heap.size, 0, none⟩) cs.length cs.length) cs := by
  refine ⟨_, cs.length, rfl, fun i xs hi => ?_⟩
  obtain ⟨u, hu, hx⟩ := h i xs hi
  have hb := mx_al W (.cells us.toArray t)
  refine ⟨W.heap.size, 0, u, rfl, by simp, ?_, (hx.below hb).mono (fun g hg => by simp; omega)⟩
  rw [cell_new, Nat.zero_add]
  simpa using hu
theorem ainfo_act : (Tryz.prog.info? 34).map (fun i => (i.zero, i.size, i.bytes)) = some (some (.agg #[.bool false, .int .i64 0, .int .i64 0]), 3, 24) := by kernel_rfl
theorem wp_append_run (d : Nat) {P : Program} {w w' : World} {o : Oper} {a : Act} {K : Act → World → Prop} {Q : Exit → Act → World → Prop} {v' : Value} (hd : o.dst = some d) (s x : Operand) (t : TypeId) (ho : o.op = .call { callee := .builtin .append, args := #[s, x], argTypes := #[t, t] }) (v y : Value) (hs : a.eval s = v) (hx : a.eval x = y)
    (hr : (Builtin.append_ #[t, t] o.type #[v, y]).run P w = .ok v' w') (h : K (a.put (some d) v') w') : Oper.wp P o a w K Q := by
  unfold Oper.wp execOp
  simp only [ho, resolve, invoke, builtin, Sem.run_bind, Sem.run_pure, Result.andThen_ok, List.map_toArray, List.map_cons, List.map_nil, hs, hx, hr]
  show K (a.put o.dst v') w'
  rw [hd]
  exact h
theorem put_conf {n : Nat} {w : World} {a b : Nat} {A : Arn} {T : Trl} (id : Int) (h : PutAt n w a b A T) :
    Calls Tryz.prog 40 #[.pointer (some ⟨a, 0, none⟩), .pointer (some ⟨b, 0, none⟩), .int .i64 id] w fun e w' => (∃ v, e = .returned (.tuple #[v, .int .i64 ((confP A T id).2 : Nat)]) ∧ LrnAt w.heap.size w' v (confP A T id).1) ∧ Below w.heap.size w w' := by
  obtain ⟨_, OA, OT, h1, h2, _⟩ := h
  exact an_conflict a b A T id w h1 h2
theorem put_right {n : Nat} {w : World} {a b : Nat} {A : Arn} {T : Trl} (v : Int) (h : PutAt n w a b A T) :
    Calls Tryz.prog 114 #[.pointer (some ⟨a, 0, none⟩), .pointer (some ⟨b, 0, none⟩), .int .i64 v] w fun e w' => e = .returned (.tuple #[.bool (rightB A T v), .int .i64 0]) ∧ Below w.heap.size w w' := by
  obtain ⟨_, OA, OT, h1, h2, _⟩ := h
  exact an_right a b A T v w h1 h2
/-- what Conflict returns, its slices named -/
theorem LrnAt.parts {n : Nat} {w : World} {v : Value} {r : Lrn} (h : LrnAt n w v r) : ∃ Ax cx Ay cy Az cz, v = .agg #[.slice Ax r.lits.length cx, .int .i64 r.back, .int .i64 r.levels, .slice Ay r.hints.length cy, .slice Az r.met.length cz] ∧
    (∀ w', Below w.heap.size w w' → IntsIn (fun g => n ≤ g) w' (.slice Ax r.lits.length cx) r.lits) ∧ (∀ w', Below w.heap.size w w' → IntsIn (fun g => n ≤ g) w' (.slice Ay r.hints.length cy) r.hints) ∧ (∀ w', Below w.heap.size w w' → IntsIn (fun g => n ≤ g) w' (.slice Az r.met.length cz) r.met) := by
  obtain ⟨x, y, z, rfl, hx, hy, hz⟩ := h
  obtain ⟨Ax, cx, rfl, _⟩ := mx_slice hx
  obtain ⟨Ay, cy, rfl, _⟩ := mx_slice hy
  obtain ⟨Az, cz, rfl, _⟩ := mx_slice hz
  exact ⟨Ax, cx, Ay, cy, Az, cz, rfl, fun w' hb => ((IntsIn.of_own hx).below hb).mono (fun g hg => hg.1), fun w' hb => ((IntsIn.of_own hy).below hb).mono (fun g hg => hg.1), fun w' hb => ((IntsIn.of_own hz).below hb).mono (fun g hg => hg.1)⟩
theorem eqc_lit {O : Nat → Prop} (W : World) (u : Value) (xs ys : List Int) (h : ∀ w', Below W.heap.size W w' → IntsIn O w' u xs) (hs : xs.length ≤ 1000) :
    Calls Tryz.prog 19 #[u, .slice (some ⟨W.heap.size, 0, none⟩) ys.length ys.length] (W.alloc (.cells (ys.map (Value.int .i64)).toArray 31)) fun e w' => e = .returned (.bool (xs == ys)) ∧ Below W.heap.size W w' := by
  have hb := mx_al W (.cells (ys.map (Value.int .i64)).toArray 31)
  refine (eq_c u _ xs ys _ (h _ hb) (mx_ints W ys _) (by omega)).mono ?_
  rintro e w' ⟨rfl, n, rfl⟩
  exact ⟨rfl, hb.trans ((mx_drewN _ n).mono hb.size)⟩
theorem eqi_lit {O : Nat → Prop} (W : World) (u : Value) (xs ys : List Int) (h : ∀ w', Below W.heap.size W w' → IntsIn O w' u xs) (hs : xs.length ≤ 1000) :
    Calls Tryz.prog 20 #[u, .slice (some ⟨W.heap.size, 0, none⟩) ys.length ys.length] (W.alloc (.cells (ys.map (Value.int .i64)).toArray 3)) fun e w' => e = .returned (.bool (xs == ys)) ∧ Below W.heap.size W w' := by
  have hb := mx_al W (.cells (ys.map (Value.int .i64)).toArray 3)
  refine (eq_i u _ xs ys _ (h _ hb) (mx_ints W ys _) (by omega)).mono ?_
  rintro e w' ⟨rfl, n, rfl⟩
  exact ⟨rfl, hb.trans ((mx_drewN _ n).mono hb.size)⟩
end Go.Proofs.YtiodfolcnnkdjaaGreat
