/- What is used of Put (salvorlaw14), in every chapter that calls it. minim: reason, implied, covered. package clauses: Without. awake (package salvorlaw14). package salvorlaw13: WatchAdds. -/
import Derived.Test.YtoojmhjagipmdaaGreatQ16
import Derived.Test.YtoojmhjagipmdaaGreatQ26
import Derived.Lib.SliceRun
import Derived.Test.YtoojmhjagipmdaaGreatQ05
import Derived.Test.YtoojmhjagipmdaaGreatQ13
import Derived.Test.YtoojmhjagipmdaaGreatQ07
namespace Go.Proofs.YtoojmhjagipmdaaGreat
open Go.RowKit

def ActP.cells (a : ActP) : List Value := [.bool a.push, .int .i64 a.l, .int .i64 a.by_]
theorem actCells_at (l : List ActP) (i j : Nat) (x : ActP) (h : l[i]? = some x) (hj : j < 3) : (l.flatMap ActP.cells)[i * 3 + j]? = x.cells[j]? := by
  induction l generalizing i with
  | nil => simp at h
  | cons y l ih =>
    rw [List.flatMap_cons]
    cases i with
    | zero =>
      obtain rfl : y = x := by simpa using h
      rw [Nat.zero_mul, Nat.zero_add, List.getElem?_append_left (by simpa [ActP.cells] using hj)]
    | succ i =>
      rw [List.getElem?_append_right (by simp [ActP.cells]; omega)]
      have e : (i + 1) * 3 + j - y.cells.length = i * 3 + j := by simp [ActP.cells]; omega
      rw [e]
      exact ih i (by simpa using h)
theorem actCells_len (l : List ActP) : (l.flatMap ActP.cells).length = l.length * 3 := by
  induction l with
  | nil => rfl
  | cons y l ih =>
    rw [List.flatMap_cons, List.length_append, ih, List.length_cons]
    simp only [ActP.cells, List.length_cons, List.length_nil]
    omega
/-- a block whose cells begin with these calls -/
theorem acts_of_block {w : World} {g n c : Nat} {cs : Array Value} {t : TypeId} {l : List ActP} (h : w.heap[g]? = some (.cells cs t (0, 0))) (hl : l.length = n) (ht : cs.toList.take (n * 3) = l.flatMap ActP.cells) : ActsIn w (.slice (some ⟨g, 0, none⟩) n c) l := by
  subst hl
  refine ⟨_, c, rfl, fun i a hi => ⟨g, 0, rfl, heap_lt h, ?_⟩⟩
  have hlt : i < l.length := (List.getElem?_eq_some_iff.1 hi).1
  have hc : ∀ j, j < 3 → w.cell? ⟨g, i * 3 + j, none⟩ = a.cells[j]? := fun j hj => by
    rw [mx_cell h, ← actCells_at l i j a hi hj, ← ht, List.getElem?_take_of_lt (by omega), Array.getElem?_toList]
  have h0 := hc 0 (by omega)
  have h1 := hc 1 (by omega)
  have h2 := hc 2 (by omega)
  exact ⟨by rw [Nat.zero_add]; exact h0, by rw [Nat.zero_add]; exact h1, by rw [Nat.zero_add]; exact h2⟩
theorem ainfo_act : (Tryz.prog.info? 90).map (fun i => (i.zero, i.size, i.bytes)) = some (some (.agg #[.bool false, .int .i64 0, .int .i64 0]), 3, 24) := by kernel_rfl
theorem wp_append_run (d : Nat) {P : Program} {w w' : World} {o : Oper} {a : Act} {K : Act → World → Prop} {Q : Exit → Act → World → Prop} {v' : Value} (hd : o.dst = some d) (s x : Operand) (t : TypeId) (ho : o.op = .call { callee := .builtin .append, args := #[s, x], argTypes := #[t, t] }) (v y : Value) (hs : a.eval s = v) (hx : a.eval x = y)
    (hr : (Builtin.append_ #[t, t] o.type #[v, y]).run P w = .ok v' w') (h : K (a.put (some d) v') w') : Oper.wp P o a w K Q := by
  unfold Oper.wp execOp
  simp only [ho, resolve, invoke, builtin, Sem.run_bind, Sem.run_pure, Result.andThen_ok, List.map_toArray, List.map_cons, List.map_nil, hs, hx, hr]
  show K (a.put o.dst v') w'
  rw [hd]
  exact h
theorem put_conf {n : Nat} {w : World} {a b : Nat} {A : Arn} {T : Trl} (id : Int) (h : PutAt n w a b A T) :
    Calls Tryz.prog 32 #[.pointer (some ⟨a, 0, none⟩), .pointer (some ⟨b, 0, none⟩), .int .i64 id] w fun e w' => (∃ v, e = .returned (.tuple #[v, .int .i64 ((confP A T id).2 : Nat)]) ∧ LrnAt w.heap.size w' v (confP A T id).1) ∧ Below w.heap.size w w' := by
  obtain ⟨_, OA, OT, h1, h2, _⟩ := h
  exact an_conflict a b A T id w h1 h2
theorem put_right {n : Nat} {w : World} {a b : Nat} {A : Arn} {T : Trl} (v : Int) (h : PutAt n w a b A T) :
    Calls Tryz.prog 18 #[.pointer (some ⟨a, 0, none⟩), .pointer (some ⟨b, 0, none⟩), .int .i64 v] w fun e w' => e = .returned (.tuple #[.bool (rightB A T v), .int .i64 0]) ∧ Below w.heap.size w w' := by
  obtain ⟨_, OA, OT, h1, h2, _⟩ := h
  exact an_right a b A T v w h1 h2
theorem put_level {n : Nat} {w : World} {a b : Nat} {A : Arn} {T : Trl} (id : Int) (c : List Int) (hg : A.get id = some c) (h : PutAt n w a b A T) :
    Calls Tryz.prog 19 #[.pointer (some ⟨a, 0, none⟩), .pointer (some ⟨b, 0, none⟩), .int .i64 id] w fun e w' => e = .returned (levelVal (T.failMax c 0)) ∧ Below w.heap.size w w' := by
  obtain ⟨_, OA, OT, h1, h2, _⟩ := h
  exact an_level a b A T id c w h1 h2 hg
/-- what Conflict returns, its slices named -/
theorem LrnAt.parts {n : Nat} {w : World} {v : Value} {r : Lrn} (h : LrnAt n w v r) : ∃ Ax cx Ay cy Az cz, v = .agg #[.slice Ax r.lits.length cx, .int .i64 r.back, .int .i64 r.levels, .slice Ay r.hints.length cy, .slice Az r.met.length cz] ∧
    (∀ w', Below w.heap.size w w' → IntsIn (fun g => n ≤ g) w' (.slice Ax r.lits.length cx) r.lits) ∧ (∀ w', Below w.heap.size w w' → IntsIn (fun g => n ≤ g) w' (.slice Ay r.hints.length cy) r.hints) ∧ (∀ w', Below w.heap.size w w' → IntsIn (fun g => n ≤ g) w' (.slice Az r.met.length cz) r.met) := by
  obtain ⟨x, y, z, rfl, hx, hy, hz⟩ := h
  obtain ⟨Ax, cx, rfl, _⟩ := mx_slice hx
  obtain ⟨Ay, cy, rfl, _⟩ := mx_slice hy
  obtain ⟨Az, cz, rfl, _⟩ := mx_slice hz
  exact ⟨Ax, cx, Ay, cy, Az, cz, rfl, fun w' hb => ((IntsIn.of_own hx).below hb).mono (fun g hg => hg.1), fun w' hb => ((IntsIn.of_own hy).below hb).mono (fun g hg => hg.1), fun w' hb => ((IntsIn.of_own hz).below hb).mono (fun g hg => hg.1)⟩
theorem eqc_lit {O : Nat → Prop} (W : World) (u : Value) (xs ys : List Int) (h : ∀ w', Below W.heap.size W w' → IntsIn O w' u xs) (hs : xs.length ≤ 1000) :
    Calls Tryz.prog 25 #[u, .slice (some ⟨W.heap.size, 0, none⟩) ys.length ys.length] (W.alloc (.cells (ys.map (Value.int .i64)).toArray 32)) fun e w' => e = .returned (.bool (xs == ys)) ∧ Below W.heap.size W w' := by
  have hb := mx_al W (.cells (ys.map (Value.int .i64)).toArray 32)
  refine (eq_c u _ xs ys _ (h _ hb) (mx_ints W ys _) (by omega)).mono ?_
  rintro e w' ⟨rfl, n, rfl⟩
  exact ⟨rfl, hb.trans ((mx_drewN _ n).mono hb.size)⟩
theorem eqi_lit {O : Nat → Prop} (W : World) (u : Value) (xs ys : List Int) (h : ∀ w', Below W.heap.size W w' → IntsIn O w' u xs) (hs : xs.length ≤ 1000) :
    Calls Tryz.prog 46 #[u, .slice (some ⟨W.heap.size, 0, none⟩) ys.length ys.length] (W.alloc (.cells (ys.map (Value.int .i64)).toArray 3)) fun e w' => e = .returned (.bool (xs == ys)) ∧ Below W.heap.size W w' := by
  have hb := mx_al W (.cells (ys.map (Value.int .i64)).toArray 3)
  refine (eq_i u _ xs ys _ (h _ hb) (mx_ints W ys _) (by omega)).mono ?_
  rintro e w' ⟨rfl, n, rfl⟩
  exact ⟨rfl, hb.trans ((mx_drewN _ n).mono hb.size)⟩
end Go.Proofs.YtoojmhjagipmdaaGreat
namespace Go.Proofs.YtoojmhjagipmdaaGreat
open Go.RowKit

/-- the first index of what has a property; -1 if there is none -/
def FstAt (xs : List Int) (P : Int → Bool) (i : Int) : Prop := (i = -1 ∧ ∀ x ∈ xs, P x = false) ∨ ∃ k : Nat, i = k ∧ k < xs.length ∧ (∀ j x, j < k → xs[j]? = some x → P x = false) ∧ ∃ x, xs[k]? = some x ∧ P x = true
theorem FstAt.any {xs : List Int} {P : Int → Bool} {i : Int} (h : FstAt xs P i) : decide (0 ≤ i) = xs.any P := by
  rcases h with ⟨rfl, h⟩ | ⟨k, rfl, _, _, x, hx, hp⟩
  · have : xs.any P = false := List.any_eq_false.2 (fun x hx => by rw [h x hx]; decide)
    rw [this]
    rfl
  · have : xs.any P = true := List.any_eq_true.2 ⟨x, List.mem_of_getElem? hx, hp⟩
    rw [this]
    exact decide_eq_true (by omega)
end Go.Proofs.YtoojmhjagipmdaaGreat
namespace Go.Proofs.YtoojmhjagipmdaaGreat
open Go.RowKit

/-- what is left of the first k -/
def keepP (v : Int) (c : List Int) (k : Nat) : List Int := rest15 v (c.take k)
end Go.Proofs.YtoojmhjagipmdaaGreat
namespace Go.Proofs.YtoojmhjagipmdaaGreat
open Go.RowKit

/-- what a work holds, but for what is known -/
def Wk (w : World) (a b mb : Nat) (A : Arn) (T : Trl) (u : Value) (c : List Int) : Prop := ∃ OA OT OC : Nat → Prop, ArAt OA w a A ∧ TrAt OT w b T ∧ IntsIn OC w u c ∧ ¬ OA mb ∧ ¬ OT mb ∧ ¬ OC mb ∧ mb < w.heap.size
theorem Wk.kept {w w' : World} {a b mb : Nat} {A : Arn} {T : Trl} {u : Value} {c : List Int} (h : Wk w a b mb A T u c) (k : Kept (fun g => g = mb) w w') : Wk w' a b mb A T u c := by
  obtain ⟨OA, OT, OC, h1, h2, h3, h4, h5, h6, h7⟩ := h
  exact ⟨OA, OT, OC, h1.kept k (fun g hg e => h4 (e ▸ hg)), h2.kept k (fun g hg e => h5 (e ▸ hg)), h3.kept k (fun g hg e => h6 (e ▸ hg)), h4, h5, h6, Nat.lt_of_lt_of_le h7 k.size⟩
theorem Wk.below {w w' : World} {a b mb : Nat} {A : Arn} {T : Trl} {u : Value} {c : List Int} (h : Wk w a b mb A T u c) (k : Below w.heap.size w w') : Wk w' a b mb A T u c := h.kept (Kept.of_below k)
/-- covered, at a place -/
def CovAt (a b mb : Nat) (A : Arn) (T : Trl) (its : List RIt) (Ac : Option Addr) (cc : Nat) (c : List Int) (B : Nat) (p : Nat) : Prop := ∀ x, its[p]? = some x → ∀ (w : World) (f : Int → Int) (kk : Nat), Wk w a b mb A T (.slice Ac c.length cc) c → MapAt w mb kk f → Kq A T its c f (p + 1) → kk + 2 * zer its f ≤ B →
  Calls Tryz.prog 77 #[(.agg #[.pointer (some ⟨a, 0, none⟩), .pointer (some ⟨b, 0, none⟩), .slice Ac c.length cc, .map (some mb)]), .int .i64 (-x.lit)] w fun e w' => ∃ (f' : Int → Int) (kk' : Nat), e = .returned (.bool (cov15 A T c (-x.lit))) ∧ MapAt w' mb kk' f' ∧ Kq A T its c f' (p + 1) ∧ (∀ q y, p < q → its[q]? = some y → f' (litV y.lit : Nat) = f (litV y.lit : Nat)) ∧ kk' + 2 * zer its f' ≤ kk + 2 * zer its f ∧ Kept (fun g => g = mb) w w'
/-- implied, at a place -/
def ImpAt (a b mb : Nat) (A : Arn) (T : Trl) (its : List RIt) (Ac : Option Addr) (cc : Nat) (c : List Int) (B : Nat) (p : Nat) : Prop := ∀ x, its[p]? = some x → ∀ (w : World) (f : Int → Int) (kk : Nat), Wk w a b mb A T (.slice Ac c.length cc) c → MapAt w mb kk f → Kq A T its c f p → kk + 2 * zer its f ≤ B →
  Calls Tryz.prog 75 #[(.agg #[.pointer (some ⟨a, 0, none⟩), .pointer (some ⟨b, 0, none⟩), .slice Ac c.length cc, .map (some mb)]), .int .i64 (litV x.lit : Nat)] w fun e w' => ∃ (f' : Int → Int) (kk' : Nat), e = .returned (.bool (impl15 A T c (litV x.lit : Nat))) ∧ MapAt w' mb kk' f' ∧ Kq A T its c f' p ∧ (∀ q y, p ≤ q → its[q]? = some y → f' (litV y.lit : Nat) = f (litV y.lit : Nat)) ∧ kk' + 2 * zer its f' ≤ kk + 2 * zer its f ∧ Kept (fun g => g = mb) w w'
theorem Kq.put {A : Arn} {T : Trl} {its : List RIt} {c : List Int} {f : Int → Int} {p : Nat} {x : RIt} (hs : Sim T its) (hp : its[p]? = some x) (h : Kq A T its c f p) (z : Int) : Kq A T its c (fun y => if y = (litV x.lit : Nat) then z else f y) p := fun q y hq hy => by
  have hne : ((litV y.lit : Nat) : Int) ≠ (litV x.lit : Nat) := fun e => by
    have := hs.inj hy hp (by omega)
    omega
  simp only
  rw [if_neg hne]
  exact h q y (by omega) hy
end Go.Proofs.YtoojmhjagipmdaaGreat
namespace Go.Proofs.YtoojmhjagipmdaaGreat
open Go.RowKit

def restW (v : Int) (c : List Int) : List Int := c.filter fun l => decide (l ≠ v)
/-- what is left of the first k -/
def keepW (v : Int) (c : List Int) (k : Nat) : List Int := restW v (c.take k)
end Go.Proofs.YtoojmhjagipmdaaGreat
namespace Go.Proofs.YtoojmhjagipmdaaGreat
open Go.RowKit

def exL : List (List Int) := [[-1, 2], [-2, -3, 4], [-4, 5], [-5, -4, -2], [3]]
def exA : List ActP := [⟨true, 0, 0⟩, ⟨false, 3, 0⟩, ⟨true, 0, 0⟩, ⟨false, 1, 0⟩, ⟨false, 2, 1⟩, ⟨false, 4, 2⟩, ⟨false, 5, 3⟩]
def exB : List ActP := [⟨false, 3, 5⟩, ⟨true, 0, 0⟩, ⟨false, 1, 0⟩, ⟨false, 2, 1⟩, ⟨false, 4, 2⟩, ⟨false, 5, 3⟩]
def exAr : Arn := addAll arn0 0 exL
def exT : Trl := playAll (trl0 5) exA
def exU : Trl := playAll (trl0 5) exB
theorem ex_get4 : exAr.get 4 = some [-5, -4, -2] := by kernel_rfl
theorem ex_get5 : exAr.get 5 = some [3] := by kernel_rfl
theorem ex_f4 : exT.failMax [-5, -4, -2] 0 = some 2 := by kernel_rfl
theorem ex_f5 : exT.failMax [3] 0 = none := by kernel_rfl
theorem ex_g4 : exU.failMax [-5, -4, -2] 0 = some 1 := by kernel_rfl
theorem ex_end1 : cfEnd exAr exT 2 [-5, -4, -2] = some ⟨[5, 4, 2, 3], 1, [-2, -3], [3, 2], [5, 4, 2, 3]⟩ := by kernel_rfl
theorem ex_end2 : cfEnd exAr exU 1 [-5, -4, -2] = some ⟨[5, 4, 2, 3], 1, [-2], [3, 2, 5], [5, 4, 2]⟩ := by kernel_rfl
theorem ex_lv1 : exT.levelsOf [-2, -3] = 2 := by
  unfold Trl.levelsOf Trl.nLevels
  rw [if_pos (by decide), show exT.lvls [-2, -3] = [2, 1] from by kernel_rfl, sortI_eq (ys := [1, 2]) (by decide) (by decide)]
  rfl
theorem ex_lv2 : exU.levelsOf [-2] = 1 := by
  unfold Trl.levelsOf Trl.nLevels
  rw [if_pos (by decide), show exU.lvls [-2] = [1] from by kernel_rfl, sortI_eq (ys := [1]) (by decide) (by decide)]
  rfl
theorem ex_conf1 : confP exAr exT 4 = (⟨[-2, -3], 1, 2, [2, 3, 4], [2, 3, 4, 5]⟩, 0) := by
  unfold confP
  rw [ex_get4]
  simp only [ex_f4, ex_end1]
  rw [ex_lv1, sortI_eq (xs := [5, 4, 2, 3]) (ys := [2, 3, 4, 5]) (by decide) (by decide), show exT.backOf [-2, -3] = 1 from by kernel_rfl]
  rfl
theorem ex_conf2 : confP exAr exU 4 = (⟨[-2], 0, 1, [5, 2, 3, 4], [2, 4, 5]⟩, 0) := by
  unfold confP
  rw [ex_get4]
  simp only [ex_g4, ex_end2]
  rw [ex_lv2, sortI_eq (xs := [5, 4, 2]) (ys := [2, 4, 5]) (by decide) (by decide), show exU.backOf [-2] = 0 from by kernel_rfl]
  rfl
theorem ex_conf5 : confP exAr exT 5 = (lrn0, 140) := by
  unfold confP
  rw [ex_get5]
  simp only [ex_f5]
theorem ex_right4 : rightB exAr exT 4 = true := by kernel_rfl
theorem ex_right1 : rightB exAr exT 1 = false := by kernel_rfl

/-! ### the lists of the example in memory -/
theorem ex_in {w : World} {n : Nat} {xs : List Int} {t : TypeId} {W : World} (hs : W.heap.size = n) (hb : Below (n + 1) (W.alloc (.cells (xs.map (Value.int .i64)).toArray t)) w) : IntsIn (fun g => g < w.heap.size) w (.slice (some ⟨n, 0, none⟩) xs.length xs.length) xs := by
  subst hs
  have hb' : Below (W.alloc (.cells (xs.map (Value.int .i64)).toArray t)).heap.size (W.alloc (.cells (xs.map (Value.int .i64)).toArray t)) w := by simpa using hb
  refine ((mx_ints W xs t).below hb').mono (fun g hg => ?_)
  have := hb.size
  simp at this
  omega
set_option maxRecDepth 100000 in
set_option maxHeartbeats 1000000 in
theorem example_any (w : World) :
    Calls Tryz.prog 47 #[] w fun e w' => ∃ cv g W6, e = .returned (.tuple #[cv, .slice (some ⟨g, 0, none⟩) 7 7]) ∧ ClsAt W6 cv exL ∧ W6.heap.size = g ∧ Below g W6 w' ∧ w'.heap[g]? = some (.cells (exA.flatMap ActP.cells).toArray 90 (0, 0)) ∧ w.heap.size ≤ g ∧ Below w.heap.size w w' := by
  obtain ⟨W6, hW6, hb6, hc6⟩ : ∃ W6, ((((((w.alloc (.cells #[.int .i64 (-1), .int .i64 2] 32)).alloc (.cells #[.int .i64 (-2), .int .i64 (-3), .int .i64 4] 32)).alloc (.cells #[.int .i64 (-4), .int .i64 5] 32)).alloc (.cells #[.int .i64 (-5), .int .i64 (-4), .int .i64 (-2)] 32)).alloc (.cells #[.int .i64 3] 32)).alloc (.cells #[.slice (some ⟨w.heap.size, 0, none⟩) 2 2, .slice (some ⟨w.heap.size + 1, 0, none⟩) 3 3, .slice (some ⟨w.heap.size + 1 + 1, 0, none⟩) 2 2, .slice (some ⟨w.heap.size + 1 + 1 + 1, 0, none⟩) 3 3, .slice (some ⟨w.heap.size + 1 + 1 + 1 + 1, 0, none⟩) 1 1] 34)) = W6 ∧ Below w.heap.size w W6 ∧ ClsAt W6 (.slice (some ⟨w.heap.size + 1 + 1 + 1 + 1 + 1, 0, none⟩) 5 5) exL := by
    refine ⟨_, rfl, (((((mx_al _ _).alloc (by simp) _).alloc (by simp; omega) _).alloc (by simp; omega) _).alloc (by simp; omega) _).alloc (by simp; omega) _, ?_⟩
    have key := cls_new (((((w.alloc (.cells #[.int .i64 (-1), .int .i64 2] 32)).alloc (.cells #[.int .i64 (-2), .int .i64 (-3), .int .i64 4] 32)).alloc (.cells #[.int .i64 (-4), .int .i64 5] 32)).alloc (.cells #[.int .i64 (-5), .int .i64 (-4), .int .i64 (-2)] 32)).alloc (.cells #[.int .i64 3] 32)) [.slice (some ⟨w.heap.size, 0, none⟩) 2 2, .slice (some ⟨w.heap.size + 1, 0, none⟩) 3 3, .slice (some ⟨w.heap.size + 1 + 1, 0, none⟩) 2 2, .slice (some ⟨w.heap.size + 1 + 1 + 1, 0, none⟩) 3 3, .slice (some ⟨w.heap.size + 1 + 1 + 1 + 1, 0, none⟩) 1 1] exL 34 (fun i xs hi => by
      match i, hi with
      | 0, hi =>
        obtain rfl := Option.some.inj hi
        exact ⟨_, rfl, ex_in (xs := [-1, 2]) (W := w) rfl ((((mx_al _ _).mono (by simp)).alloc (by simp) _).alloc (by simp) _ |>.alloc (by simp) _)⟩
      | 1, hi =>
        obtain rfl := Option.some.inj hi
        exact ⟨_, rfl, ex_in (xs := [-2, -3, 4]) (W := w.alloc (.cells #[.int .i64 (-1), .int .i64 2] 32)) (by simp) ((((mx_al _ _).mono (by simp)).alloc (by simp) _).alloc (by simp) _)⟩
      | 2, hi =>
        obtain rfl := Option.some.inj hi
        exact ⟨_, rfl, ex_in (xs := [-4, 5]) (W := (w.alloc (.cells #[.int .i64 (-1), .int .i64 2] 32)).alloc (.cells #[.int .i64 (-2), .int .i64 (-3), .int .i64 4] 32)) (by simp) (((mx_al _ _).mono (by simp)).alloc (by simp) _)⟩
      | 3, hi =>
        obtain rfl := Option.some.inj hi
        exact ⟨_, rfl, ex_in (xs := [-5, -4, -2]) (W := ((w.alloc (.cells #[.int .i64 (-1), .int .i64 2] 32)).alloc (.cells #[.int .i64 (-2), .int .i64 (-3), .int .i64 4] 32)).alloc (.cells #[.int .i64 (-4), .int .i64 5] 32)) (by simp) ((mx_al _ _).mono (by simp))⟩
      | 4, hi =>
        obtain rfl := Option.some.inj hi
        exact ⟨_, rfl, ex_in (xs := [3]) (W := (((w.alloc (.cells #[.int .i64 (-1), .int .i64 2] 32)).alloc (.cells #[.int .i64 (-2), .int .i64 (-3), .int .i64 4] 32)).alloc (.cells #[.int .i64 (-4), .int .i64 5] 32)).alloc (.cells #[.int .i64 (-5), .int .i64 (-4), .int .i64 (-2)] 32)) (by simp) (Below.refl _ _)⟩
      | n + 5, hi => exact absurd hi (by simp [exL]))
    simpa [exL] using key
  have hsz : W6.heap.size = w.heap.size + 1 + 1 + 1 + 1 + 1 + 1 := by rw [← hW6]; simp
  have HSZ := Lib.hid hsz
  have HW6 := Lib.hid hW6
  have HB6 := Lib.hid hb6
  have HC6 := Lib.hid hc6
  clear hW6 hb6 hc6 hsz
  go_enter Tryz.func47, Tryz.ntmps47
  go_wp2_with fail
  rw [HW6.out]
  go_ret2
  have hnew := World.alloc_heap_new W6 (.cells (exA.flatMap ActP.cells).toArray 90)
  have hb := mx_al W6 (.cells (exA.flatMap ActP.cells).toArray 90)
  rw [HSZ.out] at hnew hb
  exact ⟨_, _, W6, rfl, HC6.out, HSZ.out, hb, hnew, by omega, HB6.out.trans (hb.mono (by omega))⟩
end Go.Proofs.YtoojmhjagipmdaaGreat
namespace Go.Proofs.YtoojmhjagipmdaaGreat
open Go.RowKit

theorem run_clear3 (w : World) (ty : TypeId) (b o c : Nat) (hc : ∀ j, j < 3 → (w.cell? ⟨b, o + j, none⟩).isSome = true) (hf : ∀ j, j < 3 → w.frozen? ⟨b, o + j, none⟩ = false) :
    (Builtin.clear_ #[84] ty #[.slice (some ⟨b, o, none⟩) 1 c]).run Tryz.prog w = .ok (.tuple #[]) (w.setCells b o [.bool false, .int .i64 0, .int .i64 0]) := by
  have hzc : (Builtin.zeroCells (Value.agg #[.bool false, .int .i64 0, .int .i64 0]).cells 1).toList = [.bool false, .int .i64 0, .int .i64 0] := by kernel_rfl
  have hst := run_storeCells_cells (P := Tryz.prog) b o [.bool false, .int .i64 0, .int .i64 0] 0 w (by simpa using hc) (by simpa using hf) (by simp [Value.oneCell'])
  simp only [Nat.add_zero] at hst
  simp [Builtin.clear_, run_underlying Tryz.underlying84, hzc, hst]
set_option maxRecDepth 100000 in
set_option maxHeartbeats 2000000 in
theorem del_acts (g : Nat) (cs : Array Value) (l : List ActP) (w : World) (hb : w.heap[g]? = some (.cells cs 90 (0, 0))) (hl : l.length = 7) (ht : cs.toList = l.flatMap ActP.cells) :
    Calls Tryz.prog 49 #[.slice (some ⟨g, 0, none⟩) 7 7, .int .i64 2, .int .i64 3] w fun e w' => e = .returned (.slice (some ⟨g, 0, none⟩) 6 7) ∧ ActsIn w' (.slice (some ⟨g, 0, none⟩) 6 7) (l.eraseIdx 2) ∧ Kept (fun k => k = g) w w' := by
  have hcs : cs.size = 21 := by
    have := congrArg List.length ht
    rw [actCells_len, hl] at this
    simpa using this
  obtain ⟨i0, hi0, hz0, hz1, hz2⟩ := info_parts ainfo_act
  have hgD : w.drew.heap[g]? = some (.cells cs 90 (0, 0)) := hb
  have hnl : (cs.toList.drop 9).length = 4 * i0.size := by rw [hz1, List.length_drop, Array.length_toList, hcs]
  have hnews : ∀ j u, (cs.toList.drop 9)[j]? = some u → w.drew.cell? ((⟨g, 9, none⟩ : Addr).add j) = some u := fun j u hj => by
    rw [addr_add2, mx_cell hgD]
    rw [List.getElem?_drop, Array.getElem?_toList] at hj
    exact hj
  have h1 : ∀ u ∈ cs.toList.drop 9, u.oneCell' = true := fun u hu => by
    have := List.mem_of_mem_drop hu
    rw [ht] at this
    obtain ⟨a, _, ha⟩ := List.mem_flatMap.1 this
    simp only [ActP.cells, List.mem_cons, List.not_mem_nil, or_false] at ha
    rcases ha with rfl | rfl | rfl <;> rfl
  have hrun := fun ty => run_append_room (P := Tryz.prog) w.drew 84 ty 90 i0 Tryz.underlying84 hi0 g 2 7 cs hgD ⟨g, 9, none⟩ 4 4 (cs.toList.drop 9) hnl hnews h1 (by decide) (by rw [hnl, hz1, hcs]; decide)
  rw [hz1] at hrun
  obtain ⟨W2, hW2⟩ : ∃ x, w.drew.setRow g (cs.toList.take (2 * 3) ++ cs.toList.drop 9 ++ cs.toList.drop (2 * 3 + (cs.toList.drop 9).length)).toArray = x := ⟨_, rfl⟩
  rw [hW2] at hrun
  have hb2 : W2.heap[g]? = some (.cells (cs.toList.take (2 * 3) ++ cs.toList.drop 9 ++ cs.toList.drop (2 * 3 + (cs.toList.drop 9).length)).toArray 90 (0, 0)) := by
    rw [← hW2]
    exact setRow_heap w.drew g cs _ _ _ hgD
  have hk2 : Kept (fun k => k = g) w W2 := by
    rw [← hW2]
    exact ⟨rfl, rfl, rfl, by simp, fun k _ hk => setRow_other w.drew g k _ hk⟩
  have hs2 : (cs.toList.take (2 * 3) ++ cs.toList.drop 9 ++ cs.toList.drop (2 * 3 + (cs.toList.drop 9).length)).toArray.size = 21 := by
    simp [hcs]
  have ht2 : (cs.toList.take (2 * 3) ++ cs.toList.drop 9 ++ cs.toList.drop (2 * 3 + (cs.toList.drop 9).length)).toArray.toList.take 18 = (l.eraseIdx 2).flatMap ActP.cells := by
    rw [List.toList_toArray, ht, List.eraseIdx_eq_take_drop_succ, List.flatMap_append]
    have e1 : (l.flatMap ActP.cells).take (2 * 3) = (l.take 2).flatMap ActP.cells := by
      match l, hl with
      | [a, b, c, d, e, f, g], _ => rfl
    have e2 : (l.flatMap ActP.cells).drop 9 = (l.drop 3).flatMap ActP.cells := by
      match l, hl with
      | [a, b, c, d, e, f, g], _ => rfl
    have e3 : ((l.take 2).flatMap ActP.cells ++ (l.drop 3).flatMap ActP.cells).length = 18 := by
      rw [List.length_append, actCells_len, actCells_len, List.length_take, List.length_drop, hl]
      rfl
    rw [e1, e2, List.take_append_of_le_length (Nat.le_of_eq e3.symm), List.take_of_length_le (Nat.le_of_eq e3)]
  generalize (cs.toList.take (2 * 3) ++ cs.toList.drop 9 ++ cs.toList.drop (2 * 3 + (cs.toList.drop 9).length)).toArray = c2 at hb2 hs2 ht2
  have hcl := fun ty => run_clear3 W2 ty g 18 1 (fun j hj => by rw [mx_cell hb2, Array.getElem?_eq_getElem (by omega)]; rfl) (fun j _ => mx_free hb2)
  obtain ⟨W3, hW3⟩ : ∃ x, W2.setCells g 18 [.bool false, .int .i64 0, .int .i64 0] = x := ⟨_, rfl⟩
  rw [hW3] at hcl
  have hb3 : W3.heap[g]? = some (.cells (((c2.setIfInBounds 18 (.bool false)).setIfInBounds 19 (.int .i64 0)).setIfInBounds 20 (.int .i64 0)) 90 (0, 0)) := by
    rw [← hW3]
    exact mx_set (j := 20) (mx_set (j := 19) (mx_set (j := 18) hb2 _) _) _
  have hk3 : Kept (fun k => k = g) w W3 := by
    rw [← hW3]
    exact ((hk2.setCell ⟨g, 18, none⟩ _ rfl).setCell ⟨g, 19, none⟩ _ rfl).setCell ⟨g, 20, none⟩ _ rfl
  have hA := acts_of_block (n := 6) (c := 7) (l := l.eraseIdx 2) hb3 (by rw [List.length_eraseIdx_of_lt (by omega), hl]) (by
    rw [← ht2]
    simp only [Array.toList_setIfInBounds]
    rw [List.take_set_of_le (by decide), List.take_set_of_le (by decide), List.take_set_of_le (by decide)])
  have HRUN := Lib.hid hrun
  have HCL := Lib.hid hcl
  have HA := Lib.hid hA
  have HK3 := Lib.hid hk3
  clear hb ht hcs hgD hnl hnews h1 hrun hW2 hb2 hk2 hs2 ht2 hcl hW3 hb3 hk3 hA hi0 hz0 hz1 hz2
  go_enter Tryz.func49, Tryz.ntmps49
  go_upto_region 5 with fail
  refine wp_region_held_drew (S := fun _ => True) (by kernel_rfl) trivial (fun hS => ?_)
  refine takeE 0 20 ?_
  refine takeE 1 21 ?_
  refine takeE 2 22 ?_
  refine takeE 3 23 ?_
  refine takeE 4 24 ?_
  refine takeE 5 25 ?_
  refine ready1 6 (fun K hK => ?_)
  rw [if_pos (by rfl)]
  refine wp_append_run 26 (by rfl) _ _ 84 rfl _ _ (by rfl) (by rfl) (HRUN.out _) ?_
  refine hK.out _ _ trivial (fun _ => ?_)
  clear hK
  simp only [Act.put, List.setIfInBounds_toArray, List.set_cons_zero, List.set_cons_succ]
  refine takeE 7 0 ?_
  refine wpAnyH_done (by kernel_rfl) ?_ _
  have hcl := HCL.out
  go_wp2_with fail
  go_ret
  exact ⟨rfl, HA.out, HK3.out⟩
end Go.Proofs.YtoojmhjagipmdaaGreat
namespace Go.Proofs.YtoojmhjagipmdaaGreat
open Go.RowKit

def exD : List ActP := [⟨false, 3, 5⟩, ⟨true, 0, 0⟩, ⟨true, 0, 0⟩, ⟨false, 1, 0⟩, ⟨false, 2, 1⟩, ⟨false, 4, 2⟩, ⟨false, 5, 3⟩]
theorem exL_len : ∀ c ∈ exL, c.length ≤ 1000 := by decide
set_option maxRecDepth 100000 in
set_option maxHeartbeats 4000000 in
theorem awake_any (w : World) : Calls Tryz.prog 10 #[] w fun e w' => e = .returned (.bool true) ∧ Below w.heap.size w w' := by
  have HEX := Lib.hid (example_any w)
  go_enter Tryz.func10, Tryz.ntmps10
  go_wp2_with fail
  refine HEX.out.mono ?_
  rintro e w1 ⟨cv, g, W6, rfl, hc, hz6, hb6, hg, hwg, hb1⟩
  have HC := Lib.hid hc
  have HG := Lib.hid hg
  have H6 := Lib.hid hb6
  have HB1 := Lib.hid hb1
  have HZ6 := Lib.hid hz6
  have hg1 := heap_lt hg
  obtain ⟨Ac, cc, rfl, _⟩ := hc
  rw [show exL.length = 5 from rfl] at HC
  have ha1 : ActsIn w1 (.slice (some ⟨g, 0, none⟩) 7 7) exA := acts_of_block (l := exA) hg rfl (by rw [List.toList_toArray]; exact List.take_of_length_le (by decide))
  have hp := put_any 5 _ _ exL exA w1 (by decide) ((HC.out).below (by rw [hz6]; exact hb6)) ha1 (by decide) exL_len (by decide)
  have HP := Lib.hid hp
  clear hg hb6 hb1 hz6 ha1 hp HEX
  rw [show exL.length = 5 from rfl]
  go_wp2_with fail
  refine HP.out.mono ?_
  rintro e w2 ⟨a, b, rfl, hpa, hb2⟩
  have HPA := Lib.hid hpa
  have hz2 := hb2.size
  have HB2 := Lib.hid hb2
  clear HP hpa hb2
  have hcf := put_conf 4 HPA.out
  rw [show addAll arn0 0 exL = exAr from rfl, show playAll (trl0 5) exA = exT from rfl, ex_conf1] at hcf
  have HCF := Lib.hid hcf
  clear hcf
  go_wp2_with fail
  refine HCF.out.mono ?_
  rintro e w3 ⟨⟨v, rfl, hv⟩, hb3⟩
  obtain ⟨Ax, cx, Ay, cy, Az, cz, rfl, hx, hy, hz⟩ := hv.parts
  have HX := Lib.hid hx
  have HY := Lib.hid hy
  have HZ := Lib.hid hz
  have HB3 := Lib.hid hb3
  clear hx hy hz hv HCF hb3
  go_wp2_with fail
  obtain ⟨Wa, hWa⟩ : ∃ x, w3.alloc (.cells #[.slice Ax 2 cx, .int .i64 1, .int .i64 2, .slice Ay 3 cy, .slice Az 4 cz] 65) = x := ⟨_, rfl⟩
  have hbA : Below w3.heap.size w3 Wa := by rw [← hWa]; exact mx_al _ _
  have hbx : Wa.heap[w3.heap.size]? = some (.cells #[.slice Ax 2 cx, .int .i64 1, .int .i64 2, .slice Ay 3 cy, .slice Az 4 cz] 65 (0, 0)) := by rw [← hWa]; exact World.alloc_heap_new _ _
  have hzA : Wa.heap.size = w3.heap.size + 1 := by rw [← hWa]; simp
  rw [hWa]
  have HA1 := Lib.hid hbA
  have HBX1 := Lib.hid hbx
  have HZA1 := Lib.hid hzA
  clear hbA hbx hzA hWa
  have hq := eqc_lit Wa (.slice Ax 2 cx) [-2, -3] [-2, -3] (fun w' hb => HX.out w' (HA1.out.trans (hb.mono HA1.out.size))) (by decide)
  rw [HZA1.out] at hq
  rw [show (([-2, -3] : List Int) == [-2, -3]) = true from rfl] at hq
  have HQ := Lib.hid hq
  clear hq
  refine HQ.out.mono ?_
  rintro e w4 ⟨rfl, hbq⟩
  clear HQ
  rw [← HZA1.out] at hbq
  have HB4 := Lib.hid (HA1.out.trans (hbq.mono HA1.out.size))
  obtain ⟨⟨o0, o1, o2, o3, o4⟩, _⟩ := cells5 ((hbq.block _ (heap_lt HBX1.out)).trans HBX1.out)
  have HBX4 := Lib.hid ((hbq.block _ (heap_lt HBX1.out)).trans HBX1.out)
  clear hbq
  go_wp2_with fail
  have hq := eqi_lit w4 (.slice Ay 3 cy) [2, 3, 4] [2, 3, 4] (fun w' hb => HY.out w' (HB4.out.trans (hb.mono HB4.out.size))) (by decide)
  skip
  rw [show (([2, 3, 4] : List Int) == [2, 3, 4]) = true from rfl] at hq
  have HQ := Lib.hid hq
  clear hq
  refine HQ.out.mono ?_
  rintro e w5 ⟨rfl, hbq⟩
  clear HQ
  have HB5 := Lib.hid (HB4.out.trans (hbq.mono HB4.out.size))
  clear o0 o1 o2 o3 o4
  obtain ⟨⟨o0, o1, o2, o3, o4⟩, _⟩ := cells5 ((hbq.block _ (heap_lt HBX4.out)).trans HBX4.out)
  clear hbq
  go_wp2_with fail
  have hq := eqi_lit w5 (.slice Az 4 cz) [2, 3, 4, 5] [2, 3, 4, 5] (fun w' hb => HZ.out w' (HB5.out.trans (hb.mono HB5.out.size))) (by decide)
  skip
  rw [show (([2, 3, 4, 5] : List Int) == [2, 3, 4, 5]) = true from rfl] at hq
  have HQ := Lib.hid hq
  clear hq
  refine HQ.out.mono ?_
  rintro e w6 ⟨rfl, hbq⟩
  clear HQ
  have HB6 := Lib.hid (HB3.out.trans ((HB5.out.trans (hbq.mono HB5.out.size)).mono HB3.out.size))
  clear o0 o1 o2 o3 o4 hbq
  have hr4 := put_right 4 (HPA.out.below HB6.out)
  rw [show addAll arn0 0 exL = exAr from rfl, show playAll (trl0 5) exA = exT from rfl, ex_right4] at hr4
  have HR4 := Lib.hid hr4
  clear hr4
  go_wp2_with fail
  refine HR4.out.mono ?_
  rintro e w7 ⟨rfl, hb⟩
  have HB7 := Lib.hid (HB6.out.trans (hb.mono HB6.out.size))
  clear hb HR4
  have hr1 := put_right 1 (HPA.out.below HB7.out)
  rw [show addAll arn0 0 exL = exAr from rfl, show playAll (trl0 5) exA = exT from rfl, ex_right1] at hr1
  have HR1 := Lib.hid hr1
  clear hr1
  go_wp2_with fail
  refine HR1.out.mono ?_
  rintro e w8 ⟨rfl, hb⟩
  have HB8 := Lib.hid (HB7.out.trans (hb.mono HB7.out.size))
  clear hb HR1
  have hl4 := put_level (A := exAr) (T := exT) 4 [-5, -4, -2] ex_get4 (HPA.out.below HB8.out)
  rw [ex_f4] at hl4
  have HL4 := Lib.hid hl4
  clear hl4
  go_wp2_with fail
  refine HL4.out.mono ?_
  rintro e w9 ⟨rfl, hb⟩
  rw [show levelVal (some 2) = .tuple #[.int .i64 2, .int .i64 0] from rfl]
  have HB9 := Lib.hid (HB8.out.trans (hb.mono HB8.out.size))
  clear hb HL4
  have hc5 := put_conf 5 (HPA.out.below HB9.out)
  rw [show addAll arn0 0 exL = exAr from rfl, show playAll (trl0 5) exA = exT from rfl, ex_conf5] at hc5
  have HC5 := Lib.hid hc5
  clear hc5
  go_wp2_with fail
  refine HC5.out.mono ?_
  rintro e w10 ⟨⟨v, rfl, hv⟩, hb⟩
  obtain ⟨Bx, dx, By, dy, Bz, dz, rfl, _⟩ := hv.parts
  have HB10 := Lib.hid (HB9.out.trans (hb.mono HB9.out.size))
  clear hv HC5 hb
  have hg10 : w10.heap[g]? = some (.cells (exA.flatMap ActP.cells).toArray 90 (0, 0)) := (HB10.out.block g (by omega)).trans ((HB2.out.block g hg1).trans HG.out)
  have c0 : w10.cell? ⟨g, 0, none⟩ = some (.bool true) := mx_cell (j := 0) hg10
  have c1 : w10.cell? ⟨g, 1, none⟩ = some (.int .i64 0) := mx_cell (j := 1) hg10
  have c2 : w10.cell? ⟨g, 2, none⟩ = some (.int .i64 0) := mx_cell (j := 2) hg10
  have c3 : w10.cell? ⟨g, 3, none⟩ = some (.bool false) := mx_cell (j := 3) hg10
  have c4 : w10.cell? ⟨g, 4, none⟩ = some (.int .i64 3) := mx_cell (j := 4) hg10
  have c5 : w10.cell? ⟨g, 5, none⟩ = some (.int .i64 0) := mx_cell (j := 5) hg10
  have f0 := mx_free (j := 0) hg10
  have f1 := mx_free (j := 1) hg10
  have f2 := mx_free (j := 2) hg10
  have f3 := mx_free (j := 3) hg10
  have f4 := mx_free (j := 4) hg10
  have f5 := mx_free (j := 5) hg10
  have hglt := heap_lt hg10
  have HG10 := Lib.hid hg10
  clear hg10
  go_wp2_with fail
  obtain ⟨Wd, hWd⟩ : ∃ x, ((((((w10.setCell ⟨g, 0, none⟩ (.bool false)).setCell ⟨g, 1, none⟩ (.int .i64 3)).setCell ⟨g, 2, none⟩ (.int .i64 5)).setCell ⟨g, 3, none⟩ (.bool true)).setCell ⟨g, 4, none⟩ (.int .i64 0)).setCell ⟨g, 5, none⟩ (.int .i64 0)).alloc (.cells #[.slice Bx lrn0.lits.length dx, .int .i64 lrn0.back, .int .i64 lrn0.levels, .slice By lrn0.hints.length dy, .slice Bz lrn0.met.length dz] 65) = x := ⟨_, rfl⟩
  have hgd : Wd.heap[g]? = some (.cells (exD.flatMap ActP.cells).toArray 90 (0, 0)) := by
    rw [← hWd, Below.heap_alloc _ _ _ (by simp [World.setCell]; omega)]
    exact mx_set (j := 5) (mx_set (j := 4) (mx_set (j := 3) (mx_set (j := 2) (mx_set (j := 1) (mx_set (j := 0) HG10.out _) _) _) _) _) _
  have h1d : Below g w1 Wd := by
    rw [← hWd]
    exact ((((((((HB2.out.trans (HB10.out.mono hz2)).mono (Nat.le_of_lt hg1)).setCell (Nat.le_refl g) _).setCell (Nat.le_refl g) _).setCell (Nat.le_refl g) _).setCell (Nat.le_refl g) _).setCell (Nat.le_refl g) _).setCell (Nat.le_refl g) _).alloc (by simp [World.setCell]; omega) _
  rw [hWd]
  have H1D := Lib.hid h1d
  have HGD := Lib.hid hgd
  have hgdl := heap_lt hgd
  have HDL := Lib.hid (del_acts g _ exD Wd hgd rfl (List.toList_toArray))
  clear hWd hgd h1d c0 c1 c2 c3 c4 c5 f0 f1 f2 f3 f4 f5
  refine HDL.out.mono ?_
  rintro e w11 ⟨rfl, hac, hk11⟩
  rw [show exD.eraseIdx 2 = exB from rfl] at hac
  have h11 : Below g w1 w11 := below_kept H1D.out hk11 (fun i e => Nat.le_of_eq e.symm) (Nat.le_of_lt hgdl)
  have hg11 : g < w11.heap.size := Nat.lt_of_lt_of_le hgdl hk11.size
  have hp := put_any 5 _ _ exL exB w11 (by decide) (HC.out.below (by rw [HZ6.out]; exact H6.out.trans h11)) hac (by decide) exL_len (by decide)
  have HP := Lib.hid hp
  have H11 := Lib.hid h11
  clear hp hac hk11 h11 HDL
  go_wp2_with fail
  refine HP.out.mono ?_
  rintro e w12 ⟨a2, b2, rfl, hpa, hb12⟩
  have HPB := Lib.hid hpa
  have HB12 := Lib.hid (H11.out.trans (hb12.mono (Nat.le_of_lt hg11)))
  have hz12 := hb12.size
  clear HP hpa hb12
  have hcf := put_conf 4 HPB.out
  rw [show addAll arn0 0 exL = exAr from rfl, show playAll (trl0 5) exB = exU from rfl, ex_conf2] at hcf
  have HCF := Lib.hid hcf
  clear hcf
  go_wp2_with fail
  refine HCF.out.mono ?_
  rintro e w13 ⟨⟨v, rfl, hv⟩, hb13⟩
  obtain ⟨Cx, ex, Cy, ey, Cz, ez, rfl, hx, hy, _⟩ := hv.parts
  have HX2 := Lib.hid hx
  have HY2 := Lib.hid hy
  have HB13 := Lib.hid (HB12.out.trans (hb13.mono (Nat.le_trans (Nat.le_of_lt hg11) hz12)))
  have hz13 := hb13.size
  clear hx hy hv HCF hb13
  go_wp2_with fail
  obtain ⟨Wb, hWb⟩ : ∃ x, w13.alloc (.cells #[.slice Cx 1 ex, .int .i64 0, .int .i64 1, .slice Cy 4 ey, .slice Cz 3 ez] 65) = x := ⟨_, rfl⟩
  have hbA : Below w13.heap.size w13 Wb := by rw [← hWb]; exact mx_al _ _
  have hbx : Wb.heap[w13.heap.size]? = some (.cells #[.slice Cx 1 ex, .int .i64 0, .int .i64 1, .slice Cy 4 ey, .slice Cz 3 ez] 65 (0, 0)) := by rw [← hWb]; exact World.alloc_heap_new _ _
  have hzA : Wb.heap.size = w13.heap.size + 1 := by rw [← hWb]; simp
  rw [hWb]
  have HA2 := Lib.hid hbA
  have HBX2 := Lib.hid hbx
  have HZA2 := Lib.hid hzA
  clear hbA hbx hzA hWb
  have hq := eqc_lit Wb (.slice Cx 1 ex) [-2] [-2] (fun w' hb => HX2.out w' (HA2.out.trans (hb.mono HA2.out.size))) (by decide)
  rw [HZA2.out] at hq
  rw [show (([-2] : List Int) == [-2]) = true from rfl] at hq
  have HQ := Lib.hid hq
  clear hq
  refine HQ.out.mono ?_
  rintro e w14 ⟨rfl, hbq⟩
  clear HQ
  rw [← HZA2.out] at hbq
  have HB14 := Lib.hid (HA2.out.trans (hbq.mono HA2.out.size))
  obtain ⟨⟨o0, o1, o2, o3, o4⟩, _⟩ := cells5 ((hbq.block _ (heap_lt HBX2.out)).trans HBX2.out)
  clear hbq
  go_wp2_with fail
  have hq := eqi_lit w14 (.slice Cy 4 ey) [5, 2, 3, 4] [5, 2, 3, 4] (fun w' hb => HY2.out w' (HB14.out.trans (hb.mono HB14.out.size))) (by decide)
  skip
  rw [show (([5, 2, 3, 4] : List Int) == [5, 2, 3, 4]) = true from rfl] at hq
  have HQ := Lib.hid hq
  clear hq
  refine HQ.out.mono ?_
  rintro e w15 ⟨rfl, hbq⟩
  clear HQ
  have hlast : Below w.heap.size w w15 := HB1.out.trans ((HB13.out.trans ((HB14.out.trans (hbq.mono HB14.out.size)).mono (Nat.le_trans (Nat.le_trans (Nat.le_of_lt hg11) hz12) hz13))).mono hwg)
  have HLAST := Lib.hid hlast
  clear hbq hlast o0 o1 o2 o3 o4
  go_wp2_with fail
  go_ret
  exact ⟨rfl, HLAST.out⟩
end Go.Proofs.YtoojmhjagipmdaaGreat
namespace Go.Proofs.YtoojmhjagipmdaaGreat
open Go.RowKit

theorem madeLit_six (x : Int) : litB (madeLit x) = true ∧ litV (madeLit x) < 7 := by
  obtain ⟨h1, h2⟩ := madeLit_rng x
  have hb : litB (madeLit x) = true := (litB_iff _).2 (by omega)
  exact ⟨hb, by have := (litV_pos hb).2; omega⟩
structure FewT (T : Trl) (k : Nat) : Prop where
  sim : ∃ its, Sim T its
  vars : T.vars.length = 7
  starts : T.starts.length ≤ k + 1
theorem FewT.push {T : Trl} {k : Nat} (h : FewT T k) : FewT T.push (k + 1) := by
  obtain ⟨⟨its, h1⟩, h2, h3⟩ := h
  exact ⟨⟨its, h1.pushT⟩, h2, by show (T.starts ++ [(T.order.length : Int)]).length ≤ _; rw [List.length_append]; simp; omega⟩
theorem FewT.assign {T : Trl} {k : Nat} (h : FewT T k) (l : Int) : FewT (T.assigned l 0) k := by
  obtain ⟨⟨its, h1⟩, h2, h3⟩ := h
  refine ⟨?_, (assigned_vars T l 0).trans h2, by rw [assigned_starts]; exact h3⟩
  by_cases he : T.assignErr l 0 = 0
  · exact ⟨_, h1.snoc he⟩
  · have e : T.assigned l 0 = T := by unfold Trl.assigned; rw [if_neg he]
    rw [e]
    exact ⟨its, h1⟩
theorem FewT.few {T : Trl} {k : Nat} (h : FewT T k) : T.order.length ≤ 6 := by
  obtain ⟨⟨its, h1⟩, h2, _⟩ := h
  exact h1.few h2
theorem FewT.mono {T : Trl} {k j : Nat} (h : FewT T k) (hj : k ≤ j) : FewT T j := ⟨h.sim, h.vars, by have := h.starts; omega⟩
/-- what Add of a clause tells, and what the clause is -/
inductive AddsO (T : Trl) (c : List Int) (K I : Nat) (U : Int) (T' : Trl) : Prop
  | alw (ha : alwL c = true) (hk : K = 4) (ht : T' = T)
  | unit (ha : alwL c = false) (hi : I = 3) (hk : K = 2) (ho : T'.order = T.order ++ [U]) (hs : T'.starts = T.starts) (hl : T'.level (litV U : Nat) = (T.starts.length : Int) - 1) (hr : T'.reason (litV U : Nat) = 1)
  | fails (ha : alwL c = false) (hi : I = 2) (hk : K = 3) (ht : T' = T)
  | rests (ha : alwL c = false) (hi : I ≠ 2 ∧ I ≠ 3) (hk : K = 1) (ht : T' = T)
end Go.Proofs.YtoojmhjagipmdaaGreat
