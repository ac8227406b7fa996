/- The arena in memory: at (a binary search over the entries). -/
import Derived.Test.YtiodfolcnnkdjaaTc
namespace Go.Proofs.Ytiodfolcnnkdjaa
open Go.RowKit

/-- an entry of an arena -/
structure Ent where
  fr : Nat
  upto : Nat
  id : Int
  gone : Bool
def Ent.cells (e : Ent) : List Value := [.int .i64 (e.fr : Nat), .int .i64 (e.upto : Nat), .int .i64 e.id, .bool e.gone]
structure Arn where
  store : List Int
  all : List Ent
  used : Nat
  count : Nat
  last : Int
structure ArMem (O : Nat → Prop) (w : World) (b : Nat) (A : Arn) (stv alv : Value) : Prop where
  own : ∀ g, O g → g < w.heap.size
  inb : O b
  block : w.heap[b]? = some (.cells #[stv, alv, .int .i64 (A.used : Nat), .int .i64 (A.count : Nat), .int .i64 A.last, .bool true] 79 (0, 0))
  store : w.ownsRow 0 26 1 stv A.store.length (A.store.map (Value.int .i64))
  storeb : ∀ g, stv.ownBlock = some g → O g
  all : w.ownsRow 0 87 4 alv A.all.length (A.all.flatMap Ent.cells)
  allb : ∀ g, alv.ownBlock = some g → O g
/-- bounds that every arena keeps -/
structure Arn.Ok (A : Arn) : Prop where
  sorted : A.all.Pairwise fun x y => x.id < y.id
  each : ∀ e ∈ A.all, 1 ≤ e.id ∧ e.id ≤ 1073741824 ∧ e.fr ≤ e.upto ∧ e.upto ≤ A.store.length
  lens : A.all.length ≤ 1073741824 ∧ A.store.length ≤ 4194304
  nums : A.used ≤ 1048576 ∧ A.count ≤ 1073741824 ∧ 0 ≤ A.last ∧ A.last ≤ 1073741824
  last : ∀ e ∈ A.all, e.id ≤ A.last
def ArAt (O : Nat → Prop) (w : World) (b : Nat) (A : Arn) : Prop := A.Ok ∧ ∃ stv alv, ArMem O w b A stv alv
theorem ArMem.kept {O O' : Nat → Prop} {w w' : World} {b : Nat} {A : Arn} {stv alv : Value} (h : ArMem O w b A stv alv) (k : Kept O' w w') (hO : ∀ g, O g → ¬ O' g) : ArMem O w' b A stv alv where
  own := fun g hg => Nat.lt_of_lt_of_le (h.own g hg) k.size
  inb := h.inb
  block := (k.block b (heap_lt h.block) (hO b h.inb)).trans h.block
  store := own_kept h.store k (fun g hg => hO g (h.storeb g hg))
  storeb := h.storeb
  all := own_kept h.all k (fun g hg => hO g (h.allb g hg))
  allb := h.allb
theorem ArAt.kept {O O' : Nat → Prop} {w w' : World} {b : Nat} {A : Arn} (h : ArAt O w b A) (k : Kept O' w w') (hO : ∀ g, O g → ¬ O' g) : ArAt O w' b A := by
  obtain ⟨hk, stv, alv, h⟩ := h
  exact ⟨hk, stv, alv, h.kept k hO⟩
theorem ArAt.below {O : Nat → Prop} {w w' : World} {b : Nat} {A : Arn} (h : ArAt O w b A) (k : Below w.heap.size w w') : ArAt O w' b A :=
  h.kept (O' := fun _ => False) (Kept.of_below k) (fun _ _ h => h)
theorem entCells_at (l : List Ent) (i j : Nat) (x : Ent) (h : l[i]? = some x) (hj : j < 4) : (l.flatMap Ent.cells)[i * 4 + j]? = x.cells[j]? := by
  induction l generalizing i with
  | nil => simp at h
  | cons y l ih =>
    rw [List.flatMap_cons]
    cases i with
    | zero =>
      obtain rfl : y = x := by simpa using h
      rw [Nat.zero_mul, Nat.zero_add, List.getElem?_append_left (by simpa [Ent.cells] using hj)]
    | succ i =>
      rw [List.getElem?_append_right (by simp [Ent.cells]; omega)]
      have e : (i + 1) * 4 + j - y.cells.length = i * 4 + j := by simp [Ent.cells]; omega
      rw [e]
      exact ih i (by simpa using h)
theorem ent_row {w : World} {g n c i : Nat} {l : List Ent} {x : Ent} (h : w.ownsRow 0 87 4 (.slice (some ⟨g, 0, none⟩) n c) n (l.flatMap Ent.cells)) (hx : l[i]? = some x) :
    w.cell? ⟨g, i * 4, none⟩ = some (.int .i64 (x.fr : Nat)) ∧ w.cell? ⟨g, i * 4 + 1, none⟩ = some (.int .i64 (x.upto : Nat)) ∧ w.cell? ⟨g, i * 4 + 2, none⟩ = some (.int .i64 x.id) ∧ w.cell? ⟨g, i * 4 + 3, none⟩ = some (.bool x.gone) :=
  ⟨mx_at h (j := i * 4 + 0) (by rw [entCells_at _ i 0 x hx (by omega)]; rfl), mx_at h (by rw [entCells_at _ i 1 x hx (by omega)]; rfl), mx_at h (by rw [entCells_at _ i 2 x hx (by omega)]; rfl), mx_at h (by rw [entCells_at _ i 3 x hx (by omega)]; rfl)⟩
/-- the first entry whose number is at least a number -/
def posOf : List Ent → Int → Nat
  | [], _ => 0
  | e :: l, id => if e.id < id then posOf l id + 1 else 0
theorem posOf_eq (l : List Ent) (id : Int) (p : Nat) (hp : p ≤ l.length) (h1 : ∀ k e, k < p → l[k]? = some e → e.id < id) (h2 : ∀ e, l[p]? = some e → id ≤ e.id) : posOf l id = p := by
  induction l generalizing p with
  | nil =>
    simp only [List.length_nil] at hp
    unfold posOf
    omega
  | cons e l ih =>
    unfold posOf
    cases p with
    | zero =>
      rw [if_neg]
      have := h2 e rfl
      omega
    | succ p =>
      rw [if_pos (h1 0 e (by omega) rfl), ih p (by simpa using hp) (fun k x hk hx => h1 (k + 1) x (by omega) (by simpa using hx)) (fun x hx => h2 x (by simpa using hx))]
theorem sorted_lt {l : List Ent} (h : l.Pairwise fun x y => x.id < y.id) {i j : Nat} {x y : Ent} (hi : l[i]? = some x) (hj : l[j]? = some y) (hij : i < j) : x.id < y.id := by
  have hi' := List.getElem?_eq_some_iff.1 hi
  have hj' := List.getElem?_eq_some_iff.1 hj
  have := List.pairwise_iff_getElem.1 h i j hi'.1 hj'.1 hij
  rw [hi'.2, hj'.2] at this
  exact this
set_option maxHeartbeats 1000000 in
theorem ar_cmp (e : Ent) (id : Int) (w : World) (h1 : 0 ≤ e.id) (h2 : e.id ≤ 1073741824) (h3 : 0 ≤ id) (h4 : id ≤ 1073741825) :
    Calls Try.prog 93 #[.agg #[.int .i64 (e.fr : Nat), .int .i64 (e.upto : Nat), .int .i64 e.id, .bool e.gone], .int .i64 id] w fun r w' => r = .returned (.int .i64 (e.id - id)) ∧ Below w.heap.size w w' := by
  obtain ⟨fr, up, eid, gone⟩ := e
  simp only [] at h1 h2 ⊢
  obtain ⟨wb, hwb⟩ : ∃ x, w.alloc (.cells #[.int .i64 (fr : Nat), .int .i64 (up : Nat), .int .i64 eid, .bool gone] 87) = x := ⟨_, rfl⟩
  have hb : Below w.heap.size w wb := by rw [← hwb]; exact mx_al _ _
  have hn : wb.heap[w.heap.size]? = some (.cells #[.int .i64 (fr : Nat), .int .i64 (up : Nat), .int .i64 eid, .bool gone] 87 (0, 0)) := by rw [← hwb]; exact World.alloc_heap_new _ _
  have c2 : wb.cell? ⟨w.heap.size, 2, none⟩ = some (.int .i64 eid) := mx_cell (j := 2) hn
  have hw : IntKind.i64.wrap (eid - id) = eid - id := IntWalk.i64_in _ (by omega)
  have HB := Lib.hid hb
  clear hn hb
  go_enter Try.func93, Try.ntmps93
  go_wp2_with fail
  go_ret
  exact ⟨rfl, HB.out⟩
end Go.Proofs.Ytiodfolcnnkdjaa
