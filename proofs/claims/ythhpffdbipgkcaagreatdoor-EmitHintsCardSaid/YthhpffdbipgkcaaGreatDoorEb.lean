/- Logs (package emit) in memory: New, Has, Last, Count, Done. -/
import Derived.Test.YthhpffdbipgkcaaGreatDoorEa
namespace Go.Proofs.YthhpffdbipgkcaaGreatDoor
open Go.RowKit

/-- a step of a proof -/
structure EStep where
  del : Bool
  id : Int
  lits : List Int
  hints : List Int
/-- a log -/
structure ELog where
  last : Nat
  count : Nat
  gone : List Int
  steps : List EStep
  done : Bool
def goneF (l : List Int) (x : Int) : Int := if l.contains x then 1 else 0
def ELog.has (L : ELog) (x : Int) : Bool := decide (1 ≤ x ∧ x ≤ L.last) && !L.gone.contains x
/-- a step as memory holds it -/
structure MStep where
  lv : Value
  hv : Value
  s : EStep
def MStep.cells (m : MStep) : List Value := [.bool m.s.del, .int .i64 m.s.id, m.lv, m.hv]
structure MStep.At (O : Nat → Prop) (w : World) (m : MStep) : Prop where
  lits : w.ownsRow 0 45 1 m.lv m.s.lits.length (m.s.lits.map (Value.int .i64))
  litb : ∀ g, m.lv.ownBlock = some g → O g
  hints : w.ownsRow 0 3 1 m.hv m.s.hints.length (m.s.hints.map (Value.int .i64))
  block : ∀ g, m.hv.ownBlock = some g → O g
theorem MStep.At.mono {O O' : Nat → Prop} {w : World} {m : MStep} (h : m.At O w) (hO : ∀ g, O g → O' g) : m.At O' w := ⟨h.lits, fun g hg => hO g (h.litb g hg), h.hints, fun g hg => hO g (h.block g hg)⟩
theorem MStep.At.kept {O O' : Nat → Prop} {w w' : World} {m : MStep} (h : m.At O w) (k : Kept O' w w') (hO : ∀ g, O g → ¬ O' g) : m.At O w' :=
  ⟨own_kept h.lits k (fun g hg => hO g (h.litb g hg)), h.litb, own_kept h.hints k (fun g hg => hO g (h.block g hg)), h.block⟩
/-- .. by what touches only blocks of another type -/
theorem MStep.At.typed {O O' : Nat → Prop} {w w' : World} {m : MStep} (h : m.At O w) (k : Kept O' w w') (hO : ∀ g c t, w.heap[g]? = some (.cells c t (0, 0)) → O' g → t ≠ 45 ∧ t ≠ 3) : m.At O w' :=
  ⟨own_kept h.lits k (fun g hg ho => by obtain ⟨c, hc⟩ := own_type h.lits g hg; exact (hO g c _ hc ho).1 rfl), h.litb, own_kept h.hints k (fun g hg ho => by obtain ⟨c, hc⟩ := own_type h.hints g hg; exact (hO g c _ hc ho).2 rfl), h.block⟩
/-- the block of a log, its map's, its steps' slice and what it holds -/
structure LogMem (O : Nat → Prop) (w : World) (b : Nat) (L : ELog) (mb : Nat) (sv : Value) (ms : List MStep) : Prop where
  own : ∀ g, O g → g < w.heap.size
  inb : O b
  inm : O mb
  block : w.heap[b]? = some (.cells #[.int .i64 L.last, .int .i64 L.count, .map (some mb), sv, .bool L.done] 53 (0, 0))
  map : MapAt w mb L.gone.length (goneF L.gone)
  row : w.ownsRow 0 71 4 sv ms.length (ms.flatMap MStep.cells)
  rowb : ∀ g, sv.ownBlock = some g → O g
  steps : ms.map MStep.s = L.steps
  each : ∀ m ∈ ms, m.At O w
  apart : ms.Pairwise fun x y => ∀ g, x.hv.ownBlock = some g → y.hv.ownBlock ≠ some g
def LogAt (O : Nat → Prop) (w : World) (b : Nat) (L : ELog) : Prop := ∃ mb sv ms, LogMem O w b L mb sv ms
theorem LogMem.kept {O O' : Nat → Prop} {w w' : World} {b : Nat} {L : ELog} {mb : Nat} {sv : Value} {ms : List MStep} (h : LogMem O w b L mb sv ms) (k : Kept O' w w') (hO : ∀ g, O g → ¬ O' g) : LogMem O w' b L mb sv ms where
  own := fun g hg => Nat.lt_of_lt_of_le (h.own g hg) k.size
  inb := h.inb
  inm := h.inm
  block := (k.block b (heap_lt h.block) (hO b h.inb)).trans h.block
  map := h.map.kept k (hO mb h.inm)
  row := own_kept h.row k (fun g hg => hO g (h.rowb g hg))
  rowb := h.rowb
  steps := h.steps
  each := fun m hm => (h.each m hm).kept k hO
  apart := h.apart
theorem LogAt.kept {O O' : Nat → Prop} {w w' : World} {b : Nat} {L : ELog} (h : LogAt O w b L) (k : Kept O' w w') (hO : ∀ g, O g → ¬ O' g) : LogAt O w' b L := by
  obtain ⟨mb, sv, ms, h⟩ := h
  exact ⟨mb, sv, ms, h.kept k hO⟩
theorem LogAt.below {O : Nat → Prop} {w w' : World} {b : Nat} {L : ELog} (h : LogAt O w b L) (k : Below w.heap.size w w') : LogAt O w' b L :=
  h.kept (O' := fun _ => False) (Kept.of_below k) (fun _ _ h => h)
theorem cell_of_block {w : World} {b j : Nat} {cs : Array Value} {t : TypeId} {fz : Nat × Nat} (h : w.heap[b]? = some (.cells cs t fz)) : w.cell? ⟨b, j, none⟩ = cs[j]? := by
  simp [World.cell?, h]
theorem free_of_block {w : World} {b j : Nat} {cs : Array Value} {t : TypeId} (h : w.heap[b]? = some (.cells cs t (0, 0))) : w.frozen? ⟨b, j, none⟩ = false := by
  simp [World.frozen?, h]
structure LogCells (w : World) (b : Nat) (L : ELog) (mb : Nat) (sv : Value) : Prop where
  c0 : w.cell? ⟨b, 0, none⟩ = some (.int .i64 L.last)
  c1 : w.cell? ⟨b, 1, none⟩ = some (.int .i64 L.count)
  c2 : w.cell? ⟨b, 2, none⟩ = some (.map (some mb))
  c3 : w.cell? ⟨b, 3, none⟩ = some sv
  c4 : w.cell? ⟨b, 4, none⟩ = some (.bool L.done)
theorem LogMem.cells {O : Nat → Prop} {w : World} {b : Nat} {L : ELog} {mb : Nat} {sv : Value} {ms : List MStep} (h : LogMem O w b L mb sv ms) : LogCells w b L mb sv :=
  ⟨(cell_of_block h.block).trans rfl, (cell_of_block h.block).trans rfl, (cell_of_block h.block).trans rfl, (cell_of_block h.block).trans rfl, (cell_of_block h.block).trans rfl⟩
theorem goneF_eq (l : List Int) (x : Int) : (goneF l x == 0) = !l.contains x := by
  unfold goneF
  cases l.contains x <;> simp

set_option maxRecDepth 100000 in
set_option maxHeartbeats 1000000 in
theorem log_has {O : Nat → Prop} (b : Nat) (L : ELog) (x : Int) (w : World) (h : LogAt O w b L) (hx : (Lit.int .i64 x).wf = true) :
    Calls Tryz.prog 31 #[.pointer (some ⟨b, 0, none⟩), .int .i64 x] w fun e w' => e = .returned (.bool (L.has x)) ∧ w = w' := by
  obtain ⟨mb, sv, ms, h⟩ := h
  obtain ⟨c0, c1, c2, c3, c4⟩ := h.cells
  have hlk := h.map.lookup hx
  have hg := goneF_eq L.gone x
  clear h c1 c3 c4
  obtain ⟨bb, hb⟩ : ∃ bb, L.has x = bb := ⟨_, rfl⟩
  unfold ELog.has at hb
  rw [show L.has x = bb from hb]
  by_cases h1 : 1 ≤ x
  · have h1' : decide (1 ≤ x) = true := by simpa using h1
    by_cases h2 : x ≤ (L.last : Int)
    · have h2' : decide (x ≤ (L.last : Int)) = true := by simpa using h2
      rw [decide_eq_true ⟨h1, h2⟩, Bool.true_and] at hb
      rw [hb] at hg
      have HB := Lib.hid hb
      clear hb
      go_enter Tryz.func31, Tryz.ntmps31
      go_wp2
      go_ret
      exact ⟨rfl, rfl⟩
    · have h2' : decide (x ≤ (L.last : Int)) = false := by simpa using h2
      rw [decide_eq_false (fun h => h2 h.2), Bool.false_and] at hb
      subst hb
      clear hlk hg
      go_enter Tryz.func31, Tryz.ntmps31
      go_wp2
      go_ret
      exact ⟨rfl, rfl⟩
  · have h1' : decide (1 ≤ x) = false := by simpa using h1
    rw [decide_eq_false (fun h => h1 h.1), Bool.false_and] at hb
    subst hb
    clear hlk hg
    go_enter Tryz.func31, Tryz.ntmps31
    go_wp2
    go_ret
    exact ⟨rfl, rfl⟩
theorem log_last {O : Nat → Prop} (b : Nat) (L : ELog) (w : World) (h : LogAt O w b L) :
    Calls Tryz.prog 12 #[.pointer (some ⟨b, 0, none⟩)] w fun e w' => e = .returned (.int .i64 L.last) ∧ w = w' := by
  obtain ⟨mb, sv, ms, h⟩ := h
  obtain ⟨c0, c1, c2, c3, c4⟩ := h.cells
  clear h c1 c2 c3 c4
  go_enter Tryz.func12, Tryz.ntmps12
  go_wp2
  go_ret
  exact ⟨rfl, rfl⟩
theorem log_count {O : Nat → Prop} (b : Nat) (L : ELog) (w : World) (h : LogAt O w b L) :
    Calls Tryz.prog 14 #[.pointer (some ⟨b, 0, none⟩)] w fun e w' => e = .returned (.int .i64 L.count) ∧ w = w' := by
  obtain ⟨mb, sv, ms, h⟩ := h
  obtain ⟨c0, c1, c2, c3, c4⟩ := h.cells
  clear h c0 c2 c3 c4
  go_enter Tryz.func14, Tryz.ntmps14
  go_wp2
  go_ret
  exact ⟨rfl, rfl⟩
theorem log_done {O : Nat → Prop} (b : Nat) (L : ELog) (w : World) (h : LogAt O w b L) :
    Calls Tryz.prog 13 #[.pointer (some ⟨b, 0, none⟩)] w fun e w' => e = .returned (.bool L.done) ∧ w = w' := by
  obtain ⟨mb, sv, ms, h⟩ := h
  obtain ⟨c0, c1, c2, c3, c4⟩ := h.cells
  clear h c0 c1 c2 c3
  go_enter Tryz.func13, Tryz.ntmps13
  go_wp2
  go_ret
  exact ⟨rfl, rfl⟩
theorem new_bad (n : Int) (w : World) (h : n < 0 ∨ 1048576 < n) :
    Calls Tryz.prog 6 #[.int .i64 n] w fun e w' => e = .returned (.tuple #[.pointer none, .int .i64 2]) ∧ w = w' := by
  rcases h with h | h
  · go_enter Tryz.func6, Tryz.ntmps6
    go_wp2
    go_ret2
    exact ⟨rfl, rfl⟩
  · have h' : ¬ n < 0 := by omega
    go_enter Tryz.func6, Tryz.ntmps6
    go_wp2
    go_ret2
    exact ⟨rfl, rfl⟩
def newLog (n : Nat) : ELog := ⟨n, n, [], [], false⟩
theorem new_ok (n : Nat) (w : World) (h : n ≤ 1048576) :
    Calls Tryz.prog 6 #[.int .i64 (n : Int)] w fun e w' => e = .returned (.tuple #[.pointer (some ⟨w.heap.size + 1, 0, none⟩), .int .i64 0]) ∧ LogAt (fun g => w.heap.size ≤ g ∧ g < w'.heap.size) w' (w.heap.size + 1) (newLog n) ∧ Below w.heap.size w w' := by
  have hmm := @run_makeMap Tryz.prog
  go_enter Tryz.func6, Tryz.ntmps6
  go_wp2
  go_ret2
  refine ⟨rfl, ⟨w.heap.size, .slice none 0 0, [], ⟨fun g hg => hg.2, ⟨by omega, by simp⟩, ⟨by omega, by simp; omega⟩, ?_, ?_, World.ownsRow_nil _ _ _ _, (fun g hg => by cases hg), rfl, (fun m hm => by cases hm), List.Pairwise.nil⟩⟩, ?_⟩
  · have := World.alloc_heap_new (w.alloc (.map #[] 0)) (.cells #[.int .i64 (n : Int), .int .i64 (n : Int), .map (some w.heap.size), .slice none 0 0, .bool false] 53)
    rw [show (w.alloc (.map #[] 0)).heap.size = w.heap.size + 1 by simp] at this
    exact this
  · have := (MapAt.made w).below ((Below.refl _ _).alloc (Nat.le_refl _) (.cells #[.int .i64 (n : Int), .int .i64 (n : Int), .map (some w.heap.size), .slice none 0 0, .bool false] 53))
    exact this
  · exact ((Below.refl _ _).alloc (Nat.le_refl _) _).alloc (by simp) _
end Go.Proofs.YthhpffdbipgkcaaGreatDoor
