/- The trail: New. Clauses in memory. An arena and a trail that are apart, in own blocks; clauses added, calls played. A range over a function that writes rows of its own between rounds, while its rounds write rows of theirs. What comes first of a clause: the watch's iterator. -/
import Derived.Test.YtoojmhjagipmdaaGreatQ03
import Derived.Laws.OwnMore
import Derived.Test.YtoojmhjagipmdaaGreatQ00
import Derived.Test.YtoojmhjagipmdaaGreatQ10
import Derived.Test.YtoojmhjagipmdaaGreatQ05
import Derived.Test.YtoojmhjagipmdaaGreatQ12
import Derived.Test.YtoojmhjagipmdaaGreatQ11
namespace Go.Proofs.YtoojmhjagipmdaaGreat
open Go.RowKit

theorem tinfo_state : (Tryz.prog.info? 150).map (fun i => (i.zero, i.size, i.bytes)) = some (some (.agg #[.int .i64 0, .int .i64 0, .int .i64 0, .int .i64 0]), 4, 32) := by kernel_rfl
theorem made_state (m : Nat) : (madeCells (Value.agg #[.int .i64 0, .int .i64 0, .int .i64 0, .int .i64 0]).cells (m * 4)).toList = (List.replicate m (⟨0, 0, 0, 0⟩ : TV)).flatMap TV.cells := by
  apply List.ext_getElem?
  intro q
  rw [tvCells_div, List.getElem?_replicate, Array.getElem?_toList]
  have hz : (Value.agg #[.int .i64 0, .int .i64 0, .int .i64 0, .int .i64 0]).cells = #[.int .i64 0, .int .i64 0, .int .i64 0, .int .i64 0] := rfl
  rw [hz]
  unfold madeCells
  rw [Array.getElem?_map]
  by_cases hq : q < m * 4
  · rw [if_pos (show q / 4 < m by omega), Array.getElem?_range, if_pos hq]
    have h4 : q % 4 = 0 ∨ q % 4 = 1 ∨ q % 4 = 2 ∨ q % 4 = 3 := by omega
    rcases h4 with e | e | e | e
    all_goals
      show some (#[Value.int .i64 0, .int .i64 0, .int .i64 0, .int .i64 0][q % 4]!) = _
      rw [e]
      rfl
  · rw [if_neg (show ¬ q / 4 < m by omega), Array.getElem?_range, if_neg hq]
    rfl
set_option maxRecDepth 100000 in
set_option maxHeartbeats 1000000 in
theorem tr_new (n : Nat) (w : World) (hn : n ≤ 1048576) :
    Calls Tryz.prog 101 #[.int .i64 (n : Int)] w fun e w' => ∃ b, e = .returned (.tuple #[.pointer (some ⟨b, 0, none⟩), .int .i64 0]) ∧ TrAt (fun g => w.heap.size ≤ g ∧ g < w'.heap.size) w' b ⟨List.replicate (n + 1) ⟨0, 0, 0, 0⟩, [], [0]⟩ ∧ Below w.heap.size w w' := by
  have q0 : decide ((n : Int) < 0) = false := by simp
  have q1 : decide ((1048576 : Int) < (n : Int)) = false := by simp; omega
  obtain ⟨i0, hi0, hz0, hz1, hz2⟩ := info_parts tinfo_state
  obtain ⟨w1, hrun, hown, hgr⟩ := run_make_full (P := Tryz.prog) (w := w) w.heap.size 151 150 i0 _ 4 Tryz.underlying151 hi0 hz0 hz1 .i64 .i64 (n + 1) (by rw [hz2]; omega) (by unfold maxLen; omega) (Nat.le_refl _)
  rw [made_state] at hown
  rw [show ((n + 1 : Nat) : Int) = (n : Int) + 1 from by omega] at hrun
  have hk1 : Below w.heap.size w w1 := (Below.refl _ _).grown hgr (Nat.le_refl _) (fun g hg => by cases hg)
  have HOWN := Lib.hid hown
  have HK1 := Lib.hid hk1
  have hz := hk1.size
  have hg1 := (own_lt hown w.heap.size rfl).2
  clear hown hgr hk1 hi0 hz0 hz1 hz2
  clear i0
  go_enter Tryz.func101, Tryz.ntmps101
  go_wp2_with fail
  obtain ⟨w2, hw2⟩ : ∃ x, w1.alloc (.cells #[.int .i64 0] 3) = x := ⟨_, rfl⟩
  have hb2 : Below w1.heap.size w1 w2 := by rw [← hw2]; exact mx_al _ _
  have ho2 : w2.ownsRow 0 3 1 (.slice (some ⟨w1.heap.size, 0, none⟩) 1 1) 1 [.int .i64 0] := by
    rw [← hw2]
    exact ⟨rfl, .inr ⟨w1.heap.size, 1, #[.int .i64 0], rfl, Nat.zero_le _, World.alloc_heap_new _ _, Nat.le_refl _, by decide, rfl, rfl⟩⟩
  have hz2 : w2.heap.size = w1.heap.size + 1 := by rw [← hw2]; simp
  obtain ⟨w3, hw3⟩ : ∃ x, w2.alloc (.cells #[.slice (some ⟨w.heap.size, 0, none⟩) (n + 1) (n + 1), .slice none 0 0, .slice (some ⟨w1.heap.size, 0, none⟩) 1 1, .bool true] 153) = x := ⟨_, rfl⟩
  have hb3 : Below w2.heap.size w2 w3 := by rw [← hw3]; exact mx_al _ _
  have hn3 : w3.heap[w2.heap.size]? = some (.cells #[.slice (some ⟨w.heap.size, 0, none⟩) (n + 1) (n + 1), .slice none 0 0, .slice (some ⟨w1.heap.size, 0, none⟩) 1 1, .bool true] 153 (0, 0)) := by rw [← hw3]; exact World.alloc_heap_new _ _
  have hz3 : w3.heap.size = w2.heap.size + 1 := by rw [← hw3]; simp
  rw [hw2, hw3]
  go_ret2
  refine ⟨w2.heap.size, by rw [hz2]; rfl, ⟨⟨?_, by simp, by simp, fun s hs => ?_⟩, w.heap.size, n + 1, .slice none 0 0, .slice (some ⟨w1.heap.size, 0, none⟩) 1 1, ⟨fun g hg => hg.2, ⟨by omega, by omega⟩, ⟨Nat.le_refl _, by omega⟩, ?_, ?_, World.ownsRow_nil _ _ _ _, (fun g hg => by cases hg), own_below ho2 hb3, fun g hg => ?_⟩⟩, HK1.out.trans ((hb2.trans (hb3.mono hb2.size)).mono HK1.out.size)⟩
  · show 1 ≤ (List.replicate (n + 1) _).length ∧ (List.replicate (n + 1) _).length ≤ 1048577
    rw [List.length_replicate]
    omega
  · rw [List.eq_of_mem_replicate hs]
    exact .inl rfl
  · show w3.heap[w2.heap.size]? = some (.cells #[.slice _ (List.replicate (n + 1) _).length _, _, _, _] _ _)
    rw [List.length_replicate]
    exact hn3
  · show w3.ownsRow 0 _ 4 (.slice _ (List.replicate (n + 1) _).length _) (List.replicate (n + 1) _).length _
    rw [List.length_replicate]
    exact own_mono (own_below (own_below HOWN.out hb2) hb3) (Nat.zero_le _)
  · obtain rfl : w1.heap.size = g := Option.some.inj hg
    omega
end Go.Proofs.YtoojmhjagipmdaaGreat
namespace Go.Proofs.YtoojmhjagipmdaaGreat
open Go.RowKit

/-- clauses in memory -/
def ClsAt (w : World) (v : Value) (cs : List (List Int)) : Prop :=
  ∃ A c, v = .slice A cs.length c ∧ ∀ i xs, cs[i]? = some xs → ∃ g o u, A = some ⟨g, o, none⟩ ∧ g < w.heap.size ∧ w.cell? ⟨g, o + i, none⟩ = some u ∧ IntsIn (fun g => g < w.heap.size) w u xs
theorem ClsAt.below {w w' : World} {v : Value} {cs : List (List Int)} (h : ClsAt w v cs) (hb : Below w.heap.size w w') : ClsAt w' v cs := by
  obtain ⟨A, c, hv, hx⟩ := h
  refine ⟨A, c, hv, fun i xs hi => ?_⟩
  obtain ⟨g, o, u, h1, h2, h3, h4⟩ := hx i xs hi
  exact ⟨g, o, u, h1, Nat.lt_of_lt_of_le h2 hb.size, (hb.cell (p := ⟨g, o + i, none⟩) h2).trans h3, (h4.below hb).mono (fun g hg => Nat.lt_of_lt_of_le hg hb.size)⟩
theorem ClsAt.nil (w : World) : ClsAt w (.slice none 0 0) [] := ⟨none, 0, rfl, fun i xs h => by simp at h⟩
end Go.Proofs.YtoojmhjagipmdaaGreat
namespace Go.Proofs.YtoojmhjagipmdaaGreat
open Go.RowKit

/-- a call of a trail -/
structure ActP where
  push : Bool
  l : Int
  by_ : Int
def ActsIn (w : World) (v : Value) (acs : List ActP) : Prop :=
  ∃ A c, v = .slice A acs.length c ∧ ∀ i a, acs[i]? = some a → ∃ g o, A = some ⟨g, o, none⟩ ∧ g < w.heap.size ∧ w.cell? ⟨g, o + i * 3, none⟩ = some (.bool a.push) ∧ w.cell? ⟨g, o + i * 3 + 1, none⟩ = some (.int .i64 a.l) ∧ w.cell? ⟨g, o + i * 3 + 2, none⟩ = some (.int .i64 a.by_)
theorem ActsIn.below {w w' : World} {v : Value} {acs : List ActP} (h : ActsIn w v acs) (hb : Below w.heap.size w w') : ActsIn w' v acs := by
  obtain ⟨A, c, hv, hx⟩ := h
  refine ⟨A, c, hv, fun i a hi => ?_⟩
  obtain ⟨g, o, h1, h2, h3, h4, h5⟩ := hx i a hi
  exact ⟨g, o, h1, Nat.lt_of_lt_of_le h2 hb.size, (hb.cell (p := ⟨g, o + i * 3, none⟩) h2).trans h3, (hb.cell (p := ⟨g, o + i * 3 + 1, none⟩) h2).trans h4, (hb.cell (p := ⟨g, o + i * 3 + 2, none⟩) h2).trans h5⟩
theorem ActsIn.nil (w : World) : ActsIn w (.slice none 0 0) [] := ⟨none, 0, rfl, fun i xs h => by simp at h⟩
def Arn.put (A : Arn) (id : Int) (c : List Int) : Arn := if clauseB c = true then A.add id c else A
def addAll : Arn → Nat → List (List Int) → Arn
  | A, _, [] => A
  | A, i, c :: cs => addAll (A.put ((i : Int) + 1) c) (i + 1) cs
def Trl.play (T : Trl) (a : ActP) : Trl := if a.push = true then T.push else T.assigned a.l a.by_
def playAll : Trl → List ActP → Trl
  | T, [] => T
  | T, a :: acs => playAll (T.play a) acs
def arn0 : Arn := ⟨[], [], 0, 0, 0⟩
def trl0 (n : Nat) : Trl := ⟨List.replicate (n + 1) ⟨0, 0, 0, 0⟩, [], [0]⟩
structure Arn.Low (A : Arn) (k : Nat) : Prop where
  last : A.last ≤ (k : Int)
  used : A.used ≤ k * 1000
  store : A.store.length ≤ k * 1000
  all : A.all.length ≤ k
  count : A.count ≤ k
theorem Arn.Low.next {A : Arn} {k : Nat} (h : A.Low k) (c : List Int) (hc : c.length ≤ 1000) : (A.put ((k : Int) + 1) c).Low (k + 1) := by
  obtain ⟨h1, h2, h3, h4, h5⟩ := h
  have e : (k + 1) * 1000 = k * 1000 + 1000 := Nat.succ_mul k 1000
  have u1 : A.used + c.length ≤ (k + 1) * 1000 := e ▸ Nat.add_le_add h2 hc
  have u2 : A.store.length + c.length ≤ (k + 1) * 1000 := e ▸ Nat.add_le_add h3 hc
  have v1 : A.used ≤ (k + 1) * 1000 := Nat.le_trans (Nat.le_add_right _ _) u1
  have v2 : A.store.length ≤ (k + 1) * 1000 := Nat.le_trans (Nat.le_add_right _ _) u2
  clear e h2 h3
  unfold Arn.put
  split
  · refine ⟨?_, u1, ?_, ?_, ?_⟩
    · simp [Arn.add]
    · simp only [Arn.add, List.length_append]
      exact u2
    · simp only [Arn.add, List.length_append, List.length_cons, List.length_nil]
      exact Nat.succ_le_succ h4
    · simp only [Arn.add]
      exact Nat.succ_le_succ h5
  · exact ⟨by clear u1 u2 v1 v2; omega, v1, v2, Nat.le_succ_of_le h4, Nat.le_succ_of_le h5⟩
structure Trl.Low (T : Trl) (k : Nat) : Prop where
  order : T.order.length ≤ k
  starts : T.starts.length ≤ k + 1
theorem Trl.Low.next {T : Trl} {k : Nat} (h : T.Low k) (a : ActP) : (T.play a).Low (k + 1) := by
  obtain ⟨h1, h2⟩ := h
  unfold Trl.play
  split
  · exact ⟨by simp only [Trl.push]; omega, by simp only [Trl.push, List.length_append, List.length_cons, List.length_nil]; omega⟩
  · unfold Trl.assigned
    split
    · exact ⟨by simp only [Trl.assign, List.length_append, List.length_cons, List.length_nil]; omega, by simp only [Trl.assign]; omega⟩
    · exact ⟨by omega, by omega⟩
/-- an arena and a trail, apart from each other, in blocks of one's own -/
def PutAt (n : Nat) (w : World) (a b : Nat) (A : Arn) (T : Trl) : Prop :=
  n ≤ w.heap.size ∧ ∃ OA OT : Nat → Prop, ArAt OA w a A ∧ TrAt OT w b T ∧ (∀ g, OA g → n ≤ g) ∧ (∀ g, OT g → n ≤ g) ∧ ∀ g, OA g → ¬ OT g
theorem PutAt.below {n : Nat} {w w' : World} {a b : Nat} {A : Arn} {T : Trl} (h : PutAt n w a b A T) (hb : Below w.heap.size w w') : PutAt n w' a b A T := by
  obtain ⟨h0, OA, OT, h1, h2, h3⟩ := h
  exact ⟨Nat.le_trans h0 hb.size, OA, OT, h1.below hb, h2.below hb, h3⟩
theorem ArAt.own {O : Nat → Prop} {w : World} {a : Nat} {A : Arn} (h : ArAt O w a A) : ∀ g, O g → g < w.heap.size := by
  obtain ⟨_, stv, alv, hm⟩ := h
  exact hm.own
theorem TrAt.own {O : Nat → Prop} {w : World} {b : Nat} {T : Trl} (h : TrAt O w b T) : ∀ g, O g → g < w.heap.size := by
  obtain ⟨_, gv, cv, ov, sv, hm⟩ := h
  exact hm.own
theorem PutAt.arena {n : Nat} {w w' : World} {a b : Nat} {A' : Arn} {T : Trl} {OA OT : Nat → Prop} (h0 : n ≤ w.heap.size) (h2 : TrAt OT w b T) (h3 : ∀ g, OA g → n ≤ g) (h4 : ∀ g, OT g → n ≤ g) (h5 : ∀ g, OA g → ¬ OT g) (k : ArNext OA w w' a A') : PutAt n w' a b A' T ∧ Below n w w' := by
  obtain ⟨hA, hk⟩ := k
  have ho := h2.own
  refine ⟨⟨Nat.le_trans h0 hk.size, _, OT, hA, h2.kept hk (fun g hg ha => h5 g ha hg), fun g hg => ?_, h4, fun g hg ht => ?_⟩, hk.below h3 h0⟩
  · rcases hg with hg | hg
    · exact h3 g hg
    · omega
  · rcases hg with hg | hg
    · exact h5 g hg ht
    · have := ho g ht
      omega
theorem PutAt.trail {n : Nat} {w w' : World} {a b : Nat} {A : Arn} {T' : Trl} {OA OT : Nat → Prop} (h0 : n ≤ w.heap.size) (h2 : ArAt OA w a A) (h3 : ∀ g, OA g → n ≤ g) (h4 : ∀ g, OT g → n ≤ g) (h5 : ∀ g, OA g → ¬ OT g) (k : TrNext OT w w' b T') : PutAt n w' a b A T' ∧ Below n w w' := by
  obtain ⟨hT, hk⟩ := k
  have ho := h2.own
  refine ⟨⟨Nat.le_trans h0 hk.size, OA, _, h2.kept hk h5, hT, h3, fun g hg => ?_, fun g hg ht => ?_⟩, hk.below h4 h0⟩
  · rcases hg with hg | hg
    · exact h4 g hg
    · omega
  · rcases ht with ht | ht
    · exact h5 g hg ht
    · have := ho g hg
      omega
theorem put_add {n : Nat} {w : World} {a b : Nat} {A : Arn} {T : Trl} {k : Nat} (cv : Value) (c : List Int) (h : PutAt n w a b A T) (hl : A.Low k) (hk : k < 1000) (hc : IntsIn (fun g => g < w.heap.size) w cv c) (hcl : c.length ≤ 1000) :
    Calls Tryz.prog 92 #[.pointer (some ⟨a, 0, none⟩), .int .i64 ((k : Int) + 1), cv] w fun e w' => (∃ x : Int, e = .returned (.int .i64 x)) ∧ PutAt n w' a b (A.put ((k : Int) + 1) c) T ∧ Below n w w' := by
  obtain ⟨h0, OA, OT, h1, h2, h3, h4, h5⟩ := h
  obtain ⟨l1, l2, l3, l4, l5⟩ := hl
  cases hr : clauseB c with
  | true =>
    have e : A.put ((k : Int) + 1) c = A.add ((k : Int) + 1) c := by unfold Arn.put; rw [if_pos hr]
    rw [e]
    refine (ar_add a A ((k : Int) + 1) cv c w h1 hc hr (by omega) (by omega) (by omega) (by omega) (by omega) (by omega) (by omega)).mono ?_
    rintro e w' ⟨rfl, hn⟩
    exact ⟨⟨_, rfl⟩, PutAt.arena h0 h2 h3 h4 h5 hn⟩
  | false =>
    have e : A.put ((k : Int) + 1) c = A := by unfold Arn.put; rw [if_neg (by rw [hr]; decide)]
    rw [e]
    refine (ar_add_bad a A ((k : Int) + 1) cv c w h1 hc hr (by omega)).mono ?_
    rintro e w' ⟨rfl, rfl⟩
    exact ⟨⟨_, rfl⟩, ⟨h0, OA, OT, h1, h2, h3, h4, h5⟩, Below.refl _ _⟩
theorem put_push {n : Nat} {w : World} {a b : Nat} {A : Arn} {T : Trl} {k : Nat} (h : PutAt n w a b A T) (hl : T.Low k) (hk : k < 1000) :
    Calls Tryz.prog 53 #[.pointer (some ⟨b, 0, none⟩)] w fun e w' => e = .returned (.int .i64 0) ∧ PutAt n w' a b A T.push ∧ Below n w w' := by
  obtain ⟨h0, OA, OT, h1, h2, h3, h4, h5⟩ := h
  have := hl.starts
  refine (tr_push b T w h2 (by omega)).mono ?_
  rintro e w' ⟨rfl, hn⟩
  exact ⟨rfl, PutAt.trail h0 h1 h3 h4 h5 hn⟩
theorem put_assign {n : Nat} {w : World} {a b : Nat} {A : Arn} {T : Trl} {k : Nat} (l r : Int) (h : PutAt n w a b A T) (hl : T.Low k) (hk : k < 1000) :
    Calls Tryz.prog 54 #[.pointer (some ⟨b, 0, none⟩), .int .i64 l, .int .i64 r] w fun e w' => e = .returned (.int .i64 (T.assignErr l r : Nat)) ∧ PutAt n w' a b A (T.assigned l r) ∧ Below n w w' := by
  obtain ⟨h0, OA, OT, h1, h2, h3, h4, h5⟩ := h
  have := hl.order
  refine (tr_assign b T l r w h2 (by omega)).mono ?_
  rintro e w' ⟨rfl, hn⟩
  exact ⟨rfl, PutAt.trail h0 h1 h3 h4 h5 hn⟩
end Go.Proofs.YtoojmhjagipmdaaGreat
namespace Go.Proofs.YtoojmhjagipmdaaGreat
open Go.RowKit Go.Shelf

/-- the blocks that a round has laid, beside those of earlier rounds -/
def addB (B : Nat → Prop) (W W' : World) (g : Nat) : Prop := B g ∨ W.heap.size ≤ g ∧ g < W'.heap.size
/-- what depends on blocks before N and on those of B alone -/
def OwnB {α : Type} (N : Nat) (J : List α → (Nat → Prop) → World → Prop) : Prop :=
  ∀ pre B W W' row, J pre B W → W.grownBy W' row → (∀ r, row = some r → N ≤ r ∧ ¬ B r) → J pre B W'
/-- an iterator's contract -/
def SeqB {α : Type} (P : Program) (g : Nat) (lb : Array Value) (encs : α → Array Value) (X0 : Nat → Prop) (S Sp : List α → Prop) (w : World) : Prop :=
  ∀ (l : Nat) (J Jx : List α → (Nat → Prop) → World → Prop) (W : World), Below w.heap.size w W → OwnB W.heap.size J → OwnB W.heap.size Jx →
    (∀ pre B x W1, J pre B W1 → W.heap.size ≤ W1.heap.size → (∀ g, B g → W.heap.size ≤ g ∧ g < W1.heap.size) → YieldAt Fence.wide 7 P l (encs x) W1 fun e W' =>
      ((e = .returned (.bool true) ∧ J (pre ++ [x]) (addB B W1 W') W') ∨ (e = .returned (.bool false) ∧ Jx (pre ++ [x]) (addB B W1 W') W')) ∧ KpC (fun g => X0 g ∨ B g) W1 W') →
    J [] (fun _ => False) W →
    CallsIn Fence.wide 9 P g (#[.func (.yield l) #[] #[]] ++ lb) W fun e W' => (∃ v, e = .returned v) ∧ ((∃ xs B, S xs ∧ J xs B W') ∨ (∃ pre B, Sp pre ∧ Jx pre B W'))
/-- how a round's body may be left: on, or by an exit -/
def bPost {α : Type} (k : Nat) (X0 : Nat → Prop) (I Ix : List α → (Nat → Prop) → World → Prop) (pre : List α) (B : Nat → Prop) (x : α) (W W' : World) : Exit → Act → World → Prop
  | .normal, _, W3 => KeepsRec W' W3 ∧ KpC (fun g => X0 g ∨ B g) W' W3 ∧ I (pre ++ [x]) (addB B W W3) W3
  | .exit n, _, W3 => n = k ∧ KeepsRec W' W3 ∧ KpC (fun g => X0 g ∨ B g) W' W3 ∧ Ix (pre ++ [x]) (addB B W W3) W3
  | .ret, _, _ => False
  | .goto _, _, _ => False
  | .panic _, _, _ => False
  | .outgrown, _, _ => False
theorem OwnB.putObj {α : Type} {N : Nat} {J : List α → (Nat → Prop) → World → Prop} (h : OwnB N J) {pre : List α} {B : Nat → Prop} {W : World} {l : Nat} (o' : Obj) (hs : J pre B W) (hl : N ≤ l) (hB : ¬ B l) : J pre B (W.putObj l o') :=
  h pre B W _ (some l) hs (grownBy_putObj' W l o') (fun r e => by cases e; exact ⟨hl, hB⟩)
theorem OwnB.alloc {α : Type} {N : Nat} {J : List α → (Nat → Prop) → World → Prop} (h : OwnB N J) {pre : List α} {B : Nat → Prop} {W : World} (o : Obj) (hs : J pre B W) : J pre B (W.alloc o) :=
  h pre B W _ none hs (World.grownBy_alloc W o none) (fun r e => by cases e)
theorem addB_putObj {B : Nat → Prop} {W W3 : World} (l : Nat) (o : Obj) : addB B W (W3.putObj l o) = addB B W W3 := by
  funext g
  unfold addB
  rw [show (W3.putObj l o).heap.size = W3.heap.size by simp]
set_option maxHeartbeats 1000000 in
theorem wpIn_range_B {α : Type} {P : Program} {g : Operand} {ps : Array Tmp} {assign body : Code} {Q : Exit → Act → World → Prop} {a : Act} {w : World} {gf : Nat} {lb : Array Value}
    (hg : a.eval g = .func (.func gf) #[] lb) (eg : ∀ args w, (callFunc gf args).run P w = .ok (.enter gf args) w)
    {encs : α → Array Value} {X0 : Nat → Prop} {S Sp : List α → Prop} {w0 : World} (k : Nat) (hseq : SeqB P gf lb encs X0 S Sp w0) (hb0 : Below w0.heap.size w0 w) (hps : ∀ x, (encs x).size = ps.size)
    (I Ix : List α → (Nat → Prop) → World → Prop) (hI : OwnB w.heap.size I) (hIx : OwnB w.heap.size Ix) (h0 : I [] (fun _ => False) w)
    (Fr : α → Act)
    (hassign : ∀ (l : Nat) (x : α) (W : World) (K : Act → World → Prop), K (Fr x) W →
      assign.wpIn (Fence.wide.inRound l) 7 P (Exit.then K (fun _ _ _ => False)) { tmps := (ps.zip (encs x)).foldl (fun t (p, v) => t.setIfInBounds p v) a.tmps, defers := [] } W)
    (hbody : ∀ (l : Nat) (pre : List α) (B : Nat → Prop) (x : α) (W W' : World), I pre B W → (∀ g, B g → w.heap.size ≤ g ∧ g < W.heap.size) → w.heap.size ≤ W.heap.size → (∀ j, j < w.heap.size → W.heap[j]? = W'.heap[j]?) → (∀ j, B j → W.heap[j]? = W'.heap[j]?) → W'.heap.size = W.heap.size → I pre B W' → body.wpIn (Fence.wide.inRound l) 7 P (bPost k X0 I Ix pre B x W W') (Fr x) W')
    (hdone : ∀ (D : Nat) (xs : List α) (B : Nat → Prop) (W : World), w.heap.size ≤ D → S xs → I xs B W → W.heap[D]? = some (.deferred (some [])) → Q .normal { a with defers := { target := .collected D, args := #[] } :: a.defers } W)
    (hstop : ∀ (D : Nat) (pre : List α) (B : Nat → Prop) (W : World), w.heap.size ≤ D → Sp pre → Ix pre B W → W.heap[D]? = some (.deferred (some [])) → (Code.exit k).wpIn Fence.wide 10 P Q { a with defers := { target := .collected D, args := #[] } :: a.defers } W) :
    (Code.rangeFunc g ps assign body).wpIn Fence.wide 10 P Q a w := by
  refine wpIn_rangeFunc (fun fn hfn => ?_)
  obtain ⟨rec, hrec⟩ : ∃ rec : LoopState → Option Code → Loop, rec = fun st pe => { state := st, pending := pe, fn, tmps := a.tmps, params := ps, assign, body, defers := w.heap.size } := ⟨_, rfl⟩
  obtain ⟨W1, hW1⟩ : ∃ W1, (w.alloc (.deferred (some []))).alloc (.loop (rec .ready none)) = W1 := ⟨_, rfl⟩
  have hz1 : W1.heap.size = w.heap.size + 2 := by rw [← hW1]; simp
  have hL1 : W1.heap[w.heap.size + 1]? = some (.loop (rec .ready none)) := by
    have := World.alloc_heap_new (w.alloc (.deferred (some []))) (.loop (rec .ready none))
    rwa [hW1, World.size_alloc] at this
  have hD1 : W1.heap[w.heap.size]? = some (.deferred (some [])) := by
    rw [← hW1, Below.heap_alloc _ _ _ (by simp)]
    exact World.alloc_heap_new w _
  have hb1 : Below w.heap.size w W1 := by rw [← hW1]; exact (mx_al w _).alloc (by simp) _
  have hI1 : I [] (fun _ => False) W1 := by rw [← hW1]; exact hI.alloc _ (hI.alloc _ h0)
  have turn : ∀ (W3 : World) (r r' : Loop), W3.heap[w.heap.size + 1]? = some (.loop r) → W3.heap[w.heap.size]? = some (.deferred (some [])) → (W3.putObj (w.heap.size + 1) (.loop r')).heap[w.heap.size + 1]? = some (.loop r') ∧ (W3.putObj (w.heap.size + 1) (.loop r')).heap[w.heap.size]? = some (.deferred (some [])) := fun W3 r r' h1 h2 =>
    ⟨World.putObj_heap_same (heap_lt h1), (World.putObj_heap_other (by omega)).trans h2⟩
  have own : ∀ {I : List α → (Nat → Prop) → World → Prop}, OwnB w.heap.size I → ∀ st pe, OwnB W1.heap.size (fun pre B W => I pre B W ∧ W.heap[w.heap.size + 1]? = some (.loop (rec st pe)) ∧ W.heap[w.heap.size]? = some (.deferred (some [])) ∧ ∀ j, B j → W1.heap.size ≤ j) := fun {I} hI st pe pre B W W' row h hg hr => by
    obtain ⟨h1, h2, h3, h4⟩ := h
    refine ⟨hI pre B W W' row h1 hg (fun r e => ⟨by have := (hr r e).1; omega, (hr r e).2⟩), (hg.block _ (heap_lt h2) (fun e => ?_)).trans h2, (hg.block _ (heap_lt h3) (fun e => ?_)).trans h3, h4⟩
    · have := (hr _ e.symm).1
      omega
    · have := (hr _ e.symm).1
      omega
  refine ⟨w.heap.size + 1, [{ target := .collected w.heap.size, args := #[] }], W1, { target := .fn (.func gf) lb, args := #[.func (.yield (w.heap.size + 1)) #[] #[]] }, W1, gf, #[.func (.yield (w.heap.size + 1)) #[] #[]] ++ lb, W1, ?_, ?_, fun _ _ => trivial, ?_, fun h => (by cases h), ?_⟩
  · rw [← hW1, hrec]
    exact run_enterLoop_outer _ _ _ _ _
  · simp only [resolve, hg]
    simp [go_sem]
  · simp [invoke, go_sem, eg]
  refine (hseq (w.heap.size + 1) _ _ W1 (hb0.trans (hb1.mono hb0.size)) (own hI .ready none) (own hIx .done (some (.exit k))) ?_ ⟨hI1, hL1, hD1, fun j h => h.elim⟩).mono ?_
  · rintro pre B x W ⟨hi, hl, hd, hB⟩ hbW hBl
    have hy := run_yield (P := P) (args := encs x) hl (by rw [hrec]; exact hps x)
    rw [hrec] at hy
    refine ⟨fn, _, assign, body, hy, roundIn_of_wpIn hfn (hassign _ x W _ ?_)⟩
    refine ⟨_, run_beginRound hl (by rw [hrec]), ?_⟩
    obtain ⟨hl2, hd2⟩ := turn W _ { rec .ready none with state := .busy } hl hd
    have hnB : ¬ B (w.heap.size + 1) := fun h => by have := hB _ h; omega
    have hk2 := KpC.putObj W (w.heap.size + 1) _ (.loop { rec .ready none with state := .busy }) hl rfl rfl
    refine wpIn_mono (hbody _ pre B x W _ hi (fun j h => ⟨by have := hB j h; omega, (hBl j h).2⟩) (by omega) (fun j hj => (World.putObj_heap_other (by omega)).symm) (fun j hj => (World.putObj_heap_other (by intro e; exact hnB (by first | exact e ▸ hj | exact e.symm ▸ hj))).symm) (by simp) (hI.putObj _ hi (by omega) hnB)) ?_
    rintro e a3 W3 hq
    have hBW : ∀ (W3 : World), (W.putObj (w.heap.size + 1) (.loop { rec .ready none with state := .busy })).heap.size ≤ W3.heap.size → ¬ addB B W W3 (w.heap.size + 1) ∧ ∀ j, addB B W W3 j → W1.heap.size ≤ j := fun W3 _ => ⟨fun h => h.elim hnB (fun h => by have := heap_lt hl; omega), fun j h => h.elim (hB j) (fun h => by omega)⟩
    cases e with
    | normal =>
      obtain ⟨hk3, hkp, hi3⟩ := hq
      have hl3 := hk3 _ _ hl2 rfl rfl
      have hd3 := hk3 _ _ hd2 rfl rfl
      have he := run_endRound (P := P) none hl3
      obtain ⟨hl4, hd4⟩ := turn W3 _ (rec .ready none) hl3 hd3
      have hk4 := KpC.putObj W3 (w.heap.size + 1) _ (.loop (rec .ready none)) hl3 rfl rfl
      obtain ⟨hn3, hb3⟩ := hBW W3 hkp.size
      refine ⟨_, _, he, ?_⟩
      rw [hrec] at hl3 hl4 hd4 hk4 hk2 hkp ⊢
      refine ⟨.inl ⟨rfl, ?_, hl4, hd4, fun j h => hb3 j (by rwa [addB_putObj] at h)⟩, ((hk2.mono (fun j _ h => h.elim)).trans hkp).trans (hk4.mono (fun j _ h => h.elim))⟩
      rw [addB_putObj]
      exact hI.putObj _ hi3 (by omega) hn3
    | exit n =>
      obtain ⟨rfl, hk3, hkp, hi3⟩ := hq
      have hl3 := hk3 _ _ hl2 rfl rfl
      have hd3 := hk3 _ _ hd2 rfl rfl
      have he := run_endRound (P := P) (some (.exit n)) hl3
      obtain ⟨hl4, hd4⟩ := turn W3 _ (rec .done (some (.exit n))) hl3 hd3
      have hk4 := KpC.putObj W3 (w.heap.size + 1) _ (.loop (rec .done (some (.exit n)))) hl3 rfl rfl
      obtain ⟨hn3, hb3⟩ := hBW W3 hkp.size
      refine ⟨_, _, he, ?_⟩
      rw [hrec] at hl3 hl4 hd4 hk4 hk2 hkp ⊢
      refine ⟨.inr ⟨rfl, ?_, hl4, hd4, fun j h => hb3 j (by rwa [addB_putObj] at h)⟩, ((hk2.mono (fun j _ h => h.elim)).trans hkp).trans (hk4.mono (fun j _ h => h.elim))⟩
      rw [addB_putObj]
      exact hIx.putObj _ hi3 (by omega) hn3
    | ret => exact hq.elim
    | goto t => exact hq.elim
    | panic c => exact hq.elim
    | outgrown => exact hq.elim
  · rintro e W2 ⟨⟨v, rfl⟩, ⟨xs, B, hS, hi, hl, hd, hB⟩ | ⟨pre, B, hS, hi, hl, hd, hB⟩⟩
    · have he := run_endLoop (P := P) hl (by rw [hrec]; simp)
      obtain ⟨_, hd4⟩ := turn W2 _ { rec .ready none with state := .exhausted } hl hd
      refine ⟨none, _, ?_, hdone _ xs B _ (Nat.le_refl _) hS (hI.putObj _ hi (by omega) (fun h => by have := hB _ h; omega)) hd4⟩
      rw [hrec] at he ⊢
      exact he
    · have he := run_endLoop (P := P) hl (by rw [hrec]; simp)
      obtain ⟨_, hd4⟩ := turn W2 _ { rec .done (some (.exit k)) with state := .exhausted } hl hd
      refine ⟨some (.exit k), _, ?_, hstop _ pre B _ (Nat.le_refl _) hS (hIx.putObj _ hi (by omega) (fun h => by have := hB _ h; omega)) hd4⟩
      rw [hrec] at he ⊢
      exact he
/-- the same where a round's exit leads to what comes behind -/
theorem wpIn_range_BE {α : Type} {P : Program} {g : Operand} {ps : Array Tmp} {assign body : Code} {Q : Exit → Act → World → Prop} {a : Act} {w : World} {gf : Nat} {lb : Array Value}
    (hg : a.eval g = .func (.func gf) #[] lb) (eg : ∀ args w, (callFunc gf args).run P w = .ok (.enter gf args) w)
    {encs : α → Array Value} {X0 : Nat → Prop} {S Sp : List α → Prop} {w0 : World} (k : Nat) (hseq : SeqB P gf lb encs X0 S Sp w0) (hb0 : Below w0.heap.size w0 w) (hps : ∀ x, (encs x).size = ps.size)
    (I Ix : List α → (Nat → Prop) → World → Prop) (hI : OwnB w.heap.size I) (hIx : OwnB w.heap.size Ix) (h0 : I [] (fun _ => False) w)
    (Fr : α → Act)
    (hassign : ∀ (l : Nat) (x : α) (W : World) (K : Act → World → Prop), K (Fr x) W →
      assign.wpIn (Fence.wide.inRound l) 7 P (Exit.then K (fun _ _ _ => False)) { tmps := (ps.zip (encs x)).foldl (fun t (p, v) => t.setIfInBounds p v) a.tmps, defers := [] } W)
    (hbody : ∀ (l : Nat) (pre : List α) (B : Nat → Prop) (x : α) (W W' : World), I pre B W → (∀ g, B g → w.heap.size ≤ g ∧ g < W.heap.size) → w.heap.size ≤ W.heap.size → (∀ j, j < w.heap.size → W.heap[j]? = W'.heap[j]?) → (∀ j, B j → W.heap[j]? = W'.heap[j]?) → W'.heap.size = W.heap.size → I pre B W' → body.wpIn (Fence.wide.inRound l) 7 P (bPost k X0 I Ix pre B x W W') (Fr x) W')
    (Fin : List α → World → Prop) (hf1 : ∀ xs B W, S xs → I xs B W → Fin xs W) (hf2 : ∀ pre B W, Sp pre → Ix pre B W → Fin pre W)
    (hexit : ∀ a W, Q .normal a W → (Code.exit k).wpIn Fence.wide 10 P Q a W)
    (hend : ∀ (D : Nat) (xs : List α) (W : World), w.heap.size ≤ D → Fin xs W → W.heap[D]? = some (.deferred (some [])) → Q .normal { a with defers := { target := .collected D, args := #[] } :: a.defers } W) :
    (Code.rangeFunc g ps assign body).wpIn Fence.wide 10 P Q a w :=
  wpIn_range_B hg eg k hseq hb0 hps I Ix hI hIx h0 Fr hassign hbody (fun D xs B W h1 h2 h3 h4 => hend D xs W h1 (hf1 xs B W h2 h3) h4) (fun D pre B W h1 h2 h3 h4 => hexit _ _ (hend D pre W h1 (hf2 pre B W h2 h3) h4))
end Go.Proofs.YtoojmhjagipmdaaGreat
namespace Go.Proofs.YtoojmhjagipmdaaGreat
open Go.RowKit Go.Maps Go.Shelf
attribute [local go_sem] Oper.semAt_some

def fv1 (x : Int) : Array Value := #[.int .i64 x]
theorem grown_below {w w' : World} (h : Below w.heap.size w w') (row : Option Nat) : w.grownBy w' row := ⟨h.os, h.tape, h.output, h.size, fun i hi _ => h.block i hi⟩
theorem grown_kept {w w' : World} {row : Option Nat} (h : Kept (fun g => row = some g) w w') : w.grownBy w' row := ⟨h.os, h.tape, h.output, h.size, fun i hi hn => h.block i hi (fun e => hn e.symm)⟩
/-- what the iterator has done, in the midst: its row of literals that are false, its rounds' blocks -/
structure FiSt (X0 : Nat → Prop) (W wr : World) (J : List Int → (Nat → Prop) → World → Prop) (fv : Value) (fs pre : List Int) (B : Nat → Prop) : Prop where
  row : wr.ownsRow W.heap.size 32 1 fv fs.length (fs.map (Value.int .i64))
  free : ∀ g, fv.ownBlock = some g → ¬ B g
  inv : J pre B wr
  kp : KpC (fun g => X0 g ∨ W.heap.size ≤ g) W wr
  bs : ∀ g, B g → W.heap.size ≤ g ∧ g < wr.heap.size
section
variable {X0 : Nat → Prop} {W wr w' : World} {J : List Int → (Nat → Prop) → World → Prop} {fv : Value} {fs pre : List Int} {B : Nat → Prop}
theorem FiSt.below (h : FiSt X0 W wr J fv fs pre B) (hJ : OwnB W.heap.size J) (hb : Below wr.heap.size wr w') : FiSt X0 W w' J fv fs pre B :=
  ⟨own_below h.row hb, h.free, hJ _ _ _ _ none h.inv (grown_below hb none) (fun r e => by cases e), h.kp.trans (KpC.of_below hb), fun g hg => ⟨(h.bs g hg).1, Nat.lt_of_lt_of_le (h.bs g hg).2 hb.size⟩⟩
/-- the row is written -/
theorem FiSt.write (h : FiSt X0 W wr J fv fs pre B) (hJ : OwnB W.heap.size J) {fv' : Value} {fs' : List Int} (hg : wr.grownBy w' fv.ownBlock) (hr : w'.ownsRow W.heap.size 32 1 fv' fs'.length (fs'.map (Value.int .i64))) (hv : fv'.ownBlock = fv.ownBlock ∨ ∃ g, fv'.ownBlock = some g ∧ wr.heap.size ≤ g) : FiSt X0 W w' J fv' fs' pre B := by
  refine ⟨hr, fun g e => ?_, hJ _ _ _ _ _ h.inv hg (fun r e => ⟨(own_lt h.row r e).1, h.free r e⟩), h.kp.trans ((KpC.of_grown hg).mono (fun g _ e => .inr (own_lt h.row g e.symm).1)), fun g hg' => ⟨(h.bs g hg').1, Nat.lt_of_lt_of_le (h.bs g hg').2 hg.size⟩⟩
  rcases hv with e' | ⟨g', e', hge⟩
  · exact h.free g (e' ▸ e)
  · intro hb
    have := (h.bs g hb).2
    rw [e'] at e
    obtain rfl := Option.some.inj e
    omega
/-- a round has been -/
theorem FiSt.round (h : FiSt X0 W wr J fv fs pre B) (hX : ∀ g, X0 g → g < W.heap.size) {J' : List Int → (Nat → Prop) → World → Prop} {x : Int} (hj : J' (pre ++ [x]) (addB B wr w') w') (hk : KpC (fun g => X0 g ∨ B g) wr w') : FiSt X0 W w' J' fv fs (pre ++ [x]) (addB B wr w') := by
  refine ⟨own_kept h.row hk.kept (fun g hg ho => ?_), fun g hg hb => ?_, hj, h.kp.trans (hk.mono (fun g _ e => e.imp_right (fun e => (h.bs g e).1))), fun g hg => ?_⟩
  · rcases ho with (e | e) | e
    · have := hX g e
      have := (own_lt h.row g hg).1
      omega
    · exact h.free g hg e
    · obtain ⟨c, hc⟩ := own_type h.row g hg
      exact xo_cells hc e
  · rcases hb with e | e
    · exact h.free g hg e
    · have := (own_lt h.row g hg).2
      omega
  · rcases hg with e | e
    · exact ⟨(h.bs g e).1, Nat.lt_of_lt_of_le (h.bs g e).2 hk.size⟩
    · have := h.kp.size
      exact ⟨by omega, e.2⟩
end
theorem filter_snoc {p : Int → Bool} {xs : List Int} {k : Nat} {x : Int} (hx : xs[k]? = some x) : (xs.take (k + 1)).filter p = if p x = true then (xs.take k).filter p ++ [x] else (xs.take k).filter p := by
  rw [List.take_add_one, hx]
  simp only [Option.toList_some, List.filter_append]
  split
  · rename_i h
    rw [List.filter_cons_of_pos h]
    rfl
  · rename_i h
    rw [List.filter_cons_of_neg h]
    simp
set_option maxRecDepth 100000 in
set_option maxHeartbeats 4000000 in
theorem first1_in {O Ot X0 : Nat → Prop} (b tb Bl Bw : Nat) (T : Trl) (lv : Value) (xs : List Int) (w : World) (hT : TrAt Ot w tb T) (hBl : w.cell? ⟨Bl, 0, none⟩ = some lv) (hl : IntsIn O w lv xs) (hBw : w.cell? ⟨Bw, 0, none⟩ = some (.pointer (some ⟨b, 0, none⟩))) (hc1 : w.cell? ⟨b, 1, none⟩ = some (.pointer (some ⟨tb, 0, none⟩)))
    (hX : ∀ g, X0 g → g < w.heap.size ∧ g ≠ Bl ∧ g ≠ Bw ∧ g ≠ b ∧ ¬ Ot g ∧ ¬ O g) (hn : xs.length < 20) :
    SeqB Tryz.prog 144 #[.pointer (some ⟨Bl, 0, none⟩), .pointer (some ⟨Bw, 0, none⟩)] fv1 X0 (fun ys => ys = T.first xs) (fun pre => pre <+: T.first xs) w := by
  intro l J Jx W hb hJ hJx hY h0
  have hl0 : Bl < w.heap.size := World.block_lt_of_cell? w _ hBl
  have hl1 : Bw < w.heap.size := World.block_lt_of_cell? w _ hBw
  have hl2 : b < w.heap.size := World.block_lt_of_cell? w _ hc1
  have hwW := hb.size
  have c0 := (hb.cell (p := ⟨Bl, 0, none⟩) hl0).trans hBl
  have HC1 := Lib.hid ((hb.cell (p := ⟨Bw, 0, none⟩) hl1).trans hBw)
  have HC2 := Lib.hid ((hb.cell (p := ⟨b, 1, none⟩) hl2).trans hc1)
  have HT := Lib.hid (show TrAt Ot W tb T from hT.below hb)
  have HOT := Lib.hid (show ∀ g, Ot g → ¬ (X0 g ∨ W.heap.size ≤ g) from fun g hg h => h.elim (fun h => (hX g h).2.2.2.2.1 hg) (fun h => by
    have := (hT.below hb).1
    obtain ⟨_, gv, cv, ov, sv, hm⟩ := hT.below hb
    have := hm.own g hg
    omega))
  have HL := Lib.hid (show IntsIn (fun g => (O g ∧ g < w.heap.size) ∧ ¬ XO W g) W lv xs from (hl.lt.below hb).narrow)
  have HXW := Lib.hid (show ∀ g, X0 g → g < W.heap.size from fun g hg => Nat.lt_of_lt_of_le (hX g hg).1 hwW)
  have HXN := Lib.hid (show ∀ g, X0 g → g ≠ Bl ∧ g ≠ Bw ∧ g ≠ b ∧ ¬ O g from fun g hg => ⟨(hX g hg).2.1, (hX g hg).2.2.1, (hX g hg).2.2.2.1, (hX g hg).2.2.2.2.2⟩)
  have HJ := Lib.hid hJ
  have HJX := Lib.hid hJx
  have HY := Lib.hid hY
  have HST := Lib.hid (show FiSt X0 W W J (.slice none 0 0) [] [] (fun _ => False) from ⟨World.ownsRow_nil _ _ _ _, fun g e => (by cases e), h0, KpC.refl _ _, fun g h => h.elim⟩)
  obtain ⟨A, c, hv, _⟩ := hl
  subst hv
  obtain ⟨n, hnn⟩ : ∃ n, xs.length = n := ⟨_, rfl⟩
  have HN := Lib.hid hnn
  rw [hnn] at hn c0 HL
  clear hT hBl hBw hc1 hX hb hJ hJx hY h0 hnn
  refine callsIn_of_wp Tryz.func144 rfl trivial ?_ rfl
  simp only [Tryz.ntmps144, List.size_toArray, List.length_cons, List.length_nil, Nat.reduceAdd, Nat.reduceSub, Array.replicate_succ, Array.replicate_zero, List.push_toArray, List.append_toArray, List.nil_append, List.cons_append]
  gi_wp2
  clear c0
  obtain ⟨i0, hi, hz0, hz1, hz2⟩ := info_parts cinfo_lit
  gi_loopw [4, 11] (fun fvv iv wr => ∃ (k : Nat) (pre : List Int) (B : Nat → Prop), k ≤ n ∧ iv = .int .i64 k ∧ Hid (pre = (xs.take k).filter (fun x => !T.fal x)) ∧ Hid (FiSt X0 W wr J fvv ((xs.take k).filter T.fal) pre B)) (fun _ iv _ => n - (intOf iv).toNat)
  case atStart => exact ⟨0, [], fun _ => False, Nat.zero_le _, rfl, Lib.hid rfl, HST⟩
  case round =>
    obtain ⟨k, pre, B, hk, rfl, HP, HF⟩ := hrel
    obtain ⟨fs, hfs⟩ : ∃ z, (xs.take k).filter T.fal = z := ⟨_, rfl⟩
    rw [hfs] at HF
    obtain ⟨Af, cf, rfl, _⟩ := mx_slice HF.out.row
    have HTR := Lib.hid (HT.out.rounds HF.out.kp HOT.out)
    have hz := HF.out.kp.size
    have d1 : wr.cell? ⟨Bw, 0, none⟩ = some (.pointer (some ⟨b, 0, none⟩)) := (HF.out.kp.kept.cell (p := ⟨Bw, 0, none⟩) (Nat.lt_of_lt_of_le hl1 hwW) (fun h => h.elim (fun h => h.elim (fun h => (HXN.out _ h).2.1 rfl) (fun h => by have h2 : W.heap.size ≤ Bw := h; omega)) (xo_cell HC1.out))).trans HC1.out
    have d2 : wr.cell? ⟨b, 1, none⟩ = some (.pointer (some ⟨tb, 0, none⟩)) := (HF.out.kp.kept.cell (p := ⟨b, 1, none⟩) (Nat.lt_of_lt_of_le hl2 hwW) (fun h => h.elim (fun h => h.elim (fun h => (HXN.out _ h).2.2.1 rfl) (fun h => by have h2 : W.heap.size ≤ b := h; omega)) (xo_cell HC2.out))).trans HC2.out
    by_cases hlt : k < n
    · obtain ⟨y, hy⟩ := getElem_of (l := xs) (i := k) (by rw [HN.out]; exact hlt)
      have hin := HL.out.kept HF.out.kp.kept (fun g hg ho => ho.elim (fun h => h.elim (fun h => (HXN.out _ h).2.2.2 hg.1.1) (fun h => by have := hg.1.2; omega)) hg.2)
      obtain ⟨A', c', hAc, _, _, hxs⟩ := hin
      simp only [Value.slice.injEq] at hAc
      obtain ⟨rfl, hnx, rfl⟩ := hAc
      clear hnx
      obtain ⟨g, o, rfl, hg, _, e0⟩ := hxs k y hy
      have HFA := Lib.hid (wa_false b tb T y wr HTR.out d2)
      have hs1 := filter_snoc (p := fun x => !T.fal x) hy
      have hs2 := filter_snoc (p := T.fal) hy
      have hfl : ((xs.take k).filter T.fal).length ≤ 20 := by
        have := List.length_filter_le T.fal (xs.take k)
        rw [List.length_take] at this
        omega
      rw [hfs] at hs2 hfl
      have hp := HP.out
      rw [← hp] at hs1
      have HFQ := HF
      obtain ⟨q, hq⟩ : ∃ q, T.fal y = q := ⟨_, rfl⟩
      rw [hq] at HFA hs1 hs2
      clear hp hxs hq hfs HF hy
      cases q with
      | true =>
        have HS1 := Lib.hid (show (xs.take (k + 1)).filter (fun x => !T.fal x) = pre from hs1)
        have HS2 := Lib.hid (show (xs.take (k + 1)).filter T.fal = fs ++ [y] from hs2)
        clear hs1 hs2
        gi_wp2_with fail
        refine ⟨trivial, ?_⟩
        refine (callsIn_wide.2 HFA.out).mono ?_
        rintro e w1 ⟨rfl, hb1⟩
        have HF1 := Lib.hid (HFQ.out.below HJ.out hb1)
        have hzz := Nat.le_trans hz hb1.size
        clear hb1 e0 d1 d2
        gi_wp2_with (gi_at_builtin; refine wpListIn_append_own_at _ rfl _ _ 33 rfl W.heap.size 32 i0 (.int .i64 0) 1 8 Tryz.underlying33 hi hz0 hz1 hz2 rfl (by decide) _ fs.length _ rfl (own_below HF1.out.row (mx_al w1 _)) ⟨w1.heap.size, 0, none⟩ 1 1 [.int .i64 y] rfl rfl (cell_one_new' _ _ _) (by simp [Value.oneCell']) (by unfold maxLen; omega) (by omega) (by simp; omega) ?_; intro v' w2 hown hgrow hnl2 hat)
        have HF2 := Lib.hid (show FiSt X0 W w2 J v' (fs ++ [y]) pre B from (HF1.out.below HJ.out (mx_al w1 (.cells #[.int .i64 y] 32))).write HJ.out hgrow (by rw [List.length_append, List.map_append]; exact hown) (hat.imp_right (fun e => ⟨_, e, Nat.le_refl _⟩)))
        clear hown hgrow hnl2 hat
        gi_wp2_with fail
        go_roundw
        case rel =>
          refine ⟨k + 1, pre, B, by omega, by go_num, ?_, ?_⟩
          · rw [HS1.out]
            exact Lib.hid rfl
          · rw [HS2.out]
            exact HF2
        case measure => simp [intOf]; omega
      | false =>
        have HS1 := Lib.hid (show (xs.take (k + 1)).filter (fun x => !T.fal x) = pre ++ [y] from hs1)
        have HS2 := Lib.hid (show (xs.take (k + 1)).filter T.fal = fs from hs2)
        clear hs1 hs2
        gi_wp2_with fail
        refine ⟨trivial, ?_⟩
        refine (callsIn_wide.2 HFA.out).mono ?_
        rintro e w1 ⟨rfl, hb1⟩
        have HF1 := Lib.hid (HFQ.out.below HJ.out hb1)
        have hzz := Nat.le_trans hz hb1.size
        obtain ⟨fn, tmps, assign, body, hy, hR⟩ := yield_any 8 (HY.out pre B y w1 HF1.out.inv hzz HF1.out.bs)
        dsimp only [fv1] at hy
        have HR := Lib.hid hR
        clear hb1 e0 d1 d2 hR
        gi_wp2_with fail
        refine HR.out.mono ?_
        rintro e W3 ⟨⟨rfl, hJ3⟩ | ⟨rfl, hJ3⟩, hk3⟩
        · have HF3 := Lib.hid (HF1.out.round HXW.out hJ3 hk3)
          clear hJ3 hk3 hy
          gi_wp2_with fail
          go_roundw
          case rel =>
            refine ⟨k + 1, pre ++ [y], addB B w1 W3, by omega, by go_num, ?_, ?_⟩
            · rw [HS1.out]
              exact Lib.hid rfl
            · rw [HS2.out]
              exact HF3
          case measure => simp [intOf]; omega
        · have HJ3 := Lib.hid hJ3
          have HPX := Lib.hid (show pre ++ [y] <+: T.first xs from by
            unfold Trl.first
            rw [← HS1.out]
            exact List.IsPrefix.trans (List.IsPrefix.filter (fun x => !T.fal x) (List.take_prefix (k + 1) xs)) (List.prefix_append _ _))
          clear hJ3 hk3 hy
          gi_wp2
          refine bodyPost_ret (results_none rfl _ _ _) rfl ?_
          exact ⟨⟨_, rfl⟩, .inr ⟨_, _, HPX.out, HJ3.out⟩⟩
    · obtain rfl : k = n := by omega
      have hf := HF.out
      have hp := HP.out
      rw [List.take_of_length_le (by rw [HN.out]; exact Nat.le_refl _)] at hfs hp
      have hfl : fs.length < 20 := by
        have := List.length_filter_le T.fal xs
        rw [hfs] at this
        have := HN.out
        omega
      have hfst : T.first xs = pre ++ T.stab fs := by unfold Trl.first; rw [← hp, hfs]
      have HSO := Lib.hid (wa_stable b tb Bw T _ fs wr HTR.out d1 d2 hf.row (fun g hg => by
        have h1 := (own_lt hf.row g hg).1
        refine ⟨fun h => HOT.out g h.1 (.inr h1), by omega, by omega⟩) hfl)
      have hsl := stab_length T fs
      obtain ⟨ss, hss⟩ : ∃ z, T.stab fs = z := ⟨_, rfl⟩
      rw [hss] at HSO hfst hsl
      obtain ⟨m, hm⟩ : ∃ m, fs.length = m := ⟨_, rfl⟩
      rw [hm] at hsl hfl HSO hf ⊢
      have HFS := Lib.hid hfst
      have HSL := Lib.hid hsl
      have HM := Lib.hid hm
      have HF0 := Lib.hid (show FiSt X0 W wr J (.slice Af m cf) fs pre B from hf)
      clear hf hp hfst hsl hss hfs d1 d2 hm HF
      gi_wp2_with fail
      refine ⟨trivial, ?_⟩
      refine (callsIn_wide.2 HSO.out).mono ?_
      rintro e w1 ⟨rfl, hr1, hk1⟩
      have HF1 := Lib.hid (HF0.out.write HJ.out (fs' := ss) (grown_kept hk1) hr1 (.inl rfl))
      clear hr1 hk1
      gi_wp2_with fail
      gi_loopw [32] (fun iv wq => ∃ (j : Nat) (B' : Nat → Prop), j ≤ m ∧ iv = .int .i64 j ∧ Hid (FiSt X0 W wq J (.slice Af m cf) ss (pre ++ ss.take j) B')) (fun iv _ => m - (intOf iv).toNat)
      case atStart => exact ⟨0, B, Nat.zero_le _, rfl, by rw [List.take_zero, List.append_nil]; exact HF1⟩
      case round =>
        obtain ⟨j, B', hj, rfl, HFJ⟩ := hrel
        by_cases hlt : j < m
        · obtain ⟨y, hy⟩ := getElem_of (l := ss) (i := j) (by rw [HSL.out]; exact hlt)
          obtain ⟨g, c', hv, hg, e0⟩ := own_get HFJ.out.row hy
          simp only [Value.slice.injEq] at hv
          obtain ⟨rfl, hnx, rfl⟩ := hv
          clear hnx
          have HTK := Lib.hid (show pre ++ ss.take (j + 1) = (pre ++ ss.take j) ++ [y] from by rw [List.take_add_one, hy]; simp)
          have hzz := HFJ.out.kp.size
          obtain ⟨fn, tmps, assign, body, hyy, hR⟩ := yield_any 8 (HY.out (pre ++ ss.take j) B' y wr HFJ.out.inv hzz HFJ.out.bs)
          dsimp only [fv1] at hyy
          have HR := Lib.hid hR
          clear hR hy
          gi_wp2_with fail
          refine HR.out.mono ?_
          rintro e W3 ⟨⟨rfl, hJ3⟩ | ⟨rfl, hJ3⟩, hk3⟩
          · have HF3 := Lib.hid (HFJ.out.round HXW.out hJ3 hk3)
            clear hJ3 hk3 hyy e0
            gi_wp2_with fail
            go_roundw
            case rel =>
              refine ⟨j + 1, addB B' wr W3, by omega, by go_num, ?_⟩
              rw [HTK.out]
              exact HF3
            case measure => simp [intOf]; omega
          · have HJ3 := Lib.hid hJ3
            have HPX := Lib.hid (show (pre ++ ss.take j) ++ [y] <+: T.first xs from by
              rw [HFS.out, ← HTK.out]
              exact (List.prefix_append_right_inj _).2 (List.take_prefix _ _))
            clear hJ3 hk3 hyy e0
            gi_wp2
            refine bodyPost_ret (results_none rfl _ _ _) rfl ?_
            exact ⟨⟨_, rfl⟩, .inr ⟨_, _, HPX.out, HJ3.out⟩⟩
        · obtain rfl : j = m := by omega
          have hf := HFJ.out
          rw [List.take_of_length_le (by rw [HSL.out]; exact Nat.le_refl _), ← HFS.out] at hf
          have HFE := Lib.hid hf.inv
          clear hf
          gi_wp2
          go_end0
          exact ⟨⟨_, rfl⟩, .inl ⟨_, _, rfl, HFE.out⟩⟩
end Go.Proofs.YtoojmhjagipmdaaGreat
