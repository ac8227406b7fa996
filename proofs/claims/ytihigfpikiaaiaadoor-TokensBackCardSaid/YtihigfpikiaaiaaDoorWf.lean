/- The iterator over the tokens of a text. -/
import Derived.Test.YtihigfpikiaaiaaDoorWe
import Derived.RangeFuncNested
import Derived.RangeFuncBound
import Derived.RangeFuncCalls
import Derived.RangeFuncLeaves
import Derived.RangeFuncBox
import Derived.Shelf.Abstract
import Derived.Shelf.RegionOpen
import Derived.OwnWalkIn
import Derived.TacticsInMore
import Derived.LoopNIn
import Derived.LoopIn
import Derived.Maps.AppendAt
namespace Go.Proofs.YtihigfpikiaaiaaDoor
open Go.RowKit Go.Shelf
attribute [local go_sem] Oper.semAt_some

/-- the places of the tokens from an index on; the last is the end, or where none begins -/
def places (s : ByteArray) : Nat → Nat → List Nat
  | 0, _ => []
  | f + 1, a => if tkKind s (skipTo s a) = 0 then [skipTo s a] else skipTo s a :: places s f (tkEnd s (skipTo s a))
/-- what the iterator hands over for a place -/
def yv (s : ByteArray) (p : Nat) : Array Value := #[.agg #[.int .u8 (tkKind s p : Nat), .int .i64 (p : Int), .int .i64 (tkEnd s p : Nat)], .int .i64 (nxErr s p : Nat)]
theorem next_agg (s : ByteArray) (a : Nat) (w : World) (hs : s.size ≤ 140737488355328) (h0 : a ≤ s.size) :
    CallsIn Fence.wide 7 Tryd.prog 26 #[.string s, .int .i64 (a : Int)] w fun e w' => e = .returned (.tuple #[.agg #[.int .u8 (tkKind s (skipTo s a) : Nat), .int .i64 (skipTo s a : Nat), .int .i64 (tkEnd s (skipTo s a) : Nat)], .int .i64 (nxErr s (skipTo s a) : Nat)]) ∧ Below w.heap.size w w' :=
  callsIn_wide.2 (next_any s a w hs h0)

/-! ### what a round of the caller keeps: all but its two boxes (b, b + 1), and the row of the slice in box b -/
def Owned (b : Nat) (A : World) (k : Nat) : Prop := ∃ v, Boxed A b 23 v ∧ v.ownBlock = some k
structure KpS (b : Nat) (A B : World) : Prop where
  size : A.heap.size ≤ B.heap.size
  wf : (∀ k, Owned b A k → k < A.heap.size) → ∀ k, Owned b B k → k < B.heap.size
  owned : ∀ k, Owned b B k → k < A.heap.size → Owned b A k
  same : ∀ k cs t m, A.heap[k]? = some (.cells cs t m) → k ≠ b → k ≠ b + 1 → ¬ Owned b A k → B.heap[k]? = A.heap[k]?
theorem heap_lt {A : World} {k : Nat} {o : Obj} (h : A.heap[k]? = some o) : k < A.heap.size := (Array.getElem?_eq_some_iff.1 h).1
theorem KpS.trans {b : Nat} {A B C : World} (h : KpS b A B) (g : KpS b B C) : KpS b A C :=
  ⟨Nat.le_trans h.size g.size, fun hA => g.wf (h.wf hA), fun k hk hl => h.owned k (g.owned k hk (Nat.lt_of_lt_of_le hl h.size)) hl,
   fun k cs t m hc h1 h2 h3 => by
    have e := h.same k cs t m hc h1 h2 h3
    rw [g.same k cs t m (e.trans hc) h1 h2 (fun ho => h3 (h.owned k ho (heap_lt hc))), e]⟩
theorem owned_of_eq {b k : Nat} {A B : World} (e : B.heap[b]? = A.heap[b]?) (h : Owned b B k) : Owned b A k := by
  obtain ⟨v, hv, ho⟩ := h
  exact ⟨v, e.symm.trans hv, ho⟩
theorem KpS.of_grown {b : Nat} {A B : World} {row : Option Nat} (hb : b < A.heap.size) (hg : A.grownBy B row) (hr : ∀ r, row = some r → r ≠ b ∧ ∃ o : Obj, A.heap[r]? = some o ∧ o.isCells = false) : KpS b A B := by
  have e : B.heap[b]? = A.heap[b]? := hg.block b hb (fun e => (hr b e.symm).1 rfl)
  refine ⟨hg.size, fun hA k hk => Nat.lt_of_lt_of_le (hA k (owned_of_eq e hk)) hg.size, fun k hk _ => owned_of_eq e hk, fun k cs t m hc _ _ _ => hg.block k (heap_lt hc) (fun e' => ?_)⟩
  obtain ⟨_, o, ho, hn⟩ := hr k e'.symm
  rw [hc] at ho
  cases ho
  cases hn
theorem KpS.putObj {b : Nat} {w : World} (hb : b < w.heap.size) (W : World) (l : Nat) (o o' : Obj) (hl : w.heap.size ≤ l) (h : W.heap[l]? = some o) (ho : o.isCells = false) (_ : o.isWalk = false) : KpS b W (W.putObj l o') :=
  KpS.of_grown (Nat.lt_of_lt_of_le (Nat.lt_of_lt_of_le hb hl) (Nat.le_of_lt (heap_lt h))) (grownBy_putObj' W l o') (fun r e => by cases e; exact ⟨by omega, o, h, ho⟩)
theorem KpS.below {b : Nat} {A B : World} (hb : b < A.heap.size) (h : Below A.heap.size A B) : KpS b A B :=
  KpS.of_grown (row := none) hb ⟨h.os, h.tape, h.output, h.size, fun i hi _ => h.block i hi⟩ (fun r e => by cases e)

set_option maxRecDepth 100000 in
set_option maxHeartbeats 1000000 in
theorem all1_in (l Bn b : Nat) (s : ByteArray) (hs : s.size ≤ 140737488355328) (J Jx : List Nat → World → Prop) (W : World) (hJ : AbidesFrom W.heap.size J)
    (hY : ∀ pre x W, J pre W → pre.length < s.size + 1 → YieldAt Fence.wide 7 Tryd.prog l (yv s x) W fun e W' =>
      (e = .returned (.bool true) ∧ J (pre ++ [x]) W' ∧ KpS b W W') ∨ (e = .returned (.bool false) ∧ Jx (pre ++ [x]) W'))
    (hBn : Boxed W Bn 9 (.string s)) (hn1 : Bn ≠ b) (hn2 : Bn ≠ b + 1) (hb : b + 1 < W.heap.size) (hn3 : ¬ Owned b W Bn) (hwf : ∀ k, Owned b W k → k < W.heap.size) (h0 : J [] W) :
    CallsIn Fence.wide 8 Tryd.prog 53 #[.func (.yield l) #[] #[], .pointer (some ⟨Bn, 0, none⟩)] W fun e W' => (∃ v, e = .returned v) ∧
      ((∃ ys, ys = places s (s.size + 1) 0 ∧ J ys W') ∨ (∃ pre, pre <+: places s (s.size + 1) 0 ∧ Jx pre W')) := by
  refine callsIn_of_wp Tryd.func53 rfl trivial ?_ rfl
  simp only [Tryd.ntmps53, List.size_toArray, List.length_cons, List.length_nil, Nat.reduceAdd, Nat.reduceSub, Array.replicate_succ, Array.replicate_zero, List.push_toArray, List.append_toArray, List.nil_append, List.cons_append]
  gi_wp2
  gi_loopw [3] (fun p wr => ∃ (pre : List Nat) (f a : Nat), p = .int .i64 (a : Nat) ∧ a ≤ s.size ∧ s.size < f + a ∧ pre.length + f = s.size + 1 ∧ pre ++ places s f a = places s (s.size + 1) 0 ∧ W.heap.size ≤ wr.heap.size ∧ Boxed wr Bn 9 (.string s) ∧ ¬ Owned b wr Bn ∧ (∀ k, Owned b wr k → k < wr.heap.size) ∧ J pre wr)
    (fun p wr => s.size - (intOf p).toNat)
  case atStart =>
    exact ⟨[], s.size + 1, 0, rfl, by omega, by omega, by simp, rfl, by simp, hBn, hn3, hwf, h0⟩
  case round =>
    obtain ⟨pre, f, a, rfl, ha, hf, hlen, hpl, hsz, hbx, hno, hwr, hJs⟩ := hrel
    obtain ⟨f, rfl⟩ : ∃ f', f = f' + 1 := ⟨f - 1, by omega⟩
    have hJ2 : ∀ w2, Below wr.heap.size wr w2 → J pre w2 := fun w2 hb => hJ pre wr w2 none hJs ⟨hb.os, hb.tape, hb.output, hb.size, fun i hi _ => hb.block i hi⟩ (fun r e => by cases e)
    have HJ2 := Lib.hid hJ2
    have HY := Lib.hid hY
    have HJ := Lib.hid hJ
    have HP := Lib.hid hpl
    have HL := Lib.hid hlen
    have HNO := Lib.hid hno
    have HWR := Lib.hid hwr
    have hp := skipTo_le s a ha
    have hc := hbx.cell
    have hkl := tkKind_le s (skipTo s a)
    clear hJ2 hY hJ hpl hlen hno hwr hwf hn3
    gi_wp2_with fail
    refine ⟨trivial, ?_⟩
    refine (next_agg s a _ hs ha).mono ?_
    rintro e w1 ⟨rfl, hb1⟩
    have hbB := hbx.lt
    have hb3 : Below wr.heap.size wr (w1.alloc (.cells #[.int .u8 (tkKind s (skipTo s a) : Nat), .int .i64 (skipTo s a : Nat), .int .i64 (tkEnd s (skipTo s a) : Nat)] 29)) := hb1.alloc hb1.size _
    obtain ⟨fn, tmps, assign, body, hy, hR⟩ := HY.out pre (skipTo s a) (w1.alloc (.cells #[.int .u8 (tkKind s (skipTo s a) : Nat), .int .i64 (skipTo s a : Nat), .int .i64 (tkEnd s (skipTo s a) : Nat)] 29)) (HJ2.out _ hb3) (by have := HL.out; omega)
    have HR := Lib.hid hR
    clear hR
    dsimp only [yv] at hy
    have hk0 := KpS.below (b := b) (by omega) hb3
    have HB3 := Lib.hid hb3
    have HK0 := Lib.hid hk0
    clear hk0 hb3
    gi_wp2_with fail
    refine HR.out.mono ?_
    have hng : ¬ Owned b (w1.alloc (.cells #[.int .u8 (tkKind s (skipTo s a) : Nat), .int .i64 (skipTo s a : Nat), .int .i64 (tkEnd s (skipTo s a) : Nat)] 29)) w1.heap.size := by
      intro ho
      have e := HB3.out.block b (by omega)
      have := HWR.out _ (owned_of_eq e ho)
      have := hb1.size
      omega
    have HNG := Lib.hid hng
    clear hng
    rintro e W3 (⟨rfl, hJ3, hk3⟩ | ⟨rfl, hJx3⟩)
    · have ho3 : ¬ Owned b W3 Bn := by
        intro ho
        exact HNO.out (HK0.out.owned _ (hk3.owned _ ho (by have := hb1.size; simp; omega)) (by omega))
      have hw3 : ∀ k, Owned b W3 k → k < W3.heap.size := hk3.wf (HK0.out.wf HWR.out)
      have hs3 : wr.heap.size ≤ W3.heap.size := Nat.le_trans HK0.out.size hk3.size
      have hbx2 := (HB3.out.block Bn (by omega)).trans hbx
      have hb4 : Boxed W3 Bn 9 (.string s) := (hk3.same Bn _ _ _ hbx2 hn1 hn2 (fun ho => HNO.out (HK0.out.owned _ ho (by omega)))).trans hbx2
      have hnew := World.alloc_heap_new w1 (.cells #[.int .u8 (tkKind s (skipTo s a) : Nat), .int .i64 (skipTo s a : Nat), .int .i64 (tkEnd s (skipTo s a) : Nat)] 29)
      have hz := hb1.size
      have ht := (hk3.same w1.heap.size _ _ _ hnew (by omega) (by omega) HNG.out).trans hnew
      have c0 : W3.cell? ⟨w1.heap.size, 0, none⟩ = some (.int .u8 (tkKind s (skipTo s a) : Nat)) := by simp [World.cell?, ht]
      have c1 : W3.cell? ⟨w1.heap.size, 1, none⟩ = some (.int .i64 (skipTo s a : Nat)) := by simp [World.cell?, ht]
      have c2 : W3.cell? ⟨w1.heap.size, 2, none⟩ = some (.int .i64 (tkEnd s (skipTo s a) : Nat)) := by simp [World.cell?, ht]
      have hc3 := hb4.cell
      have HO3 := Lib.hid ho3
      have HW3 := Lib.hid hw3
      have HT := Lib.hid ht
      have HNEW := Lib.hid hnew
      have HJ3 := Lib.hid hJ3
      have HK3 := Lib.hid hk3
      clear ho3 hw3 ht hnew hJ3 hk3 hy
      by_cases hz0 : tkKind s (skipTo s a) = 0
      · have ek : ((tkKind s (skipTo s a) : Int) == 0) = true := by rw [hz0]; rfl
        have HZ := Lib.hid hz0
        clear hz0
        gi_wp2
        refine bodyPost_ret (results_none rfl _ _ _) rfl ?_
        refine ⟨⟨_, rfl⟩, .inl ⟨_, ?_, HJ3.out⟩⟩
        rw [← HP.out]
        simp only [places, HZ.out, if_true]
      · have ek : ((tkKind s (skipTo s a) : Int) == 0) = false := by simpa using hz0
        have HZ := Lib.hid hz0
        have hgt := (tkEnd_gt s (skipTo s a)).1 (by omega)
        have hle := tkEnd_le s (skipTo s a) hp
        have hge := skipTo_ge s a
        clear hz0
        gi_wp2
        go_roundw
        case rel =>
          refine ⟨pre ++ [skipTo s a], f, tkEnd s (skipTo s a), rfl, hle, by omega, by have := HL.out; simp; omega, ?_, Nat.le_trans hsz hs3, hb4, HO3.out, HW3.out, HJ3.out⟩
          rw [← HP.out]
          simp only [places, HZ.out, if_false, List.append_assoc, List.cons_append, List.nil_append]
        case measure => simp [intOf]; omega
    · gi_wp2
      refine bodyPost_ret (results_none rfl _ _ _) rfl ?_
      refine ⟨⟨_, rfl⟩, .inr ⟨pre ++ [skipTo s a], ?_, hJx3⟩⟩
      rw [← HP.out]
      refine List.prefix_append_right_inj _ |>.2 ?_
      simp only [places]
      split <;> simp
end Go.Proofs.YtihigfpikiaaiaaDoor
