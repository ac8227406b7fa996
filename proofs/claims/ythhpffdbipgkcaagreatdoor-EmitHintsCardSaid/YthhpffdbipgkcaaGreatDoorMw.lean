/- A range over a function whose rounds are told something, and pay something. -/
import Derived.Test.YthhpffdbipgkcaaGreatDoorMq
import Derived.RangeFuncNested
namespace Go.Proofs.YthhpffdbipgkcaaGreatDoor
open Go.RowKit Go.Shelf

theorem yield_any {m : Nat} (m' : Nat) {P : Program} {l : Nat} {args : Array Value} {W : World} {R : Ending → World → Prop} (h : YieldAt Fence.wide m P l args W R) : YieldAt Fence.wide m' P l args W R := by
  obtain ⟨fn, tmps, assign, body, hy, hR⟩ := h
  exact ⟨fn, tmps, assign, body, hy, hR.1, fun c cs _ => hR.2 c cs (room_wide _)⟩
/-- an iterator's contract: Pre is what it tells a round, Post what a round that goes on pays -/
def SeqM {α : Type} (P : Program) (g : Nat) (lb : Array Value) (encs : α → Array Value) (Pre : Nat → List α → α → World → Prop) (Post Out : α → World → World → Prop) (S Sp : List α → Prop) (w : World) : Prop :=
  ∀ (l : Nat) (J Jx : List α → World → Prop) (W : World), Below w.heap.size w W → OwnFrom W.heap.size J → OwnFrom W.heap.size Jx →
    (∀ pre x W1, J pre W1 → Pre W.heap.size pre x W1 → YieldAt Fence.wide 7 P l (encs x) W1 fun e W' =>
      (e = .returned (.bool true) ∧ J (pre ++ [x]) W' ∧ Post x W1 W') ∨ (e = .returned (.bool false) ∧ Jx (pre ++ [x]) W' ∧ Out x W1 W')) →
    J [] W →
    CallsIn Fence.wide 9 P g (#[.func (.yield l) #[] #[]] ++ lb) W fun e W' => (∃ v, e = .returned v) ∧ ((∃ xs, S xs ∧ J xs W') ∨ (∃ pre, Sp pre ∧ Jx pre W'))
/-- what is neither cells nor a walk lies as it lay -/
def KeepsRec (W W' : World) : Prop := ∀ (k : Nat) (o : Obj), W.heap[k]? = some o → o.isCells = false → o.isWalk = false → W'.heap[k]? = some o
theorem KeepsRec.refl (W : World) : KeepsRec W W := fun _ _ h _ _ => h
theorem KeepsRec.trans {A B C : World} (h : KeepsRec A B) (k : KeepsRec B C) : KeepsRec A C := fun i o hi h1 h2 => k i o (h i o hi h1 h2) h1 h2
theorem KeepsRec.of_below {A B : World} (h : Below A.heap.size A B) : KeepsRec A B := fun k _ hk _ _ => (h.block k (heap_lt hk)).trans hk
theorem KeepsRec.of_kept {O : Nat → Prop} {A B : World} (h : Kept O A B) (hO : ∀ k o, O k → A.heap[k]? = some o → o.isCells = true ∨ o.isWalk = true) : KeepsRec A B := fun k o hk h1 h2 =>
  (h.block k (heap_lt hk) (fun e => by
    have := hO k o e hk
    rw [h1, h2] at this
    simp at this)).trans hk
/-- how a round's body may be left -/
def mPost {α : Type} (I Ix : List α → World → Prop) (Post Out : α → World → World → Prop) (pre : List α) (x : α) (W W' : World) : Exit → Act → World → Prop
  | .normal, _, W3 => KeepsRec W' W3 ∧ I (pre ++ [x]) W3 ∧ Post x W W3
  | .ret, _, W3 => KeepsRec W' W3 ∧ Ix (pre ++ [x]) W3 ∧ Out x W W3
  | .exit _, _, _ => False
  | .goto _, _, _ => False
  | .panic _, _, _ => False
  | .outgrown, _, _ => False
theorem own_rec {α : Type} {B : Nat} {I : List α → World → Prop} (hI : OwnFrom B I) {L D : Nat} {o d : Obj} {B' : Nat} (hB : B ≤ B') (hL : L < B') (hD : D < B') : OwnFrom B' (fun pre W => I pre W ∧ W.heap[L]? = some o ∧ W.heap[D]? = some d) := by
  rintro pre W W' row ⟨h1, h2, h3⟩ hg hr
  refine ⟨hI pre W W' row h1 hg (fun r e => ⟨Nat.le_trans hB (hr r e).1, (hr r e).2⟩), (hg.block L (heap_lt h2) (fun e => ?_)).trans h2, (hg.block D (heap_lt h3) (fun e => ?_)).trans h3⟩
  · have := (hr L e.symm).1
    omega
  · have := (hr D e.symm).1
    omega
set_option maxHeartbeats 1000000 in
theorem wpIn_range_M {α : Type} {P : Program} {g : Operand} {ps : Array Tmp} {assign body : Code} {Q : Exit → Act → World → Prop} {a : Act} {w : World} {gf : Nat} {lb : Array Value}
    (hg : a.eval g = .func (.func gf) #[] lb) (eg : ∀ args w, (callFunc gf args).run P w = .ok (.enter gf args) w)
    {encs : α → Array Value} {Pre : Nat → List α → α → World → Prop} {Post Out : α → World → World → Prop} {S Sp : List α → Prop} {w0 : World} (hseq : SeqM P gf lb encs Pre Post Out S Sp w0) (hb0 : Below w0.heap.size w0 w) (hps : ∀ x, (encs x).size = ps.size)
    (hPost : ∀ pre x (W W3 : World) l r r', l < w.heap.size + 2 → Pre (w.heap.size + 2) pre x W → W3.heap[l]? = some (.loop r) → Post x W W3 → Post x W (W3.putObj l (.loop r')))
    (hOut : ∀ pre x (W W3 : World) l r r', l < w.heap.size + 2 → Pre (w.heap.size + 2) pre x W → W3.heap[l]? = some (.loop r) → Out x W W3 → Out x W (W3.putObj l (.loop r')))
    (I Ix : List α → World → Prop) (hI : OwnFrom w.heap.size I) (hIx : OwnFrom w.heap.size Ix) (h0 : I [] w)
    (Fr : α → Nat → Act) (Mid : List α → α → World → Nat → World → Prop) (hMid : ∀ pre x W B (W' : World) l r r', w.heap.size ≤ l → l < w.heap.size + 2 → W'.heap[l]? = some (.loop r) → Mid pre x W B W' → Mid pre x W B (W'.putObj l (.loop r')))
    (hassign : ∀ (l : Nat) (pre : List α) (x : α) (W : World) (K : Act → World → Prop), I pre W → Pre (w.heap.size + 2) pre x W → (∀ B W', KeepsRec W W' → Mid pre x W B W' → K (Fr x B) W') →
      assign.wpIn (Fence.wide.inRound l) 7 P (Exit.then K (fun _ _ _ => False)) { tmps := (ps.zip (encs x)).foldl (fun t (p, v) => t.setIfInBounds p v) a.tmps, defers := [] } W)
    (hbody : ∀ (l : Nat) (pre : List α) (x : α) (W : World) (B : Nat) (W' : World), Mid pre x W B W' → body.wpIn (Fence.wide.inRound l) 7 P (mPost I Ix Post Out pre x W W') (Fr x B) W')
    (hdone : ∀ (D : Nat) (xs : List α) (W : World), w.heap.size ≤ D → S xs → I xs W → W.heap[D]? = some (.deferred (some [])) → Q .normal { a with defers := { target := .collected D, args := #[] } :: a.defers } W)
    (hstop : ∀ (D : Nat) (pre : List α) (W : World), w.heap.size ≤ D → Sp pre → Ix pre W → W.heap[D]? = some (.deferred (some [])) → Code.ret.wpIn Fence.wide 10 P Q { a with defers := { target := .collected D, args := #[] } :: a.defers } W) :
    (Code.rangeFunc g ps assign body).wpIn Fence.wide 10 P Q a w := by
  refine wpIn_rangeFunc (fun fn hfn => ?_)
  obtain ⟨rec, hrec⟩ : ∃ rec : LoopState → Option Code → Loop, rec = fun st pe => { state := st, pending := pe, fn, tmps := a.tmps, params := ps, assign, body, defers := w.heap.size } := ⟨_, rfl⟩
  obtain ⟨W1, hW1⟩ : ∃ W1, (w.alloc (.deferred (some []))).alloc (.loop (rec .ready none)) = W1 := ⟨_, rfl⟩
  have hz1 : W1.heap.size = w.heap.size + 2 := by rw [← hW1]; simp
  have hL1 : W1.heap[w.heap.size + 1]? = some (.loop (rec .ready none)) := by
    have := World.alloc_heap_new (w.alloc (.deferred (some []))) (.loop (rec .ready none))
    rwa [hW1, World.size_alloc] at this
  have hD1 : W1.heap[w.heap.size]? = some (.deferred (some [])) := by
    rw [← hW1, Below.heap_alloc _ _ _ (by simp)]
    exact World.alloc_heap_new w _
  have hb1 : Below w.heap.size w W1 := by rw [← hW1]; exact (mx_al w _).alloc (by simp) _
  have hI1 : I [] W1 := by rw [← hW1]; exact hI.alloc _ (hI.alloc _ h0)
  have turn : ∀ (W3 : World) (r r' : Loop), W3.heap[w.heap.size + 1]? = some (.loop r) → W3.heap[w.heap.size]? = some (.deferred (some [])) → (W3.putObj (w.heap.size + 1) (.loop r')).heap[w.heap.size + 1]? = some (.loop r') ∧ (W3.putObj (w.heap.size + 1) (.loop r')).heap[w.heap.size]? = some (.deferred (some [])) := fun W3 r r' h1 h2 =>
    ⟨World.putObj_heap_same (heap_lt h1), (World.putObj_heap_other (by omega)).trans h2⟩
  refine ⟨w.heap.size + 1, [{ target := .collected w.heap.size, args := #[] }], W1, { target := .fn (.func gf) lb, args := #[.func (.yield (w.heap.size + 1)) #[] #[]] }, W1, gf, #[.func (.yield (w.heap.size + 1)) #[] #[]] ++ lb, W1, ?_, ?_, fun _ _ => trivial, ?_, fun h => (by cases h), ?_⟩
  · rw [← hW1, hrec]
    exact run_enterLoop_outer _ _ _ _ _
  · simp only [resolve, hg]
    simp [go_sem]
  · simp [invoke, go_sem, eg]
  refine (hseq (w.heap.size + 1) (fun pre W => I pre W ∧ W.heap[w.heap.size + 1]? = some (.loop (rec .ready none)) ∧ W.heap[w.heap.size]? = some (.deferred (some [])))
    (fun pre W => Ix pre W ∧ W.heap[w.heap.size + 1]? = some (.loop (rec .done (some .ret))) ∧ W.heap[w.heap.size]? = some (.deferred (some []))) W1 (hb0.trans (hb1.mono hb0.size))
    (own_rec hI (by omega) (by omega) (by omega)) (own_rec hIx (by omega) (by omega) (by omega)) ?_ ⟨hI1, hL1, hD1⟩).mono ?_
  · rintro pre x W ⟨hi, hl, hd⟩ hp
    have hy := run_yield (P := P) (args := encs x) hl (by rw [hrec]; exact hps x)
    rw [hrec] at hy
    refine ⟨fn, _, assign, body, hy, roundIn_of_wpIn hfn (hassign _ pre x W _ hi (hz1 ▸ hp) ?_)⟩
    intro B W' hk hm
    have hl' := hk _ _ hl rfl rfl
    have hd' := hk _ _ hd rfl rfl
    refine ⟨_, run_beginRound hl' (by rw [hrec]), ?_⟩
    obtain ⟨hl2, hd2⟩ := turn W' _ { rec .ready none with state := .busy } hl' hd'
    refine wpIn_mono (hbody _ pre x W B _ (hMid pre x W B W' _ _ _ (by omega) (by omega) hl' hm)) ?_
    rintro e a3 W3 hq
    cases e with
    | normal =>
      obtain ⟨hk3, hi3, hp3⟩ := hq
      have hl3 := hk3 _ _ hl2 rfl rfl
      have hd3 := hk3 _ _ hd2 rfl rfl
      have he := run_endRound (P := P) none hl3
      obtain ⟨hl4, hd4⟩ := turn W3 _ (rec .ready none) hl3 hd3
      refine ⟨_, _, he, .inl ⟨rfl, ?_⟩⟩
      rw [hrec] at hl3 hl4 hd4 ⊢
      exact ⟨⟨hI.putObj _ hi3 (by omega) hl3 rfl, hl4, hd4⟩, hPost pre _ _ _ _ _ _ (by omega) (hz1 ▸ hp) hl3 hp3⟩
    | ret =>
      obtain ⟨hk3, hi3, hp3⟩ := hq
      have hl3 := hk3 _ _ hl2 rfl rfl
      have hd3 := hk3 _ _ hd2 rfl rfl
      have he := run_endRound (P := P) (some .ret) hl3
      obtain ⟨hl4, hd4⟩ := turn W3 _ (rec .done (some .ret)) hl3 hd3
      refine ⟨_, _, he, .inr ⟨rfl, ?_⟩⟩
      rw [hrec] at hl3 hl4 hd4 ⊢
      exact ⟨⟨hIx.putObj _ hi3 (by omega) hl3 rfl, hl4, hd4⟩, hOut pre _ _ _ _ _ _ (by omega) (hz1 ▸ hp) hl3 hp3⟩
    | exit id => exact hq.elim
    | goto t => exact hq.elim
    | panic c => exact hq.elim
    | outgrown => exact hq.elim
  · rintro e W2 ⟨⟨v, rfl⟩, ⟨xs, hS, hi, hl, hd⟩ | ⟨pre, hS, hi, hl, hd⟩⟩
    · have he := run_endLoop (P := P) hl (by rw [hrec]; simp)
      obtain ⟨_, hd4⟩ := turn W2 _ { rec .ready none with state := .exhausted } hl hd
      refine ⟨none, _, ?_, hdone _ xs _ (Nat.le_refl _) hS (hI.putObj _ hi (by omega) hl rfl) hd4⟩
      rw [hrec] at he ⊢
      exact he
    · have he := run_endLoop (P := P) hl (by rw [hrec]; simp)
      obtain ⟨_, hd4⟩ := turn W2 _ { rec .done (some .ret) with state := .exhausted } hl hd
      refine ⟨some .ret, _, ?_, hstop _ pre _ (Nat.le_refl _) hS (hIx.putObj _ hi (by omega) hl rfl) hd4⟩
      rw [hrec] at he ⊢
      exact he
end Go.Proofs.YthhpffdbipgkcaaGreatDoor
