/- The walk of the reference's Scan. -/
import Derived.Test.YtihigfpikiaaiaaDoorRh
namespace Go.Proofs.YtihigfpikiaaiaaDoor
open Go.RowKit

def rcells (s : ByteArray) (l : List Nat) : List Value := l.flatMap fun p => [.int .i64 (tkKind s p : Nat), .int .i64 (p : Int), .int .i64 (tkEnd s p : Nat)]
theorem rcells_snoc (s : ByteArray) (l : List Nat) (p : Nat) : rcells s (l ++ [p]) = rcells s l ++ [.int .i64 (tkKind s p : Nat), .int .i64 (p : Int), .int .i64 (tkEnd s p : Nat)] := by simp [rcells]
theorem info82 : (Tryd.prog.info? 82).map (fun i => (i.zero, i.size, i.bytes)) = some (some (.agg #[.int .i64 0, .int .i64 0, .int .i64 0]), 3, 24) := by kernel_rfl

/-- a slice of the reference's tokens at places, as memory holds it -/
def RToks (s : ByteArray) (w : World) (A : Option Addr) (l : List Nat) : Prop :=
  ∀ i p, l[i]? = some p → ∃ g, A = some ⟨g, 0, none⟩ ∧ g < w.heap.size ∧
    w.cell? ⟨g, i * 3, none⟩ = some (.int .i64 (tkKind s p : Nat)) ∧ w.cell? ⟨g, i * 3 + 1, none⟩ = some (.int .i64 (p : Int)) ∧ w.cell? ⟨g, i * 3 + 2, none⟩ = some (.int .i64 (tkEnd s p : Nat))
theorem rcells_at (s : ByteArray) (l : List Nat) (i p : Nat) (h : l[i]? = some p) : (rcells s l)[i * 3]? = some (.int .i64 (tkKind s p : Nat)) ∧ (rcells s l)[i * 3 + 1]? = some (.int .i64 (p : Int)) ∧ (rcells s l)[i * 3 + 2]? = some (.int .i64 (tkEnd s p : Nat)) := by
  induction l generalizing i with
  | nil => simp at h
  | cons q l ih =>
    cases i with
    | zero =>
      simp only [List.getElem?_cons_zero, Option.some.injEq] at h
      subst h
      exact ⟨rfl, rfl, rfl⟩
    | succ i =>
      have := ih i (by simpa using h)
      have e : rcells s (q :: l) = [.int .i64 (tkKind s q : Nat), .int .i64 (q : Int), .int .i64 (tkEnd s q : Nat)] ++ rcells s l := by simp [rcells]
      rw [e]
      refine ⟨?_, ?_, ?_⟩
      · rw [List.getElem?_append_right (by simp; omega)]
        have h3 : (i + 1) * 3 - [Value.int .i64 (tkKind s q : Nat), .int .i64 (q : Int), .int .i64 (tkEnd s q : Nat)].length = i * 3 := by simp; omega
        rw [h3]; exact this.1
      · rw [List.getElem?_append_right (by simp; omega)]
        have h3 : (i + 1) * 3 + 1 - [Value.int .i64 (tkKind s q : Nat), .int .i64 (q : Int), .int .i64 (tkEnd s q : Nat)].length = i * 3 + 1 := by simp; omega
        rw [h3]; exact this.2.1
      · rw [List.getElem?_append_right (by simp; omega)]
        have h3 : (i + 1) * 3 + 2 - [Value.int .i64 (tkKind s q : Nat), .int .i64 (q : Int), .int .i64 (tkEnd s q : Nat)].length = i * 3 + 2 := by simp; omega
        rw [h3]; exact this.2.2
theorem RToks.of_own {s : ByteArray} {w : World} {base : Nat} {v : Value} {l : List Nat} (h : w.ownsRow base 82 3 v l.length (rcells s l)) : ∃ A c, v = .slice A l.length c ∧ l.length ≤ c ∧ RToks s w A l := by
  rcases h.2 with ⟨e, h0⟩ | ⟨g, cap, cur, rfl, _, hg, hle, _⟩
  · have hl : l = [] := by
      cases l with
      | nil => rfl
      | cons q l => simp at h0
    subst hl
    exact ⟨none, 0, e, by simp, fun i p hi => by simp at hi⟩
  · have hc := h.cells (g := g) rfl
    have e : ∀ j, (⟨g, 0, none⟩ : Addr).add j = ⟨g, j, none⟩ := fun j => by unfold Addr.add; split <;> simp_all
    refine ⟨_, cap, rfl, hle, fun i p hi => ⟨g, rfl, heap_lt hg, ?_, ?_, ?_⟩⟩
    · have := hc _ _ (rcells_at s l i p hi).1; rwa [e] at this
    · have := hc _ _ (rcells_at s l i p hi).2.1; rwa [e] at this
    · have := hc _ _ (rcells_at s l i p hi).2.2; rwa [e] at this
theorem RToks.below {s : ByteArray} {w w' : World} {A : Option Addr} {l : List Nat} (h : RToks s w A l) (hb : Below w.heap.size w w') : RToks s w' A l :=
  fun i p hi => by
    obtain ⟨g, hA, hg, c0, c1, c2⟩ := h i p hi
    exact ⟨g, hA, Nat.lt_of_lt_of_le hg hb.size, (hb.cell (p := ⟨g, i * 3, none⟩) hg).trans c0, (hb.cell (p := ⟨g, i * 3 + 1, none⟩) hg).trans c1, (hb.cell (p := ⟨g, i * 3 + 2, none⟩) hg).trans c2⟩

theorem scan_ends (s : ByteArray) (pre : List Nat) (f a : Nat) (h : pre ++ places s f a = places s (s.size + 1) 0) (hf : 0 < f) (hk : tkKind s (skipTo s a) = 0) : stopAt s = skipTo s a ∧ tokensOf s = pre := by
  rw [(places_eq s).1] at h
  cases f with
  | zero => omega
  | succ f =>
    simp only [places, hk, if_true] at h
    obtain ⟨h1, h2⟩ := List.append_inj' h rfl
    simp only [List.cons.injEq, and_true] at h2
    exact ⟨h2.symm, h1.symm⟩
theorem scan_goes (s : ByteArray) (pre : List Nat) (f a : Nat) (h : pre ++ places s f a = places s (s.size + 1) 0) (ha : a ≤ s.size) (hf : s.size < f + a) (hk : tkKind s (skipTo s a) ≠ 0) :
    ∃ f', f = f' + 1 ∧ (pre ++ [skipTo s a]) ++ places s f' (tkEnd s (skipTo s a)) = places s (s.size + 1) 0 ∧ tkEnd s (skipTo s a) ≤ s.size ∧ s.size < f' + tkEnd s (skipTo s a) ∧ skipTo s a < s.size ∧ a < tkEnd s (skipTo s a) := by
  have h1 := skipTo_le s a ha
  have h2 := skipTo_ge s a
  have h3 : skipTo s a < s.size := by
    rcases Nat.lt_or_ge (skipTo s a) s.size with h | h
    · exact h
    · have : skipTo s a = s.size := by omega
      rw [this] at hk
      exact absurd (tkKind_end s) hk
  have h4 := (tok_form s _ h3 hk).1
  have h5 := tkEnd_le s _ h1
  generalize places s (s.size + 1) 0 = R at h ⊢
  cases f with
  | zero => omega
  | succ f =>
    simp only [places, hk, if_false] at h
    exact ⟨f, rfl, by rw [← h]; simp, h5, by omega, h3, by omega⟩
theorem grown_cell {W W' : World} {row : Option Nat} (hg : W.grownBy W' row) (b o : Nat) (hb : b < W.heap.size) (hr : row ≠ some b) : W'.cell? ⟨b, o, none⟩ = W.cell? ⟨b, o, none⟩ := by
  simp only [World.cell?]
  rw [hg.block b hb (fun e => hr e.symm)]

set_option maxRecDepth 100000 in
set_option maxHeartbeats 1000000 in
theorem rscan_own (s : ByteArray) (hs : s.size ≤ 65536) (w : World) :
    Calls Tryd.prog 39 #[.string s] w fun e w' => ∃ v, e = .returned (.tuple #[v, .int .i64 (stopAt s : Nat), .int .i64 (scanErr s : Nat)]) ∧ w'.ownsRow w.heap.size 82 3 v (scanL s).length (rcells s (scanL s)) ∧ Below w.heap.size w w' := by
  obtain ⟨i0, hi, hz0, hz1, hz2⟩ := info_parts info82
  go_enter Tryd.func39, Tryd.ntmps39
  go_wp2_with fail
  go_loopw [5, 6] (fun v i wr => ∃ (pre : List Nat) (f a : Nat), i = .int .i64 (a : Nat) ∧ a ≤ s.size ∧ s.size < f + a ∧ pre.length ≤ a ∧ Hid (pre ++ places s f a = places s (s.size + 1) 0) ∧ wr.ownsRow w.heap.size 82 3 v pre.length (rcells s pre) ∧ Below w.heap.size w wr) (fun _ i _ => s.size - (intOf i).toNat)
  case atStart => exact ⟨[], s.size + 1, 0, rfl, by omega, by omega, by simp, Lib.hid rfl, World.ownsRow_nil _ _ _ _, Below.refl _ _⟩
  case round =>
    obtain ⟨pre, f, a, rfl, ha, hf, hpl, hP, hrow, hB⟩ := hrel
    have hz := skipTo_le s a ha
    have hnx := fun w => rnext_in s a w (by omega) ha
    by_cases hk : tkKind s (skipTo s a) = 0
    · obtain ⟨q1, q2⟩ := scan_ends s pre f a hP.out (by omega) hk
      by_cases hlt : skipTo s a < s.size
      · have e1 : nxErr s (skipTo s a) = 280 := by unfold nxErr; rw [if_pos ⟨hk, hlt⟩]
        have e2 : scanErr s = 280 := by unfold scanErr; rw [q1, if_pos hlt]
        have e3 : scanL s = [] := by unfold scanL; rw [q1, if_pos hlt]
        rw [e1, hk] at hnx
        have HNX := Lib.hid hnx
        have HQ := Lib.hid q1
        have H2 := Lib.hid e2
        have H3 := Lib.hid e3
        have HBB := Lib.hid hB
        clear hnx q1 q2 e1 e2 e3 hk hrow hB
        go_wp2_with fail
        refine (HNX.out _).mono ?_
        rintro e w1 ⟨rfl, hb⟩
        go_wp2_with fail
        go_quiet (fail)
        go_wp2
        go_ret3
        refine ⟨_, by rw [HQ.out, H2.out]; rfl, ?_, below_drewN (((HBB.out.trans (hb.mono HBB.out.size)).alloc (by have := HBB.out.size; have := hb.size; omega) _)) _⟩
        rw [H3.out]
        exact World.ownsRow_nil _ _ _ _
      · have hze : skipTo s a = s.size := by omega
        have e1 : nxErr s (skipTo s a) = 0 := by unfold nxErr; rw [if_neg (fun h => hlt h.2)]
        have e2 : scanErr s = 0 := by unfold scanErr; rw [q1, if_neg hlt]
        have e3 : scanL s = pre := by unfold scanL; rw [q1, if_neg hlt, q2]
        rw [e1, hk] at hnx
        have HNX := Lib.hid hnx
        have HQ := Lib.hid (q1.trans hze)
        have H2 := Lib.hid e2
        have H3 := Lib.hid e3
        have HBB := Lib.hid hB
        have HRO := Lib.hid hrow
        clear hnx q1 q2 e1 e2 e3 hk hrow hB hze
        go_wp2_with fail
        refine (HNX.out _).mono ?_
        rintro e w1 ⟨rfl, hb⟩
        go_wp2_with fail
        go_ret3
        refine ⟨_, by rw [HQ.out, H2.out]; rfl, ?_, (HBB.out.trans (hb.mono HBB.out.size)).alloc (by have := HBB.out.size; have := hb.size; omega) _⟩
        rw [H3.out]
        exact (own_below HRO.out hb).alloc _
    · obtain ⟨f', hf', g1, g2, g3, g4, g5⟩ := scan_goes s pre f a hP.out ha hf hk
      have e1 : nxErr s (skipTo s a) = 0 := by unfold nxErr; rw [if_neg (fun h => hk h.1)]
      have ek : ((tkKind s (skipTo s a) : Int) == 0) = false := by simpa using hk
      rw [e1] at hnx
      have HNX := Lib.hid hnx
      have G1 := Lib.hid g1
      have HBB := Lib.hid hB
      have HRO := Lib.hid hrow
      have hzg := skipTo_ge s a
      generalize skipTo s a = z at *
      clear hnx e1 hk hrow hB g1 hP
      go_wp2_with fail
      refine (HNX.out _).mono ?_
      rintro e w1 ⟨rfl, hb⟩
      have own1 := Lib.hid ((own_below HRO.out hb).alloc (.cells #[.int .i64 (tkKind s z : Nat), .int .i64 (z : Int), .int .i64 (tkEnd s z : Nat)] 82))
      have hB1 := Lib.hid (HBB.out.trans (hb.mono HBB.out.size))
      have hs1 := hB1.out.size
      go_wp2_with (at_builtin; refine wpList_append_own_at _ rfl _ _ 77 rfl w.heap.size 82 i0 (.agg #[.int .i64 0, .int .i64 0, .int .i64 0]) 3 24 Tryd.underlying77 hi hz0 hz1 hz2 rfl (by decide) _ _ _ rfl (own1.out.alloc _) ⟨w1.heap.size + 1, 0, none⟩ 1 1 [.int .i64 (tkKind s z : Nat), .int .i64 (z : Int), .int .i64 (tkEnd s z : Nat)] rfl rfl (by simpa using cells3_new (w1.alloc (.cells #[.int .i64 (tkKind s z : Nat), .int .i64 (z : Int), .int .i64 (tkEnd s z : Nat)] 82)) _ _ _ _) (by simp [Value.oneCell']) (by unfold maxLen; omega) (by omega) (by simp; omega) ?_; intro v' w3 hown' hgrow hnl hat; have hce : w3.cell? ⟨w1.heap.size, 2, none⟩ = some (.int .i64 (tkEnd s z : Nat)) := (grown_cell hgrow _ _ (by simp; omega) (fun e => by have := (HRO.out.lt _ e).2; have := hb.size; omega)).trans (by simp [go_sem]))
      have hB3 : Below w.heap.size w w3 := ((hB1.out.alloc hs1 _).alloc (by simp; omega) _).grown hgrow (by simp; omega) (fun g' hg' => own_lt HRO.out g' hg')
      go_roundw
      case rel => exact ⟨pre ++ [z], f', _, rfl, g2, g3, by simp; omega, G1, by rw [rcells_snoc]; simpa using hown', hB3⟩
      case measure => simp [intOf]; omega
theorem rscan_any (s : ByteArray) (hs : s.size ≤ 65536) (w : World) :
    Calls Tryd.prog 39 #[.string s] w fun e w' => ∃ (A : Option Addr) (c : Nat), e = .returned (.tuple #[.slice A (scanL s).length c, .int .i64 (stopAt s : Nat), .int .i64 (scanErr s : Nat)]) ∧ (scanL s).length ≤ c ∧ RToks s w' A (scanL s) ∧ Below w.heap.size w w' :=
  (rscan_own s hs w).mono fun _ _ ⟨v, he, hr, hb⟩ => by
    obtain ⟨A, c, hv, hc, hT⟩ := RToks.of_own hr
    subst hv
    exact ⟨A, c, he, hc, hT, hb⟩
end Go.Proofs.YtihigfpikiaaiaaDoor
