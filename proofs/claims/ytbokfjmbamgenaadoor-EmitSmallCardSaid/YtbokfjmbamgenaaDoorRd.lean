/- The reference's Forget: what it does. -/
import Derived.Test.YtbokfjmbamgenaaDoorRc
namespace Go.Proofs.YtbokfjmbamgenaaDoor
open Go.RowKit

/-- what is left of a list -/
def refRest (there ids : List Int) : List Int := ids.foldl (fun t x => t.filter (· != x)) there
/-- the first ID that is not there -/
def refBad : List Int → List Int → Option Int
  | _, [] => none
  | there, x :: r => if there.contains x = true then refBad (there.filter (· != x)) r else some x
theorem refRest_snoc (there l : List Int) (x : Int) : refRest there (l ++ [x]) = (refRest there l).filter (· != x) := by
  simp [refRest, List.foldl_append]
theorem refRest_len (there l : List Int) : (refRest there l).length ≤ there.length := by
  induction l generalizing there with
  | nil => exact Nat.le_refl _
  | cons x r ih => exact Nat.le_trans (ih (there.filter (· != x))) (List.length_filter_le _ _)
theorem refBad_snoc (there l : List Int) (x : Int) (h : refBad there l = none) (hx : (refRest there l).contains x = true) : refBad there (l ++ [x]) = none := by
  induction l generalizing there with
  | nil => simp only [List.nil_append, refBad]; rw [if_pos (by simpa [refRest] using hx)]
  | cons y r ih =>
    simp only [refBad] at h
    simp only [List.cons_append, refBad]
    split at h
    · rename_i hy
      rw [if_pos hy]
      exact ih _ h hx
    · cases h
theorem refBad_hit (there l r : List Int) (x : Int) (h : refBad there l = none) (hx : (refRest there l).contains x = false) : refBad there (l ++ x :: r) = some x := by
  induction l generalizing there with
  | nil => simp only [List.nil_append, refBad]; rw [if_neg (by rw [show there.contains x = false from hx]; decide)]
  | cons y s ih =>
    simp only [refBad] at h
    simp only [List.cons_append, refBad]
    split at h
    · rename_i hy
      rw [if_pos hy]
      exact ih _ h hx
    · cases h
def RLog.join (R : RLog) : Bool := match R.steps.getLast? with
  | some s => s.del
  | none => false
def refForgetErr (R : RLog) (ids : List Int) : Nat :=
  if R.done then 171 else if refBad R.there ids ≠ none then 170 else 0
def refForgetNum (R : RLog) (ids : List Int) : Int :=
  if R.done then 0 else match refBad R.there ids with
    | some x => x
    | none => if refForgetErr R ids = 0 then ids.length else 0
def RLog.forget (R : RLog) (ids : List Int) : RLog := match R.steps.getLast? with
  | some s => if s.del then ⟨refRest R.there ids, R.last, R.steps.dropLast ++ [⟨true, s.id, s.lits, s.hints ++ ids⟩], R.done⟩ else ⟨refRest R.there ids, R.last, R.steps ++ [⟨true, R.last, [], ids⟩], R.done⟩
  | none => ⟨refRest R.there ids, R.last, R.steps ++ [⟨true, R.last, [], ids⟩], R.done⟩
def refForgetLog (R : RLog) (ids : List Int) : RLog := if refForgetErr R ids = 0 ∧ ids.length ≠ 0 then R.forget ids else R
/-- what Forget leaves -/
def ForgetPost (O Oi : Nat → Prop) (w : World) (R : RLog) (ids : List Int) (e : Ending) (w' : World) : Prop :=
  ∃ tv' stv', e = .returned (.tuple #[rVal tv' stv' (refForgetLog R ids), .int .i64 (refForgetNum R ids), .int .i64 (refForgetErr R ids : Nat)]) ∧ RLogAt (fun g => O g ∨ Oi g ∨ w.heap.size ≤ g) w' tv' stv' (refForgetLog R ids) ∧ Below w.heap.size w w'
theorem forget_post_stay {O Oi : Nat → Prop} {w w' : World} {tv stv : Value} {R : RLog} {ids : List Int} (n : Nat) (m : Int) (hR : RLogAt O w tv stv R) (h0 : refForgetErr R ids = n) (h1 : refForgetNum R ids = m) (hn : n ≠ 0 ∨ ids.length = 0) (hb : Below w.heap.size w w') :
    ForgetPost O Oi w R ids (.returned (.tuple #[rVal tv stv R, .int .i64 m, .int .i64 (n : Int)])) w' := by
  have h2 : refForgetLog R ids = R := by
    unfold refForgetLog
    rw [h0, if_neg]
    intro h
    rcases hn with hn | hn
    · exact hn h.1
    · exact h.2 hn
  refine ⟨tv, stv, ?_, ?_, hb⟩
  · rw [h0, h1, h2]
  · rw [h2]
    exact hR.wide hb (fun g hg => .inl hg)
theorem below_drewN' (w : World) (n : Nat) : Below w.heap.size w (w.drewN n) := ⟨rfl, rfl, rfl, Nat.le_refl _, fun _ _ => rfl⟩
/-- the steps that stay, and the deletion that is begun or gone on with -/
def JoinIs (steps : List EStep) (last : Int) (N : Nat) (s : EStep) : Prop :=
  (RLog.join ⟨[], last, steps, false⟩ = false ∧ N = steps.length ∧ s = ⟨true, last, [], []⟩) ∨ (RLog.join ⟨[], last, steps, false⟩ = true ∧ N + 1 = steps.length ∧ steps.getLast? = some s)
theorem join_hints {steps : List EStep} {last : Int} {N n : Nat} {id : Int} {lits hints : List Int} (h : JoinIs steps last N ⟨true, id, lits, hints⟩) (hs : ∀ s ∈ steps, s.hints.length + n ≤ 65536) (hn : n ≤ 65536) : hints.length + n ≤ 65536 := by
  rcases h with ⟨_, _, h3⟩ | ⟨_, _, h3⟩
  · cases h3
    simpa using hn
  · exact hs _ (List.mem_of_getLast? h3)
theorem rsteps_end {O : Nat → Prop} {w : World} {A : Option Addr} {n c N : Nat} {l : List EStep} {ms : List MStep} (h : RStepsAt O w (.slice A n c) l ms) (hN : ms.length = N + 1) :
    ∃ m g, A = some ⟨g, 0, none⟩ ∧ g < w.heap.size ∧ ms[N]? = some m ∧ l.getLast? = some m.s ∧ l = l.dropLast ++ [m.s] ∧ l.dropLast = (ms.take N).map MStep.s ∧ (IntsIn O w m.lv m.s.lits ∧ IntsIn O w m.hv m.s.hints) ∧ w.cell? ⟨g, N * 4, none⟩ = some (.bool m.s.del) ∧ w.cell? ⟨g, N * 4 + 1, none⟩ = some (.int .i64 m.s.id) ∧ w.cell? ⟨g, N * 4 + 2, none⟩ = some m.lv ∧ w.cell? ⟨g, N * 4 + 3, none⟩ = some m.hv := by
  obtain ⟨m, hm⟩ : ∃ m, ms[N]? = some m := ⟨_, List.getElem?_eq_getElem (by omega)⟩
  have hcell : ∀ j, j < 4 → (ms.flatMap MStep.cells)[N * 4 + j]? = m.cells[j]? := fun j hj => cells_at ms N m hm j hj
  obtain ⟨g, c', hv, hg, hO, h0⟩ := h.cells (N * 4 + 0) (.bool m.s.del) (by rw [hcell 0 (by omega)]; rfl)
  have hA : A = some ⟨g, 0, none⟩ := by cases hv; rfl
  have hrest : ∀ j u, (ms.flatMap MStep.cells)[N * 4 + j]? = some u → w.cell? ⟨g, N * 4 + j, none⟩ = some u := fun j u hj => by
    obtain ⟨g', c'', hv', _, _, hc⟩ := h.cells (N * 4 + j) u hj
    have hA' : A = some ⟨g', 0, none⟩ := by cases hv'; rfl
    rw [hA] at hA'
    cases hA'
    exact hc
  have hlast : l.getLast? = some m.s := by
    rw [← h.steps, List.getLast?_eq_getElem?, List.length_map, hN, List.getElem?_map]
    simp [hm]
  have hdl : l.dropLast = (ms.take N).map MStep.s := by
    rw [← h.steps, List.dropLast_eq_take, List.length_map, hN, List.map_take]
    rfl
  refine ⟨m, g, hA, hg, hm, hlast, ?_, hdl, h.each m (List.mem_of_getElem? hm), h0, hrest 1 _ (by rw [hcell 1 (by omega)]; rfl), hrest 2 _ (by rw [hcell 2 (by omega)]; rfl), hrest 3 _ (by rw [hcell 3 (by omega)]; rfl)⟩
  have hne : l ≠ [] := fun e => by rw [e] at hlast; cases hlast
  rw [List.getLast?_eq_some_getLast hne] at hlast
  conv => lhs; rw [← List.dropLast_concat_getLast hne]
  rw [Option.some.inj hlast]
theorem join_forget {there : List Int} {steps : List EStep} {last : Int} {N : Nat} {id : Int} {lits hints : List Int} (ids : List Int) (h : JoinIs steps last N ⟨true, id, lits, hints⟩) :
    RLog.forget ⟨there, last, steps, false⟩ ids = ⟨refRest there ids, last, steps.take N ++ [⟨true, id, lits, hints ++ ids⟩], false⟩ := by
  rcases h with ⟨h1, h2, h3⟩ | ⟨h1, h2, h3⟩
  · cases h3
    simp only [RLog.join] at h1
    unfold RLog.forget
    rw [h2, List.take_length]
    simp only []
    split
    · rename_i s hs
      rw [hs] at h1
      simp only [] at h1
      rw [h1]
      rfl
    · rfl
  · unfold RLog.forget
    simp only []
    rw [h3]
    simp only []
    rw [if_pos trivial, List.dropLast_eq_take]
    have e : steps.length - 1 = N := by omega
    rw [e]
theorem rsteps_joined {O : Nat → Prop} {w' : World} {cv hv : Value} {steps : List EStep} {ms : List MStep} {s : EStep} {B n : Nat} {Ax : Option Addr} {kx : Nat} (hn : ms.length = n) (hst : ms.map MStep.s = steps) (heach : ∀ m ∈ ms, IntsIn O w' m.lv m.s.lits ∧ IntsIn O w' m.hv m.s.hints)
    (hc : IntsIn O w' cv s.lits) (hh : IntsIn O w' hv s.hints)
    (hrow : w'.ownsRow B 98 4 (.slice Ax (n + 1) kx) (n + 1) (ms.flatMap MStep.cells ++ [.bool s.del, .int .i64 s.id, cv, hv])) (hB : ∀ g, B ≤ g → O g) :
    RStepsAt O w' (.slice Ax (n + 1) kx) (steps ++ [s]) (ms ++ [⟨cv, hv, s⟩]) := by
  subst hn
  refine ⟨?_, by rw [List.map_append, hst]; rfl, fun j u hj => ?_, fun m hm => ?_⟩
  · refine ⟨Ax, kx, by simp, ?_, fun hn => ?_⟩
    · obtain ⟨A, k, he, hle⟩ := own_slice hrow
      cases he
      simpa using hle
    · rcases hrow.2 with ⟨h0, h1⟩ | ⟨g, cap, cur, h1, _⟩
      · omega
      · rw [hn] at h1
        cases h1
  · have hj' : (ms.flatMap MStep.cells ++ [.bool s.del, .int .i64 s.id, cv, hv])[j]? = some u := by
      rw [List.flatMap_append] at hj
      simpa [MStep.cells] using hj
    rcases hrow.2 with ⟨h0, h1⟩ | ⟨g, cap, cur, h1, h2, h3, h4, h5, h6, h7⟩
    · omega
    · refine ⟨g, kx, by rw [List.length_append]; cases h1; rfl, (Array.getElem?_eq_some_iff.1 h3).1, hB g (by omega), ?_⟩
      rw [← h7] at hj'
      rw [List.getElem?_take] at hj'
      split at hj'
      · rw [World.cell?, h3]
        simpa using hj'
      · cases hj'
  · rcases List.mem_append.1 hm with h1 | h1
    · exact heach m h1
    · obtain rfl : m = _ := by simpa using h1
      exact ⟨hc, hh⟩
theorem rsteps_src_take {O : Nat → Prop} {w : World} {A : Option Addr} {Z N c : Nat} {l : List EStep} {ms : List MStep} (h : RStepsAt O w (.slice A Z c) l ms) (hZ : ms.length = Z) (hN : N ≤ Z) : SrcAt w (.slice A N c) N ((ms.take N).flatMap MStep.cells) := by
  obtain ⟨A', c', hv, hc, hn⟩ := h.form
  cases hv
  cases A with
  | none =>
    have h0 := hn rfl
    have hz : N = 0 := by omega
    subst hz
    subst h0
    exact .inl ⟨rfl, rfl, by simp⟩
  | some ad =>
    refine .inr ⟨ad, c, rfl, fun j u hj => ?_⟩
    have hj2 : (ms.flatMap MStep.cells)[j]? = some u := by
      have e : ms.flatMap MStep.cells = (ms.take N).flatMap MStep.cells ++ (ms.drop N).flatMap MStep.cells := by
        rw [← List.flatMap_append, List.take_append_drop]
      rw [e, List.getElem?_append_left (List.getElem?_eq_some_iff.1 hj).1]
      exact hj
    obtain ⟨g, c', hv, _, _, hcell⟩ := h.cells j u hj2
    have had : ad = ⟨g, 0, none⟩ := by cases hv; rfl
    rw [had, addr_add]
    exact hcell
theorem cells_take_len (ms : List MStep) (N Z : Nat) (hZ : ms.length = Z) (hN : N ≤ Z) : ((ms.take N).flatMap MStep.cells).length = N * 4 := by
  rw [cells_len, List.length_take, hZ, Nat.min_eq_left hN]
theorem rsteps_one_take {O : Nat → Prop} {w : World} {v : Value} {l : List EStep} {ms : List MStep} (h : RStepsAt O w v l ms) (N : Nat) : ∀ u ∈ (ms.take N).flatMap MStep.cells, u.oneCell' = true := by
  intro u hu
  obtain ⟨m, hm, hu⟩ := List.mem_flatMap.1 hu
  exact rsteps_one h u (List.mem_flatMap.2 ⟨m, List.mem_of_mem_take hm, hu⟩)
theorem ints_lt {O : Nat → Prop} {w : World} {v : Value} {xs : List Int} (h : IntsIn O w v xs) : IntsIn (fun g => O g ∧ g < w.heap.size) w v xs := by
  obtain ⟨A, c, hv, hc, hn, hx⟩ := h
  refine ⟨A, c, hv, hc, hn, fun i x hi => ?_⟩
  obtain ⟨g, o, h1, h2, h3, h4⟩ := hx i x hi
  exact ⟨g, o, h1, h2, ⟨h3, h2⟩, h4⟩
theorem filter_len_eq (T : List Int) (y : Int) (h : T.contains y = false) : T.filter (· != y) = T := by
  apply List.filter_eq_self.2
  intro z hz
  by_cases e : z = y
  · subst e
    have : T.contains z = true := by simpa using hz
    rw [this] at h
    cases h
  · simpa using e
theorem filter_len_lt (T : List Int) (y : Int) (h : T.contains y = true) : (T.filter (· != y)).length < T.length := by
  have hy : y ∈ T := by simpa using h
  have hle := List.length_filter_le (· != y) T
  rcases Nat.lt_or_ge (T.filter (· != y)).length T.length with h1 | h1
  · exact h1
  · have := (List.length_filter_eq_length_iff (p := (· != y)) (l := T)).1 (by omega) y hy
    simp at this
end Go.Proofs.YtbokfjmbamgenaaDoor
