/- analyze: Conflict. -/
import Derived.Test.YtiodfolcnnkdjaaGreatAl
namespace Go.Proofs.YtiodfolcnnkdjaaGreat
open Go.RowKit Go.Shelf Go.Maps
attribute [local go_sem] Oper.semAt_some

/-- the world in which Conflict begins -/
structure CfStart (a b : Nat) (w W0 : World) : Prop where
  size : W0.heap.size = w.heap.size + 4
  res : W0.heap[w.heap.size]? = some (.cells #[.slice none 0 0, .int .i64 0, .int .i64 0, .slice none 0 0, .slice none 0 0] 44 (0, 0))
  err : W0.heap[w.heap.size + 1]? = some (.cells #[.int .i64 0] 45 (0, 0))
  map : MapAt W0 (w.heap.size + 1 + 1) 0 (metF [])
  wk : W0.heap[w.heap.size + 1 + 1 + 1]? = some (.cells #[.pointer (some ⟨a, 0, none⟩), .pointer (some ⟨b, 0, none⟩), .map (some (w.heap.size + 1 + 1))] 141 (0, 0))
theorem cf_start (a b : Nat) (w : World) : ∃ W0, ((((w.alloc (.cells #[.slice none 0 0, .int .i64 0, .int .i64 0, .slice none 0 0, .slice none 0 0] 44)).alloc (.cells #[.int .i64 0] 45)).alloc (.map #[] 0)).alloc (.cells #[.pointer (some ⟨a, 0, none⟩), .pointer (some ⟨b, 0, none⟩), .map (some (w.heap.size + 1 + 1))] 141)) = W0 ∧ Below w.heap.size w W0 ∧ CfStart a b w W0 := by
  refine ⟨_, rfl, (((mx_al _ _).alloc (by simp) _).alloc (by simp; omega) _).alloc (by simp; omega) _, ?_, ?_, ?_, ?_, ?_⟩
  · simp
  · rw [Below.heap_alloc _ _ _ (by simp; omega), Below.heap_alloc _ _ _ (by simp; omega), Below.heap_alloc _ _ _ (by simp)]
    exact World.alloc_heap_new _ _
  · rw [Below.heap_alloc _ _ _ (by simp), Below.heap_alloc _ _ _ (by simp)]
    have := World.alloc_heap_new (w.alloc (.cells #[.slice none 0 0, .int .i64 0, .int .i64 0, .slice none 0 0, .slice none 0 0] 44)) (.cells #[.int .i64 0] 45)
    rwa [World.size_alloc] at this
  · have := MapAt.made ((w.alloc (.cells #[.slice none 0 0, .int .i64 0, .int .i64 0, .slice none 0 0, .slice none 0 0] 44)).alloc (.cells #[.int .i64 0] 45))
    rw [World.size_alloc, World.size_alloc] at this
    exact this.below (mx_al _ _)
  · have := World.alloc_heap_new (((w.alloc (.cells #[.slice none 0 0, .int .i64 0, .int .i64 0, .slice none 0 0, .slice none 0 0] 44)).alloc (.cells #[.int .i64 0] 45)).alloc (.map #[] 0)) (.cells #[.pointer (some ⟨a, 0, none⟩), .pointer (some ⟨b, 0, none⟩), .map (some (w.heap.size + 1 + 1))] 141)
    rwa [World.size_alloc, World.size_alloc, World.size_alloc] at this
theorem cells5 {w : World} {b : Nat} {c0 c1 c2 c3 c4 : Value} {t : TypeId} (h : w.heap[b]? = some (.cells #[c0, c1, c2, c3, c4] t (0, 0))) :
    (w.cell? ⟨b, 0, none⟩ = some c0 ∧ w.cell? ⟨b, 1, none⟩ = some c1 ∧ w.cell? ⟨b, 2, none⟩ = some c2 ∧ w.cell? ⟨b, 3, none⟩ = some c3 ∧ w.cell? ⟨b, 4, none⟩ = some c4) ∧ w.frozen? ⟨b, 0, none⟩ = false ∧ w.frozen? ⟨b, 1, none⟩ = false ∧ w.frozen? ⟨b, 2, none⟩ = false ∧ w.frozen? ⟨b, 3, none⟩ = false ∧ w.frozen? ⟨b, 4, none⟩ = false :=
  ⟨⟨mx_cell (j := 0) h, mx_cell (j := 1) h, mx_cell (j := 2) h, mx_cell (j := 3) h, mx_cell (j := 4) h⟩, mx_free h, mx_free h, mx_free h, mx_free h, mx_free h⟩
theorem cells4 {w : World} {b : Nat} {c0 c1 c2 c3 : Value} {t : TypeId} (h : w.heap[b]? = some (.cells #[c0, c1, c2, c3] t (0, 0))) :
    (w.cell? ⟨b, 0, none⟩ = some c0 ∧ w.cell? ⟨b, 1, none⟩ = some c1 ∧ w.cell? ⟨b, 2, none⟩ = some c2 ∧ w.cell? ⟨b, 3, none⟩ = some c3) ∧ w.frozen? ⟨b, 0, none⟩ = false ∧ w.frozen? ⟨b, 1, none⟩ = false ∧ w.frozen? ⟨b, 2, none⟩ = false ∧ w.frozen? ⟨b, 3, none⟩ = false :=
  ⟨⟨mx_cell (j := 0) h, mx_cell (j := 1) h, mx_cell (j := 2) h, mx_cell (j := 3) h⟩, mx_free h, mx_free h, mx_free h, mx_free h⟩
/-- cells of a box, later -/
theorem bx4 {w w' : World} (h : Below w.heap.size w w') {b : Nat} {c0 c1 c2 c3 : Value} {t : TypeId} (hb : w.heap[b]? = some (.cells #[c0, c1, c2, c3] t (0, 0))) : w'.cell? ⟨b, 0, none⟩ = some c0 ∧ w'.cell? ⟨b, 1, none⟩ = some c1 ∧ w'.cell? ⟨b, 2, none⟩ = some c2 ∧ w'.cell? ⟨b, 3, none⟩ = some c3 := (cells4 ((h.block _ (heap_lt hb)).trans hb)).1
theorem bx2 {w w' : World} (h : Below w.heap.size w w') {b : Nat} {c0 c1 : Value} {t : TypeId} (hb : w.heap[b]? = some (.cells #[c0, c1] t (0, 0))) : w'.cell? ⟨b, 0, none⟩ = some c0 ∧ w'.cell? ⟨b, 1, none⟩ = some c1 := ⟨mx_cell (j := 0) ((h.block _ (heap_lt hb)).trans hb), mx_cell (j := 1) ((h.block _ (heap_lt hb)).trans hb)⟩
theorem bx3 {w w' : World} (h : Below w.heap.size w w') {b : Nat} {c0 c1 c2 : Value} {t : TypeId} (hb : w.heap[b]? = some (.cells #[c0, c1, c2] t (0, 0))) : w'.cell? ⟨b, 0, none⟩ = some c0 ∧ w'.cell? ⟨b, 1, none⟩ = some c1 ∧ w'.cell? ⟨b, 2, none⟩ = some c2 := ⟨mx_cell (j := 0) ((h.block _ (heap_lt hb)).trans hb), mx_cell (j := 1) ((h.block _ (heap_lt hb)).trans hb), mx_cell (j := 2) ((h.block _ (heap_lt hb)).trans hb)⟩
theorem bx1 {w w' : World} (h : Below w.heap.size w w') {b : Nat} {c0 : Value} {t : TypeId} (hb : w.heap[b]? = some (.cells #[c0] t (0, 0))) : w'.cell? ⟨b, 0, none⟩ = some c0 := mx_cell (j := 0) ((h.block _ (heap_lt hb)).trans hb)
theorem res_learned {fn : Func} (h : fn.results = #[.cell 6 44, .cell 7 45]) {w : World} {r q : Nat} {c0 c1 c2 c3 c4 v : Value} {t t' : TypeId} (h6 : w.heap[r]? = some (.cells #[c0, c1, c2, c3, c4] t (0, 0))) (h7 : w.heap[q]? = some (.cells #[v] t' (0, 0)))
    (tmps : Array Value) (t6 : tmps[6]?.getD undef = .pointer (some ⟨r, 0, none⟩)) (t7 : tmps[7]?.getD undef = .pointer (some ⟨q, 0, none⟩)) :
    (results fn tmps).run Tryz.prog w = .ok (.tuple #[.agg #[c0, c1, c2, c3, c4], v]) w := by
  obtain ⟨⟨p0, p1, p2, p3, p4⟩, _⟩ := cells5 h6
  have p7 := mx_cell (j := 0) h7
  simp [results, h, go_sem, t6, t7, p0, p1, p2, p3, p4, p7]
set_option maxRecDepth 100000 in
set_option maxHeartbeats 4000000 in
theorem conf_none {Oa : Nat → Prop} (a b : Nat) (A : Arn) (id : Int) (w : World) (ha : ArAt Oa w a A) (hg : A.get id = none) :
    Calls Tryz.prog 40 #[.pointer (some ⟨a, 0, none⟩), .pointer (some ⟨b, 0, none⟩), .int .i64 id] w fun e w' => e = .returned (.tuple #[.agg #[.slice none 0 0, .int .i64 0, .int .i64 0, .slice none 0 0, .slice none 0 0], .int .i64 30]) ∧ Below w.heap.size w w' := by
  have HA := Lib.hid ha
  have HG := Lib.hid hg
  clear ha hg
  have hmm := @run_makeMap Tryz.prog
  obtain ⟨W0, hW0, hb0, hs0⟩ := cf_start a b w
  have HW0 := Lib.hid hW0
  have HB0 := Lib.hid hb0
  have HS0 := Lib.hid hs0
  clear hW0 hb0 hs0
  refine (callsIn_wide (n := 9)).1 ?_
  refine callsIn_of_wp_marks Tryz.func40 rfl trivial ?_ rfl
  simp only [Tryz.ntmps40, List.size_toArray, List.length_cons, List.length_nil, Nat.reduceAdd, Nat.reduceSub, Array.replicate_succ, Array.replicate_zero, List.push_toArray, List.append_toArray, List.nil_append, List.cons_append]
  gi_wp2
  refine wpIn_wide.2 (wp_scope_straight ((wpIn_wide (n := 9)).1 ?_))
  gi_wp2_with fail
  rw [HW0.out]
  refine ⟨trivial, ?_⟩
  refine (callsIn_wide.2 (wk_fails_none a b _ A id _ (HA.out.below HB0.out) HG.out)).mono ?_
  rintro e w1 ⟨rfl, hb1⟩
  have k6 := (hb1.block w.heap.size (by have := HS0.out.size; omega)).trans HS0.out.res
  have k7 := (hb1.block (w.heap.size + 1) (by have := HS0.out.size; omega)).trans HS0.out.err
  have HB1 := Lib.hid (HB0.out.trans (hb1.mono HB0.out.size))
  have hz6 : w.heap.size < w1.heap.size := heap_lt k6
  have hz7 : w.heap.size + 1 < w1.heap.size := heap_lt k7
  obtain ⟨⟨p0, p1, p2, p3, p4⟩, f0, f1, f2, f3, f4⟩ := cells5 k6
  have p7 := mx_cell (j := 0) k7
  have f7 := mx_free (j := 0) k7
  have K6 := Lib.hid k6
  have K7 := Lib.hid k7
  clear k6 k7 hb1
  gi_wp2_with fail
  rw [Exit.noGoto_ret]
  obtain ⟨Wf, hWf⟩ : ∃ x, ((((((w1.setCell ⟨w.heap.size, 0, none⟩ (.slice none 0 0)).setCell ⟨w.heap.size, 1, none⟩ (.int .i64 0)).setCell ⟨w.heap.size, 2, none⟩ (.int .i64 0)).setCell ⟨w.heap.size, 3, none⟩ (.slice none 0 0)).setCell ⟨w.heap.size, 4, none⟩ (.slice none 0 0)).setCell ⟨w.heap.size + 1, 0, none⟩ (.int .i64 30)).alloc (.cells #[.int .i64 0] 3) = x := ⟨_, rfl⟩
  rw [hWf]
  have r6 : Wf.heap[w.heap.size]? = some (.cells #[.slice none 0 0, .int .i64 0, .int .i64 0, .slice none 0 0, .slice none 0 0] 44 (0, 0)) := by
    rw [← hWf, Below.heap_alloc _ _ _ (by simp [World.setCell]; omega), Below.heap_setCell _ _ _ _ (by simp)]
    exact mx_set (j := 4) (mx_set (j := 3) (mx_set (j := 2) (mx_set (j := 1) (mx_set (j := 0) K6.out _) _) _) _) _
  have r7 : Wf.heap[w.heap.size + 1]? = some (.cells #[.int .i64 30] 45 (0, 0)) := by
    rw [← hWf, Below.heap_alloc _ _ _ (by simp [World.setCell]; omega)]
    exact mx_set (j := 0) ((Below.heap_setCell _ _ _ _ (by simp)).trans ((Below.heap_setCell _ _ _ _ (by simp)).trans ((Below.heap_setCell _ _ _ _ (by simp)).trans ((Below.heap_setCell _ _ _ _ (by simp)).trans ((Below.heap_setCell _ _ _ _ (by simp)).trans K7.out))))) _
  have hbf : Below w.heap.size w Wf := by
    rw [← hWf]
    exact ((((((HB1.out.setCell (Nat.le_refl _) _).setCell (Nat.le_refl _) _).setCell (Nat.le_refl _) _).setCell (Nat.le_refl _) _).setCell (Nat.le_refl _) _).setCell (Nat.le_succ _) _).alloc (by simp [World.setCell]; omega) _
  clear hWf p0 p1 p2 p3 p4 f0 f1 f2 f3 f4 p7 f7
  exact ⟨_, res_learned rfl r6 r7 _ rfl rfl, rfl, hbf⟩
set_option maxRecDepth 100000 in
set_option maxHeartbeats 4000000 in
theorem conf_holds {O Oa : Nat → Prop} (a b : Nat) (A : Arn) (T : Trl) (id : Int) (w : World) (ha : ArAt Oa w a A) {c : List Int} (h : TrAt O w b T) (hg : A.get id = some c) (hcl : c.length ≤ 4194304) (hf : T.failMax c 0 = none) :
    Calls Tryz.prog 40 #[.pointer (some ⟨a, 0, none⟩), .pointer (some ⟨b, 0, none⟩), .int .i64 id] w fun e w' => e = .returned (.tuple #[.agg #[.slice none 0 0, .int .i64 0, .int .i64 0, .slice none 0 0, .slice none 0 0], .int .i64 140]) ∧ Below w.heap.size w w' := by
  have HA := Lib.hid ha
  have HG := Lib.hid hg
  have HT := Lib.hid h
  have HF := Lib.hid hf
  clear ha hg h hf
  have hmm := @run_makeMap Tryz.prog
  obtain ⟨W0, hW0, hb0, hs0⟩ := cf_start a b w
  have HW0 := Lib.hid hW0
  have HB0 := Lib.hid hb0
  have HS0 := Lib.hid hs0
  clear hW0 hb0 hs0
  refine (callsIn_wide (n := 9)).1 ?_
  refine callsIn_of_wp_marks Tryz.func40 rfl trivial ?_ rfl
  simp only [Tryz.ntmps40, List.size_toArray, List.length_cons, List.length_nil, Nat.reduceAdd, Nat.reduceSub, Array.replicate_succ, Array.replicate_zero, List.push_toArray, List.append_toArray, List.nil_append, List.cons_append]
  gi_wp2
  refine wpIn_wide.2 (wp_scope_straight ((wpIn_wide (n := 9)).1 ?_))
  gi_wp2_with fail
  rw [HW0.out]
  refine ⟨trivial, ?_⟩
  refine (callsIn_wide.2 (wk_fails a b _ A T id c _ (HA.out.below HB0.out) (HT.out.below HB0.out) HG.out hcl)).mono ?_
  rintro e w1 ⟨hor, hb1⟩
  rcases hor with ⟨v, n, hn, _⟩ | ⟨_, rfl⟩
  · rw [HF.out] at hn
    cases hn
  have k6 := (hb1.block w.heap.size (by have := HS0.out.size; omega)).trans HS0.out.res
  have k7 := (hb1.block (w.heap.size + 1) (by have := HS0.out.size; omega)).trans HS0.out.err
  have HB1 := Lib.hid (HB0.out.trans (hb1.mono HB0.out.size))
  have hz6 : w.heap.size < w1.heap.size := heap_lt k6
  have hz7 : w.heap.size + 1 < w1.heap.size := heap_lt k7
  obtain ⟨⟨p0, p1, p2, p3, p4⟩, f0, f1, f2, f3, f4⟩ := cells5 k6
  have p7 := mx_cell (j := 0) k7
  have f7 := mx_free (j := 0) k7
  have K6 := Lib.hid k6
  have K7 := Lib.hid k7
  clear k6 k7 hb1
  gi_wp2_with fail
  rw [Exit.noGoto_ret]
  obtain ⟨Wf, hWf⟩ : ∃ x, ((((((w1.setCell ⟨w.heap.size, 0, none⟩ (.slice none 0 0)).setCell ⟨w.heap.size, 1, none⟩ (.int .i64 0)).setCell ⟨w.heap.size, 2, none⟩ (.int .i64 0)).setCell ⟨w.heap.size, 3, none⟩ (.slice none 0 0)).setCell ⟨w.heap.size, 4, none⟩ (.slice none 0 0)).setCell ⟨w.heap.size + 1, 0, none⟩ (.int .i64 140)).alloc (.cells #[.int .i64 0] 3) = x := ⟨_, rfl⟩
  rw [hWf]
  have r6 : Wf.heap[w.heap.size]? = some (.cells #[.slice none 0 0, .int .i64 0, .int .i64 0, .slice none 0 0, .slice none 0 0] 44 (0, 0)) := by
    rw [← hWf, Below.heap_alloc _ _ _ (by simp [World.setCell]; omega), Below.heap_setCell _ _ _ _ (by simp)]
    exact mx_set (j := 4) (mx_set (j := 3) (mx_set (j := 2) (mx_set (j := 1) (mx_set (j := 0) K6.out _) _) _) _) _
  have r7 : Wf.heap[w.heap.size + 1]? = some (.cells #[.int .i64 140] 45 (0, 0)) := by
    rw [← hWf, Below.heap_alloc _ _ _ (by simp [World.setCell]; omega)]
    exact mx_set (j := 0) ((Below.heap_setCell _ _ _ _ (by simp)).trans ((Below.heap_setCell _ _ _ _ (by simp)).trans ((Below.heap_setCell _ _ _ _ (by simp)).trans ((Below.heap_setCell _ _ _ _ (by simp)).trans ((Below.heap_setCell _ _ _ _ (by simp)).trans K7.out))))) _
  have hbf : Below w.heap.size w Wf := by
    rw [← hWf]
    exact ((((((HB1.out.setCell (Nat.le_refl _) _).setCell (Nat.le_refl _) _).setCell (Nat.le_refl _) _).setCell (Nat.le_refl _) _).setCell (Nat.le_refl _) _).setCell (Nat.le_succ _) _).alloc (by simp [World.setCell]; omega) _
  clear hWf p0 p1 p2 p3 p4 f0 f1 f2 f3 f4 p7 f7
  exact ⟨_, res_learned rfl r6 r7 _ rfl rfl, rfl, hbf⟩
end Go.Proofs.YtiodfolcnnkdjaaGreat
