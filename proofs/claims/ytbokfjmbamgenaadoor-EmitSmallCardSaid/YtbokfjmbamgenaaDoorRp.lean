/- salvorlaw17.EmitSmall: the walk. -/
import Derived.Test.YtbokfjmbamgenaaDoorRo
import Derived.Deep.DeepCutAuto
import Derived.Deep.CutBlock
namespace Go.Proofs.YtbokfjmbamgenaaDoor
open Go.RowKit

theorem acts_at {W : World} {sb n c i : Nat} {al : List Call17} {a : Call17} (h : ActsAt W (.slice (some ⟨sb, 0, none⟩) n c) al) (hi : al[i]? = some a) :
    ∃ Al cl Ai ci, sb < W.heap.size ∧ W.cell? ⟨sb, i * 3, none⟩ = some (.bool a.forget) ∧ W.cell? ⟨sb, i * 3 + 1, none⟩ = some (.slice Al a.lits.length cl) ∧ W.cell? ⟨sb, i * 3 + 2, none⟩ = some (.slice Ai a.ids.length ci) ∧ RowAt .i64 W (.slice Al a.lits.length cl) a.lits ∧ RowAt .i64 W (.slice Ai a.ids.length ci) a.ids := by
  obtain ⟨A, c', hv, _, _, hx⟩ := h
  obtain ⟨g, o, lv, iv, hA, hg, e0, e1, e2, r1, r2⟩ := hx i a hi
  obtain ⟨A1, c1, h1, _⟩ := r1
  obtain ⟨A2, c2, h2, _⟩ := r2
  have r1 := (hx i a hi)
  cases hv
  cases hA
  rw [Nat.zero_add] at e0 e1 e2
  subst h1
  subst h2
  obtain ⟨g', o', lv', iv', hA', _, e0', e1', e2', r1', r2'⟩ := r1
  cases hA'
  rw [Nat.zero_add] at e1' e2'
  rw [e1] at e1'
  rw [e2] at e2'
  obtain rfl := Option.some.inj e1'
  obtain rfl := Option.some.inj e2'
  exact ⟨A1, c1, A2, c2, hg, e0, e1, e2, r1', r2'⟩
theorem addDel_one (n : Nat) (ids : List Int) : ((newLog n).addDel ids).steps.length = 1 := rfl
theorem big_ints {O : Nat → Prop} {w : World} {g c : Nat} (n : Nat) (h : IntsIn O w (.slice (some ⟨g, 0, none⟩) (n + 1) c) (thereL (n + 1))) :
    IntsIn O w (.slice (some ⟨g, 0, none⟩) n c) (thereL n) ∧ IntsIn O w (.slice (some ⟨g, n, none⟩) 1 (c - n)) [((n + 1 : Nat) : Int)] := by
  obtain ⟨A, c', hv, hc, _, hx⟩ := h
  simp only [Value.slice.injEq] at hv
  obtain ⟨rfl, _, rfl⟩ := hv
  rw [thereL_length] at hc
  have hel : ∀ i x, (thereL (n + 1))[i]? = some x → g < w.heap.size ∧ O g ∧ w.cell? ⟨g, i, none⟩ = some (.int .i64 x) := fun i x hi => by
    obtain ⟨g', o', hA, h1, h2, h3⟩ := hx i x hi
    cases hA
    rw [Nat.zero_add] at h3
    exact ⟨h1, h2, h3⟩
  refine ⟨⟨_, c, by rw [thereL_length], by rw [thereL_length]; omega, (fun h => by cases h), fun i x hi => ?_⟩, ⟨_, c - n, rfl, by simp only [List.length_singleton]; omega, (fun h => by cases h), fun i x hi => ?_⟩⟩
  · obtain ⟨h1, h2, h3⟩ := hel i x (by rw [thereL_succ, List.getElem?_append_left (List.getElem?_eq_some_iff.1 hi).1]; exact hi)
    exact ⟨g, 0, rfl, h1, h2, by rw [Nat.zero_add]; exact h3⟩
  · have hi0 : i = 0 := by
      have := (List.getElem?_eq_some_iff.1 hi).1
      simp at this
      omega
    subst hi0
    obtain rfl : ((n + 1 : Nat) : Int) = x := Option.some.inj hi
    obtain ⟨h1, h2, h3⟩ := hel n ((n + 1 : Nat) : Int) (by
      rw [thereL_succ, List.getElem?_append_right (by rw [thereL_length]; exact Nat.le_refl _), thereL_length, Nat.sub_self]
      rfl)
    exact ⟨g, n, rfl, h1, h2, by rw [Nat.add_zero]; exact h3⟩
theorem wf_one {x : Int} (h : (Lit.int .i64 x).wf = true) : ∀ y ∈ [x], (Lit.int .i64 y).wf = true := fun y hy => by
  rw [List.mem_singleton.1 hy]
  exact h
theorem wf_two {x : Int} (h : (Lit.int .i64 x).wf = true) : ∀ y ∈ [1, x], (Lit.int .i64 y).wf = true := fun y hy => by
  simp only [List.mem_cons, List.not_mem_nil, or_false] at hy
  rcases hy with rfl | rfl
  · decide
  · exact h
set_option maxRecDepth 100000 in
set_option maxHeartbeats 8000000 in
theorem emitSmall_any (w : World) (ht : TabW w) : Calls Tryd.prog 4 #[] w fun e w' => e = .returned (.bool true) ∧ Below w.heap.size w w' := by
  have HT := Lib.hid ht
  clear ht
  obtain ⟨y1, hy1⟩ : ∃ x, w.alloc (.cells #[.int .i64 1, .int .i64 (-2)] 32) = x := ⟨_, rfl⟩
  have hby1 : Below w.heap.size w y1 := by rw [← hy1]; exact below_al _ _
  have hzy1 : y1.heap.size = w.heap.size + 1 := by rw [← hy1, World.size_alloc]
  have ry1 : RowAt .i64 y1 (.slice (some ⟨w.heap.size, 0, none⟩) 2 2) [1, -2] := by
    rw [← hy1]
    exact row_new w [1, -2] 32 (by decide) (by decide)
  obtain ⟨y2, hy2⟩ : ∃ x, y1.alloc (.cells #[.int .i64 1, .int .i64 2] 3) = x := ⟨_, rfl⟩
  have hby2 : Below y1.heap.size y1 y2 := by rw [← hy2]; exact below_al _ _
  have hzy2 : y2.heap.size = w.heap.size + 2 := by rw [← hy2, World.size_alloc, hzy1]
  have ry2 : RowAt .i64 y2 (.slice (some ⟨w.heap.size + 1, 0, none⟩) 2 2) [1, 2] := by
    rw [← hy2, ← hzy1]
    exact row_new y1 [1, 2] 3 (by decide) (by decide)
  obtain ⟨y3, hy3⟩ : ∃ x, y2.alloc (.cells #[.int .i64 2] 3) = x := ⟨_, rfl⟩
  have hby3 : Below y2.heap.size y2 y3 := by rw [← hy3]; exact below_al _ _
  have hzy3 : y3.heap.size = w.heap.size + 3 := by rw [← hy3, World.size_alloc, hzy2]
  have ry3 : RowAt .i64 y3 (.slice (some ⟨w.heap.size + 2, 0, none⟩) 1 1) [2] := by
    rw [← hy3, ← hzy2]
    exact row_new y2 [2] 3 (by decide) (by decide)
  obtain ⟨y4, hy4⟩ : ∃ x, y3.alloc (.cells #[.int .i64 3, .int .i64 1] 3) = x := ⟨_, rfl⟩
  have hby4 : Below y3.heap.size y3 y4 := by rw [← hy4]; exact below_al _ _
  have hzy4 : y4.heap.size = w.heap.size + 4 := by rw [← hy4, World.size_alloc, hzy3]
  have ry4 : RowAt .i64 y4 (.slice (some ⟨w.heap.size + 3, 0, none⟩) 2 2) [3, 1] := by
    rw [← hy4, ← hzy3]
    exact row_new y3 [3, 1] 3 (by decide) (by decide)
  obtain ⟨y5, hy5⟩ : ∃ x, y4.alloc (.cells #[.int .i64 3] 3) = x := ⟨_, rfl⟩
  have hby5 : Below y4.heap.size y4 y5 := by rw [← hy5]; exact below_al _ _
  have hzy5 : y5.heap.size = w.heap.size + 5 := by rw [← hy5, World.size_alloc, hzy4]
  have ry5 : RowAt .i64 y5 (.slice (some ⟨w.heap.size + 4, 0, none⟩) 1 1) [3] := by
    rw [← hy5, ← hzy4]
    exact row_new y4 [3] 3 (by decide) (by decide)
  obtain ⟨y6, hy6⟩ : ∃ x, y5.alloc (.cells #[.int .i64 3] 32) = x := ⟨_, rfl⟩
  have hby6 : Below y5.heap.size y5 y6 := by rw [← hy6]; exact below_al _ _
  have hzy6 : y6.heap.size = w.heap.size + 6 := by rw [← hy6, World.size_alloc, hzy5]
  have ry6 : RowAt .i64 y6 (.slice (some ⟨w.heap.size + 5, 0, none⟩) 1 1) [3] := by
    rw [← hy6, ← hzy5]
    exact row_new y5 [3] 32 (by decide) (by decide)
  obtain ⟨y7, hy7⟩ : ∃ x, y6.alloc (.cells #[.int .i64 0] 32) = x := ⟨_, rfl⟩
  have hby7 : Below y6.heap.size y6 y7 := by rw [← hy7]; exact below_al _ _
  have hzy7 : y7.heap.size = w.heap.size + 7 := by rw [← hy7, World.size_alloc, hzy6]
  have ry7 : RowAt .i64 y7 (.slice (some ⟨w.heap.size + 6, 0, none⟩) 1 1) [0] := by
    rw [← hy7, ← hzy6]
    exact row_new y6 [0] 32 (by decide) (by decide)
  obtain ⟨y8, hy8⟩ : ∃ x, y7.alloc (.cells #[.int .i64 9] 3) = x := ⟨_, rfl⟩
  have hby8 : Below y7.heap.size y7 y8 := by rw [← hy8]; exact below_al _ _
  have hzy8 : y8.heap.size = w.heap.size + 8 := by rw [← hy8, World.size_alloc, hzy7]
  have ry8 : RowAt .i64 y8 (.slice (some ⟨w.heap.size + 7, 0, none⟩) 1 1) [9] := by
    rw [← hy8, ← hzy7]
    exact row_new y7 [9] 3 (by decide) (by decide)
  have rY1 := ry1.below ((((((hby2.trans (hby3.mono (by omega))).trans (hby4.mono (by omega))).trans (hby5.mono (by omega))).trans (hby6.mono (by omega))).trans (hby7.mono (by omega))).trans (hby8.mono (by omega)))
  have rY2 := ry2.below (((((hby3.trans (hby4.mono (by omega))).trans (hby5.mono (by omega))).trans (hby6.mono (by omega))).trans (hby7.mono (by omega))).trans (hby8.mono (by omega)))
  have rY3 := ry3.below ((((hby4.trans (hby5.mono (by omega))).trans (hby6.mono (by omega))).trans (hby7.mono (by omega))).trans (hby8.mono (by omega)))
  have rY4 := ry4.below (((hby5.trans (hby6.mono (by omega))).trans (hby7.mono (by omega))).trans (hby8.mono (by omega)))
  have rY5 := ry5.below ((hby6.trans (hby7.mono (by omega))).trans (hby8.mono (by omega)))
  have rY6 := ry6.below (hby7.trans (hby8.mono (by omega)))
  have rY7 := ry7.below hby8
  have rY8 := ry8.below (Below.refl _ _)
  obtain ⟨y9, hy9⟩ : ∃ x, y8.alloc (.cells #[.bool false, .slice (some ⟨w.heap.size, 0, none⟩) 2 2, .slice (some ⟨w.heap.size + 1, 0, none⟩) 2 2, .bool true, .slice none 0 0, .slice (some ⟨w.heap.size + 2, 0, none⟩) 1 1, .bool true, .slice none 0 0, .slice (some ⟨w.heap.size + 3, 0, none⟩) 2 2, .bool false, .slice none 0 0, .slice (some ⟨w.heap.size + 4, 0, none⟩) 1 1, .bool false, .slice (some ⟨w.heap.size + 5, 0, none⟩) 1 1, .slice none 0 0, .bool true, .slice none 0 0, .slice none 0 0, .bool false, .slice (some ⟨w.heap.size + 6, 0, none⟩) 1 1, .slice (some ⟨w.heap.size + 7, 0, none⟩) 1 1] 28) = x := ⟨_, rfl⟩
  have hby9 : Below y8.heap.size y8 y9 := by rw [← hy9]; exact below_al _ _
  have ha9 : ActsAt y9 (.slice (some ⟨w.heap.size + 8, 0, none⟩) 7 7) someL := by
    rw [← hy9, ← hzy8]
    refine acts_new y8 [(⟨false, [1, -2], [1, 2]⟩, .slice (some ⟨w.heap.size, 0, none⟩) 2 2, .slice (some ⟨w.heap.size + 1, 0, none⟩) 2 2), (⟨true, [], [2]⟩, .slice none 0 0, .slice (some ⟨w.heap.size + 2, 0, none⟩) 1 1), (⟨true, [], [3, 1]⟩, .slice none 0 0, .slice (some ⟨w.heap.size + 3, 0, none⟩) 2 2), (⟨false, [], [3]⟩, .slice none 0 0, .slice (some ⟨w.heap.size + 4, 0, none⟩) 1 1), (⟨false, [3], []⟩, .slice (some ⟨w.heap.size + 5, 0, none⟩) 1 1, .slice none 0 0), (⟨true, [], []⟩, .slice none 0 0, .slice none 0 0), (⟨false, [0], [9]⟩, .slice (some ⟨w.heap.size + 6, 0, none⟩) 1 1, .slice (some ⟨w.heap.size + 7, 0, none⟩) 1 1)] (fun x hx => ?_)
    simp only [List.mem_cons, List.not_mem_nil, or_false] at hx
    rcases hx with rfl | rfl | rfl | rfl | rfl | rfl | rfl
    · exact ⟨rY1, rY2⟩
    · exact ⟨row_nil _, rY3⟩
    · exact ⟨row_nil _, rY4⟩
    · exact ⟨row_nil _, rY5⟩
    · exact ⟨rY6, row_nil _⟩
    · exact ⟨row_nil _, row_nil _⟩
    · exact ⟨rY7, rY8⟩
  have hbW : Below w.heap.size w y9 := ((((((((hby1.trans (hby2.mono (by omega))).trans (hby3.mono (by omega))).trans (hby4.mono (by omega))).trans (hby5.mono (by omega))).trans (hby6.mono (by omega))).trans (hby7.mono (by omega))).trans (hby8.mono (by omega)))).trans (hby9.mono (by omega))
  have HY1 := Lib.hid hy1
  have HY2 := Lib.hid hy2
  have HY3 := Lib.hid hy3
  have HY4 := Lib.hid hy4
  have HY5 := Lib.hid hy5
  have HY6 := Lib.hid hy6
  have HY7 := Lib.hid hy7
  have HY8 := Lib.hid hy8
  have HY9 := Lib.hid hy9
  have hzy9 : y9.heap.size = w.heap.size + 9 := by rw [← hy9, World.size_alloc, hzy8]
  have HA := Lib.hid ha9
  have HBW := Lib.hid hbW
  clear hy1 hby1 hy2 hby2 hy3 hby3 hy4 hby4 hy5 hby5 hy6 hby6 hy7 hby7 hy8 hby8 hy9 hby9 ry1 rY1 hzy1 ry2 rY2 hzy2 ry3 rY3 hzy3 ry4 rY4 hzy4 ry5 rY5 hzy5 ry6 rY6 hzy6 ry7 rY7 hzy7 ry8 rY8 hzy8 ha9 hbW
  
  go_enter Tryd.func4, Tryd.ntmps4
  go_wp2_with fail
  rw [HY1.out, HY2.out, HY3.out, HY4.out, HY5.out, HY6.out, HY7.out, HY8.out, HY9.out]
  clear HY1 HY2 HY3 HY4 HY5 HY6 HY7 HY8 HY9
  obtain ⟨sb, hsb⟩ : ∃ x, w.heap.size + 8 = x := ⟨_, rfl⟩
  rw [hsb] at HA ⊢
  have hsb9 : sb + 1 = y9.heap.size := by omega
  clear hzy9 hsb
  go_loopw [35] (fun i wr => ∃ n : Nat, n ≤ 2401 ∧ i = .int .i64 n ∧ Hid (Below y9.heap.size y9 wr)) (fun i _ => 2401 - (intOf i).toNat)
  case atStart => exact ⟨0, Nat.zero_le _, rfl, Lib.hid (Below.refl _ _)⟩
  case round =>
    obtain ⟨n, hn, rfl, HW⟩ := hrel
    rcases hc : decide (n < 2401) with _ | _
    case' true =>
      have hlt : n < 2401 := of_decide_eq_true hc
      have hcc : decide ((n : Int) < 2401) = true := by simp; omega
      clear hc
      have hzr := HW.out.size
      have HAR := Lib.hid (HA.out.below HW.out)
      have hq4 : (n : Int).tmod 4 = ((n % 4 : Nat) : Int) := rfl
      have hq7 : (n : Int).tmod 7 = ((n % 7 : Nat) : Int) := rfl
      have hd7 : (n : Int).tdiv 7 = ((n / 7 : Nat) : Int) := rfl
      have hd49 : (n : Int).tdiv 49 = ((n / 49 : Nat) : Int) := rfl
      have hd343 : (n : Int).tdiv 343 = ((n / 343 : Nat) : Int) := rfl
      have hq71 : ((n / 7 : Nat) : Int).tmod 7 = ((n / 7 % 7 : Nat) : Int) := rfl
      have hq72 : ((n / 49 : Nat) : Int).tmod 7 = ((n / 49 % 7 : Nat) : Int) := rfl
      have hj0 : n % 7 < 7 := Nat.mod_lt _ (by decide)
      have hj1 : n / 7 % 7 < 7 := Nat.mod_lt _ (by decide)
      have hj2 : n / 49 % 7 < 7 := Nat.mod_lt _ (by decide)
      have hj3 : n / 343 < 7 := by omega
      have hm4 : n % 4 < 4 := Nat.mod_lt _ (by decide)
      have hd1n : n / 7 ≤ 2401 := by omega
      have hd2n : n / 49 ≤ 2401 := by omega
      obtain ⟨m0, hm0⟩ : ∃ x, n % 4 = x := ⟨_, rfl⟩
      obtain ⟨j0, hj0e⟩ : ∃ x, n % 7 = x := ⟨_, rfl⟩
      obtain ⟨j1, hj1e⟩ : ∃ x, n / 7 % 7 = x := ⟨_, rfl⟩
      obtain ⟨j2, hj2e⟩ : ∃ x, n / 49 % 7 = x := ⟨_, rfl⟩
      obtain ⟨j3, hj3e⟩ : ∃ x, n / 343 = x := ⟨_, rfl⟩
      rw [hm0] at hq4 hm4
      rw [hj0e] at hq7 hj0
      rw [hj1e] at hq71 hj1
      rw [hj2e] at hq72 hj2
      rw [hj3e] at hd343 hj3
      obtain ⟨d1, hd1e⟩ : ∃ x, n / 7 = x := ⟨_, rfl⟩
      obtain ⟨d2, hd2e⟩ : ∃ x, n / 49 = x := ⟨_, rfl⟩
      rw [hd1e] at hd7 hq71 hd1n
      rw [hd2e] at hd49 hq72 hd2n
      clear hm0 hj0e hj1e hj2e hj3e hd1e hd2e
      have w0 : IntKind.i64.wrap (m0 : Int) = (m0 : Int) := IntWalk.i64_in _ (by omega)
      have w1 : IntKind.i64.wrap (j0 : Int) = (j0 : Int) := IntWalk.i64_in _ (by omega)
      have w2 : IntKind.i64.wrap (j1 : Int) = (j1 : Int) := IntWalk.i64_in _ (by omega)
      have w3 : IntKind.i64.wrap (j2 : Int) = (j2 : Int) := IntWalk.i64_in _ (by omega)
      have w4 : IntKind.i64.wrap (j3 : Int) = (j3 : Int) := IntWalk.i64_in _ (by omega)
      have w5 : IntKind.i64.wrap (d1 : Int) = (d1 : Int) := IntWalk.i64_in _ (by omega)
      have w6 : IntKind.i64.wrap (d2 : Int) = (d2 : Int) := IntWalk.i64_in _ (by omega)
      have x0 : (j0 : Int) < 7 := by omega
      have x1 : (j1 : Int) < 7 := by omega
      have x2 : (j2 : Int) < 7 := by omega
      have x3 : (j3 : Int) < 7 := by omega
      obtain ⟨a0, ha0⟩ := getElem_of (show j0 < someL.length from hj0)
      obtain ⟨L0, cl0, I0, ci0, _, e00, e01, e02, u0, v0⟩ := acts_at HAR.out ha0
      have hfit0 := someL_fits a0 (List.mem_of_getElem? ha0)
      obtain ⟨fg0, lits0, ids0⟩ := a0
      simp only [] at e00 e01 e02 u0 v0
      obtain ⟨a1, ha1⟩ := getElem_of (show j1 < someL.length from hj1)
      obtain ⟨L1, cl1, I1, ci1, _, e10, e11, e12, u1, v1⟩ := acts_at HAR.out ha1
      have hfit1 := someL_fits a1 (List.mem_of_getElem? ha1)
      obtain ⟨fg1, lits1, ids1⟩ := a1
      simp only [] at e10 e11 e12 u1 v1
      obtain ⟨a2, ha2⟩ := getElem_of (show j2 < someL.length from hj2)
      obtain ⟨L2, cl2, I2, ci2, _, e20, e21, e22, u2, v2⟩ := acts_at HAR.out ha2
      have hfit2 := someL_fits a2 (List.mem_of_getElem? ha2)
      obtain ⟨fg2, lits2, ids2⟩ := a2
      simp only [] at e20 e21 e22 u2 v2
      obtain ⟨a3, ha3⟩ := getElem_of (show j3 < someL.length from hj3)
      obtain ⟨L3, cl3, I3, ci3, _, e30, e31, e32, u3, v3⟩ := acts_at HAR.out ha3
      have hfit3 := someL_fits a3 (List.mem_of_getElem? ha3)
      obtain ⟨fg3, lits3, ids3⟩ := a3
      simp only [] at e30 e31 e32 u3 v3
      have HU := Lib.hid (⟨u0, v0, u1, v1, u2, v2, u3, v3⟩ : RowAt .i64 wr (.slice L0 lits0.length cl0) lits0 ∧ RowAt .i64 wr (.slice I0 ids0.length ci0) ids0 ∧ RowAt .i64 wr (.slice L1 lits1.length cl1) lits1 ∧ RowAt .i64 wr (.slice I1 ids1.length ci1) ids1 ∧ RowAt .i64 wr (.slice L2 lits2.length cl2) lits2 ∧ RowAt .i64 wr (.slice I2 ids2.length ci2) ids2 ∧ RowAt .i64 wr (.slice L3 lits3.length cl3) lits3 ∧ RowAt .i64 wr (.slice I3 ids3.length ci3) ids3)
      have HFIT := Lib.hid (⟨hfit0, hfit1, hfit2, hfit3⟩ : Call17.Fits ⟨fg0, lits0, ids0⟩ ∧ Call17.Fits ⟨fg1, lits1, ids1⟩ ∧ Call17.Fits ⟨fg2, lits2, ids2⟩ ∧ Call17.Fits ⟨fg3, lits3, ids3⟩)
      have hsbr : sb < wr.heap.size := by omega
      clear u0 v0 u1 v1 u2 v2 u3 v3 hfit0 hfit1 hfit2 hfit3 ha0 ha1 ha2 ha3
      go_upto_region 5 with fail
      refine wp_region_held_drew (S := fun w' => w'.cell? ⟨sb, j0 * 3, none⟩ = some (.bool fg0) ∧ w'.cell? ⟨sb, j0 * 3 + 1, none⟩ = some (.slice L0 lits0.length cl0) ∧ w'.cell? ⟨sb, j0 * 3 + 2, none⟩ = some (.slice I0 ids0.length ci0) ∧ w'.cell? ⟨sb, j1 * 3, none⟩ = some (.bool fg1) ∧ w'.cell? ⟨sb, j1 * 3 + 1, none⟩ = some (.slice L1 lits1.length cl1) ∧ w'.cell? ⟨sb, j1 * 3 + 2, none⟩ = some (.slice I1 ids1.length ci1) ∧ w'.cell? ⟨sb, j2 * 3, none⟩ = some (.bool fg2) ∧ w'.cell? ⟨sb, j2 * 3 + 1, none⟩ = some (.slice L2 lits2.length cl2) ∧ w'.cell? ⟨sb, j2 * 3 + 2, none⟩ = some (.slice I2 ids2.length ci2) ∧ w'.cell? ⟨sb, j3 * 3, none⟩ = some (.bool fg3) ∧ w'.cell? ⟨sb, j3 * 3 + 1, none⟩ = some (.slice L3 lits3.length cl3) ∧ w'.cell? ⟨sb, j3 * 3 + 2, none⟩ = some (.slice I3 ids3.length ci3)) (by kernel_rfl) ⟨e00, e01, e02, e10, e11, e12, e20, e21, e22, e30, e31, e32⟩ (fun hHeld => ?_)
      obtain ⟨wD, hwD⟩ : ∃ x, wr.drew = x := ⟨_, rfl⟩
      have hbD : Below wr.heap.size wr wD := by rw [← hwD]; exact below_drew' wr
      rw [hwD] at hHeld ⊢
      have hzD : wr.heap.size ≤ wD.heap.size := by rw [← hwD]; exact Nat.le_refl _
      have HBD := Lib.hid hbD
      clear hwD hbD e00 e01 e02 e10 e11 e12 e20 e21 e22 e30 e31 e32
      refine takeD 0 38 (v := ?_) rfl (by rfl) (by kernel_rfl) (by kernel_rfl) (by kernel_rfl) (fun _ _ _ h => h) (Or.inl ⟨by rfl, ?_⟩) (by assumption) ?_
      rotate_left
      · intro w hSw
        obtain ⟨_, _, _, _, _, _, _, _, _, _, _, _⟩ := hSw
        go_simp
        try with_reducible rfl
      simp only [Act.put, List.setIfInBounds_toArray, List.set_cons_zero, List.set_cons_succ]
      refine takeD 1 39 (v := ?_) rfl (by rfl) (by kernel_rfl) (by kernel_rfl) (by kernel_rfl) (fun _ _ _ h => h) (Or.inl ⟨by rfl, ?_⟩) (by assumption) ?_
      rotate_left
      · intro w hSw
        obtain ⟨_, _, _, _, _, _, _, _, _, _, _, _⟩ := hSw
        go_simp
        try with_reducible rfl
      simp only [Act.put, List.setIfInBounds_toArray, List.set_cons_zero, List.set_cons_succ]
      refine takeD 2 40 (v := ?_) rfl (by rfl) (by kernel_rfl) (by kernel_rfl) (by kernel_rfl) (fun _ _ _ h => h) (Or.inl ⟨by rfl, ?_⟩) (by assumption) ?_
      rotate_left
      · intro w hSw
        obtain ⟨_, _, _, _, _, _, _, _, _, _, _, _⟩ := hSw
        go_simp
        try with_reducible rfl
      simp only [Act.put, List.setIfInBounds_toArray, List.set_cons_zero, List.set_cons_succ]
      refine takeD 3 41 (v := ?_) rfl (by rfl) (by kernel_rfl) (by kernel_rfl) (by kernel_rfl) (fun _ _ _ h => h) (Or.inl ⟨by rfl, ?_⟩) (by assumption) ?_
      rotate_left
      · intro w hSw
        obtain ⟨_, _, _, _, _, _, _, _, _, _, _, _⟩ := hSw
        go_simp
        try with_reducible rfl
      simp only [Act.put, List.setIfInBounds_toArray, List.set_cons_zero, List.set_cons_succ]
      refine takeD 4 42 (v := ?_) rfl (by rfl) (by kernel_rfl) (by kernel_rfl) (by kernel_rfl) (fun _ _ _ h => h) (Or.inl ⟨by rfl, ?_⟩) (by assumption) ?_
      rotate_left
      · intro w hSw
        obtain ⟨_, _, _, _, _, _, _, _, _, _, _, _⟩ := hSw
        go_simp
        try with_reducible rfl
      simp only [Act.put, List.setIfInBounds_toArray, List.set_cons_zero, List.set_cons_succ]
      refine takeD 5 43 (v := ?_) rfl (by rfl) (by kernel_rfl) (by kernel_rfl) (by kernel_rfl) (fun _ _ _ h => h) (Or.inl ⟨by rfl, ?_⟩) (by assumption) ?_
      rotate_left
      · intro w hSw
        obtain ⟨_, _, _, _, _, _, _, _, _, _, _, _⟩ := hSw
        go_simp
        try with_reducible rfl
      simp only [Act.put, List.setIfInBounds_toArray, List.set_cons_zero, List.set_cons_succ]
      refine takeD 6 44 (v := ?_) rfl (by rfl) (by kernel_rfl) (by kernel_rfl) (by kernel_rfl) (fun _ _ _ h => h) (Or.inl ⟨by rfl, ?_⟩) (by assumption) ?_
      rotate_left
      · intro w hSw
        obtain ⟨_, _, _, _, _, _, _, _, _, _, _, _⟩ := hSw
        go_simp
        try with_reducible rfl
      simp only [Act.put, List.setIfInBounds_toArray, List.set_cons_zero, List.set_cons_succ]
      refine takeD 7 45 (v := ?_) rfl (by rfl) (by kernel_rfl) (by kernel_rfl) (by kernel_rfl) (fun _ _ _ h => h) (Or.inl ⟨by rfl, ?_⟩) (by assumption) ?_
      rotate_left
      · intro w hSw
        obtain ⟨_, _, _, _, _, _, _, _, _, _, _, _⟩ := hSw
        go_simp
        try with_reducible rfl
      simp only [Act.put, List.setIfInBounds_toArray, List.set_cons_zero, List.set_cons_succ]
      refine takeD 8 46 (v := ?_) rfl (by rfl) (by kernel_rfl) (by kernel_rfl) (by kernel_rfl) (fun _ _ _ h => h) (Or.inl ⟨by rfl, ?_⟩) (by assumption) ?_
      rotate_left
      · intro w hSw
        obtain ⟨_, _, _, _, _, _, _, _, _, _, _, _⟩ := hSw
        go_simp
        try with_reducible rfl
      simp only [Act.put, List.setIfInBounds_toArray, List.set_cons_zero, List.set_cons_succ]
      refine takeD 9 47 (v := ?_) rfl (by rfl) (by kernel_rfl) (by kernel_rfl) (by kernel_rfl) (fun _ _ _ h => h) (Or.inl ⟨by rfl, ?_⟩) (by assumption) ?_
      rotate_left
      · intro w hSw
        obtain ⟨_, _, _, _, _, _, _, _, _, _, _, _⟩ := hSw
        go_simp
        try with_reducible rfl
      simp only [Act.put, List.setIfInBounds_toArray, List.set_cons_zero, List.set_cons_succ]
      refine takeD 10 48 (v := ?_) rfl (by rfl) (by kernel_rfl) (by kernel_rfl) (by kernel_rfl) (fun _ _ _ h => h) (Or.inl ⟨by rfl, ?_⟩) (by assumption) ?_
      rotate_left
      · intro w hSw
        obtain ⟨_, _, _, _, _, _, _, _, _, _, _, _⟩ := hSw
        go_simp
        try with_reducible rfl
      simp only [Act.put, List.setIfInBounds_toArray, List.set_cons_zero, List.set_cons_succ]
      refine takeD 11 49 (v := ?_) rfl (by rfl) (by kernel_rfl) (by kernel_rfl) (by kernel_rfl) (fun _ _ _ h => h) (Or.inl ⟨by rfl, ?_⟩) (by assumption) ?_
      rotate_left
      · intro w hSw
        obtain ⟨_, _, _, _, _, _, _, _, _, _, _, _⟩ := hSw
        go_simp
        try with_reducible rfl
      simp only [Act.put, List.setIfInBounds_toArray, List.set_cons_zero, List.set_cons_succ]
      refine takeD 12 50 (v := ?_) rfl (by rfl) (by kernel_rfl) (by kernel_rfl) (by kernel_rfl) (fun _ _ _ h => h) (Or.inl ⟨by rfl, ?_⟩) (by assumption) ?_
      rotate_left
      · intro w hSw
        obtain ⟨_, _, _, _, _, _, _, _, _, _, _, _⟩ := hSw
        go_simp
        try with_reducible rfl
      simp only [Act.put, List.setIfInBounds_toArray, List.set_cons_zero, List.set_cons_succ]
      refine takeD 13 51 (v := ?_) rfl (by rfl) (by kernel_rfl) (by kernel_rfl) (by kernel_rfl) (fun _ _ _ h => h) (Or.inl ⟨by rfl, ?_⟩) (by assumption) ?_
      rotate_left
      · intro w hSw
        obtain ⟨_, _, _, _, _, _, _, _, _, _, _, _⟩ := hSw
        go_simp
        try with_reducible rfl
      simp only [Act.put, List.setIfInBounds_toArray, List.set_cons_zero, List.set_cons_succ]
      refine takeD 14 52 (v := ?_) rfl (by rfl) (by kernel_rfl) (by kernel_rfl) (by kernel_rfl) (fun _ _ _ h => h) (Or.inl ⟨by rfl, ?_⟩) (by assumption) ?_
      rotate_left
      · intro w hSw
        obtain ⟨_, _, _, _, _, _, _, _, _, _, _, _⟩ := hSw
        go_simp
        try with_reducible rfl
      simp only [Act.put, List.setIfInBounds_toArray, List.set_cons_zero, List.set_cons_succ]
      refine takeD 15 53 (v := ?_) rfl (by rfl) (by kernel_rfl) (by kernel_rfl) (by kernel_rfl) (fun _ _ _ h => h) (Or.inl ⟨by rfl, ?_⟩) (by assumption) ?_
      rotate_left
      · intro w hSw
        obtain ⟨_, _, _, _, _, _, _, _, _, _, _, _⟩ := hSw
        go_simp
        try with_reducible rfl
      simp only [Act.put, List.setIfInBounds_toArray, List.set_cons_zero, List.set_cons_succ]
      refine takeD 16 54 (v := ?_) rfl (by rfl) (by kernel_rfl) (by kernel_rfl) (by kernel_rfl) (fun _ _ _ h => h) (Or.inl ⟨by rfl, ?_⟩) (by assumption) ?_
      rotate_left
      · intro w hSw
        obtain ⟨_, _, _, _, _, _, _, _, _, _, _, _⟩ := hSw
        go_simp
        try with_reducible rfl
      simp only [Act.put, List.setIfInBounds_toArray, List.set_cons_zero, List.set_cons_succ]
      refine takeD 17 55 (v := ?_) rfl (by rfl) (by kernel_rfl) (by kernel_rfl) (by kernel_rfl) (fun _ _ _ h => h) (Or.inl ⟨by rfl, ?_⟩) (by assumption) ?_
      rotate_left
      · intro w hSw
        obtain ⟨_, _, _, _, _, _, _, _, _, _, _, _⟩ := hSw
        go_simp
        try with_reducible rfl
      simp only [Act.put, List.setIfInBounds_toArray, List.set_cons_zero, List.set_cons_succ]
      refine takeD 18 56 (v := ?_) rfl (by rfl) (by kernel_rfl) (by kernel_rfl) (by kernel_rfl) (fun _ _ _ h => h) (Or.inl ⟨by rfl, ?_⟩) (by assumption) ?_
      rotate_left
      · intro w hSw
        obtain ⟨_, _, _, _, _, _, _, _, _, _, _, _⟩ := hSw
        go_simp
        try with_reducible rfl
      simp only [Act.put, List.setIfInBounds_toArray, List.set_cons_zero, List.set_cons_succ]
      refine takeD 19 57 (v := ?_) rfl (by rfl) (by kernel_rfl) (by kernel_rfl) (by kernel_rfl) (fun _ _ _ h => h) (Or.inl ⟨by rfl, ?_⟩) (by assumption) ?_
      rotate_left
      · intro w hSw
        obtain ⟨_, _, _, _, _, _, _, _, _, _, _, _⟩ := hSw
        go_simp
        try with_reducible rfl
      simp only [Act.put, List.setIfInBounds_toArray, List.set_cons_zero, List.set_cons_succ]
      refine takeD 20 58 (v := ?_) rfl (by rfl) (by kernel_rfl) (by kernel_rfl) (by kernel_rfl) (fun _ _ _ h => h) (Or.inl ⟨by rfl, ?_⟩) (by assumption) ?_
      rotate_left
      · intro w hSw
        obtain ⟨_, _, _, _, _, _, _, _, _, _, _, _⟩ := hSw
        go_simp
        try with_reducible rfl
      simp only [Act.put, List.setIfInBounds_toArray, List.set_cons_zero, List.set_cons_succ]
      refine takeD 21 59 (v := ?_) rfl (by rfl) (by kernel_rfl) (by kernel_rfl) (by kernel_rfl) (fun _ _ _ h => h) (Or.inl ⟨by rfl, ?_⟩) (by assumption) ?_
      rotate_left
      · intro w hSw
        obtain ⟨_, _, _, _, _, _, _, _, _, _, _, _⟩ := hSw
        go_simp
        try with_reducible rfl
      simp only [Act.put, List.setIfInBounds_toArray, List.set_cons_zero, List.set_cons_succ]
      refine takeD 22 60 (v := ?_) rfl (by rfl) (by kernel_rfl) (by kernel_rfl) (by kernel_rfl) (fun _ _ _ h => h) (Or.inl ⟨by rfl, ?_⟩) (by assumption) ?_
      rotate_left
      · intro w hSw
        obtain ⟨_, _, _, _, _, _, _, _, _, _, _, _⟩ := hSw
        go_simp
        try with_reducible rfl
      simp only [Act.put, List.setIfInBounds_toArray, List.set_cons_zero, List.set_cons_succ]
      refine takeD 23 61 (v := ?_) rfl (by rfl) (by kernel_rfl) (by kernel_rfl) (by kernel_rfl) (fun _ _ _ h => h) (Or.inl ⟨by rfl, ?_⟩) (by assumption) ?_
      rotate_left
      · intro w hSw
        obtain ⟨_, _, _, _, _, _, _, _, _, _, _, _⟩ := hSw
        go_simp
        try with_reducible rfl
      simp only [Act.put, List.setIfInBounds_toArray, List.set_cons_zero, List.set_cons_succ]
      refine wpAnyH_ready (rs := [24]) (by kernel_rfl) (by simp) ?_
      refine AllReadyH.cons rfl (fun K hK => ?_) AllReadyH.nil
      go_simp
      have hacts : ActsAt (wD.alloc (.cells #[.bool fg0, .slice L0 lits0.length cl0, .slice I0 ids0.length ci0, .bool fg1, .slice L1 lits1.length cl1, .slice I1 ids1.length ci1, .bool fg2, .slice L2 lits2.length cl2, .slice I2 ids2.length ci2, .bool fg3, .slice L3 lits3.length cl3, .slice I3 ids3.length ci3] 28)) (.slice (some ⟨wD.heap.size, 0, none⟩) 4 4) [⟨fg0, lits0, ids0⟩, ⟨fg1, lits1, ids1⟩, ⟨fg2, lits2, ids2⟩, ⟨fg3, lits3, ids3⟩] := by
        refine acts_new wD [(⟨fg0, lits0, ids0⟩, .slice L0 lits0.length cl0, .slice I0 ids0.length ci0), (⟨fg1, lits1, ids1⟩, .slice L1 lits1.length cl1, .slice I1 ids1.length ci1), (⟨fg2, lits2, ids2⟩, .slice L2 lits2.length cl2, .slice I2 ids2.length ci2), (⟨fg3, lits3, ids3⟩, .slice L3 lits3.length cl3, .slice I3 ids3.length ci3)] (fun x hx => ?_)
        simp only [List.mem_cons, List.not_mem_nil, or_false] at hx
        obtain ⟨u0, v0, u1, v1, u2, v2, u3, v3⟩ := HU.out
        rcases hx with rfl | rfl | rfl | rfl
        · exact ⟨u0.below HBD.out, v0.below HBD.out⟩
        · exact ⟨u1.below HBD.out, v1.below HBD.out⟩
        · exact ⟨u2.below HBD.out, v2.below HBD.out⟩
        · exact ⟨u3.below HBD.out, v3.below HBD.out⟩
      have hbN := below_al wD (.cells #[.bool fg0, .slice L0 lits0.length cl0, .slice I0 ids0.length ci0, .bool fg1, .slice L1 lits1.length cl1, .slice I1 ids1.length ci1, .bool fg2, .slice L2 lits2.length cl2, .slice I2 ids2.length ci2, .bool fg3, .slice L3 lits3.length cl3, .slice I3 ids3.length ci3] 28)
      obtain ⟨wN, hwN⟩ : ∃ x, wD.alloc (.cells #[.bool fg0, .slice L0 lits0.length cl0, .slice I0 ids0.length ci0, .bool fg1, .slice L1 lits1.length cl1, .slice I1 ids1.length ci1, .bool fg2, .slice L2 lits2.length cl2, .slice I2 ids2.length ci2, .bool fg3, .slice L3 lits3.length cl3, .slice I3 ids3.length ci3] 28) = x := ⟨_, rfl⟩
      rw [hwN] at hacts hbN ⊢
      have HACTS := Lib.hid hacts
      have HBN := Lib.hid (HBD.out.trans (hbN.mono HBD.out.size))
      have hzN := hbN.size
      refine hK.out _ _ ⟨(hbN.cell (p := ⟨sb, j0 * 3, none⟩) (by show sb < _; omega)).trans hHeld.1, (hbN.cell (p := ⟨sb, j0 * 3 + 1, none⟩) (by show sb < _; omega)).trans hHeld.2.1, (hbN.cell (p := ⟨sb, j0 * 3 + 2, none⟩) (by show sb < _; omega)).trans hHeld.2.2.1, (hbN.cell (p := ⟨sb, j1 * 3, none⟩) (by show sb < _; omega)).trans hHeld.2.2.2.1, (hbN.cell (p := ⟨sb, j1 * 3 + 1, none⟩) (by show sb < _; omega)).trans hHeld.2.2.2.2.1, (hbN.cell (p := ⟨sb, j1 * 3 + 2, none⟩) (by show sb < _; omega)).trans hHeld.2.2.2.2.2.1, (hbN.cell (p := ⟨sb, j2 * 3, none⟩) (by show sb < _; omega)).trans hHeld.2.2.2.2.2.2.1, (hbN.cell (p := ⟨sb, j2 * 3 + 1, none⟩) (by show sb < _; omega)).trans hHeld.2.2.2.2.2.2.2.1, (hbN.cell (p := ⟨sb, j2 * 3 + 2, none⟩) (by show sb < _; omega)).trans hHeld.2.2.2.2.2.2.2.2.1, (hbN.cell (p := ⟨sb, j3 * 3, none⟩) (by show sb < _; omega)).trans hHeld.2.2.2.2.2.2.2.2.2.1, (hbN.cell (p := ⟨sb, j3 * 3 + 1, none⟩) (by show sb < _; omega)).trans hHeld.2.2.2.2.2.2.2.2.2.2.1, (hbN.cell (p := ⟨sb, j3 * 3 + 2, none⟩) (by show sb < _; omega)).trans hHeld.2.2.2.2.2.2.2.2.2.2.2⟩ (fun hHeld1 => ?_)
      clear hK hHeld hacts hbN hwN
      have hHeld := hHeld1
      clear hHeld1
      refine wpAnyH_ready (rs := [25]) (by kernel_rfl) (by simp) ?_
      refine AllReadyH.cons rfl (fun K hK => ?_) AllReadyH.nil
      go_simp
      have hbe : Below w.heap.size w wN := HBW.out.trans ((HW.out.trans (HBN.out.mono HW.out.size)).mono HBW.out.size)
      refine (plays_all (m0 : Int) _ _ wN (HT.out.next hbe) HACTS.out (by show 4 ≤ 30; omega) (fun a ha => ?_)).mono ?_
      · simp only [List.mem_cons, List.not_mem_nil, or_false] at ha
        rcases ha with rfl | rfl | rfl | rfl
        · exact HFIT.out.1
        · exact HFIT.out.2.1
        · exact HFIT.out.2.2.1
        · exact HFIT.out.2.2.2
      rintro e w1' ⟨rfl, hb1⟩
      have HB1 := Lib.hid (HW.out.trans ((HBN.out.trans (hb1.mono HBN.out.size)).mono HW.out.size))
      have hz1' := hb1.size
      refine hK.out _ _ ⟨(hb1.cell (p := ⟨sb, j0 * 3, none⟩) (by show sb < _; omega)).trans hHeld.1, (hb1.cell (p := ⟨sb, j0 * 3 + 1, none⟩) (by show sb < _; omega)).trans hHeld.2.1, (hb1.cell (p := ⟨sb, j0 * 3 + 2, none⟩) (by show sb < _; omega)).trans hHeld.2.2.1, (hb1.cell (p := ⟨sb, j1 * 3, none⟩) (by show sb < _; omega)).trans hHeld.2.2.2.1, (hb1.cell (p := ⟨sb, j1 * 3 + 1, none⟩) (by show sb < _; omega)).trans hHeld.2.2.2.2.1, (hb1.cell (p := ⟨sb, j1 * 3 + 2, none⟩) (by show sb < _; omega)).trans hHeld.2.2.2.2.2.1, (hb1.cell (p := ⟨sb, j2 * 3, none⟩) (by show sb < _; omega)).trans hHeld.2.2.2.2.2.2.1, (hb1.cell (p := ⟨sb, j2 * 3 + 1, none⟩) (by show sb < _; omega)).trans hHeld.2.2.2.2.2.2.2.1, (hb1.cell (p := ⟨sb, j2 * 3 + 2, none⟩) (by show sb < _; omega)).trans hHeld.2.2.2.2.2.2.2.2.1, (hb1.cell (p := ⟨sb, j3 * 3, none⟩) (by show sb < _; omega)).trans hHeld.2.2.2.2.2.2.2.2.2.1, (hb1.cell (p := ⟨sb, j3 * 3 + 1, none⟩) (by show sb < _; omega)).trans hHeld.2.2.2.2.2.2.2.2.2.2.1, (hb1.cell (p := ⟨sb, j3 * 3 + 2, none⟩) (by show sb < _; omega)).trans hHeld.2.2.2.2.2.2.2.2.2.2.2⟩ (fun hHeld1 => ?_)
      clear hK hHeld hb1
      have hHeld := hHeld1
      clear hHeld1
      refine takeD 26 64 (v := ?_) rfl (by rfl) (by kernel_rfl) (by kernel_rfl) (by kernel_rfl) (fun _ _ _ h => h) (Or.inl ⟨by rfl, ?_⟩) (by assumption) ?_
      rotate_left
      · intro w hSw
        obtain ⟨_, _, _, _, _, _, _, _, _, _, _, _⟩ := hSw
        go_simp
        try with_reducible rfl
      simp only [Act.put, List.setIfInBounds_toArray, List.set_cons_zero, List.set_cons_succ]
      refine wpAnyH_done (by kernel_rfl) ?_ _
      clear hHeld
      go_wp2_with fail
      go_roundw
      case rel => exact ⟨n + 1, by omega, by go_num, HB1⟩
      case measure => simp [intOf]; omega
    case' false =>
      have hlt : ¬ n < 2401 := of_decide_eq_false hc
      have hcc : decide ((n : Int) < 2401) = false := by simp; omega
      clear hc
      have hzr := HW.out.size
      go_wp2_with fail
      obtain ⟨w0, rfl⟩ : ∃ x : World, x = wr := ⟨_, rfl⟩
      have HBS9 := Lib.hid (HW.out.trans ((below_al w0 (.cells #[.int .i64 (-9223372036854775808), .int .i64 (-1), .int .i64 0, .int .i64 1, .int .i64 2, .int .i64 3, .int .i64 1048577, .int .i64 1073741824, .int .i64 9223372036854775807] 3)).mono HW.out.size))
      obtain ⟨ws, hws⟩ : ∃ x, w0.alloc (.cells #[.int .i64 (-9223372036854775808), .int .i64 (-1), .int .i64 0, .int .i64 1, .int .i64 2, .int .i64 3, .int .i64 1048577, .int .i64 1073741824, .int .i64 9223372036854775807] 3) = x := ⟨_, rfl⟩
      have hrow := row_new w0 numsL 3 numsL_wf (by decide)
      rw [show (w0.alloc (.cells (numsL.map (Value.int .i64)).toArray 3)) = ws from hws] at hrow
      have hrs : RowAt .i64 ws (.slice (some ⟨w0.heap.size, 0, none⟩) 9 9) numsL := hrow
      rw [hws] at HBS9 ⊢
      have HBS := Lib.hid (HBW.out.trans (HBS9.out.mono HBW.out.size))
      have HRS := Lib.hid hrs
      have hzs : y9.heap.size ≤ ws.heap.size := HBS9.out.size
      obtain ⟨q9, hq9⟩ : ∃ x, w0.heap.size = x := ⟨_, rfl⟩
      rw [hq9] at HRS ⊢
      have hq9s : q9 < ws.heap.size := by
        obtain ⟨A, c, hv, _, _, _, _, hx⟩ := HRS.out
        obtain ⟨g, o, hA, hg, _⟩ := hx 0 _ rfl
        cases hv
        cases hA
        exact hg
      clear hws hrow hrs hq9 HW hzr hlt hcc hn
      go_loopw [68] (fun i wr => ∃ j : Nat, j ≤ 9 ∧ i = .int .i64 j ∧ Hid (Below ws.heap.size ws wr)) (fun i _ => 9 - (intOf i).toNat)
      case atStart => exact ⟨0, Nat.zero_le _, rfl, Lib.hid (Below.refl _ _)⟩
      case round =>
        obtain ⟨j, hj, rfl, HW⟩ := hrel
        have hzr := HW.out.size
        by_cases hjl : j < 9
        · obtain ⟨x, hx⟩ := getElem_of (show j < numsL.length from hjl)
          have hxw := numsL_wf x (List.mem_of_getElem? hx)
          have d0 : wr.cell? ⟨q9, j, none⟩ = some (.int .i64 x) := by
            obtain ⟨A, c, hv, _, _, _, _, hxx⟩ := HRS.out
            obtain ⟨g, o, hA, hg, he⟩ := hxx j x hx
            cases hv
            cases hA
            rw [Nat.zero_add] at he
            exact (HW.out.cell (p := ⟨q9, j, none⟩) hg).trans he
          clear hx
          obtain ⟨z1, hz1⟩ : ∃ zz, wr.alloc (.cells #[.int .i64 1] 32) = zz := ⟨_, rfl⟩
          have hbz1 : Below wr.heap.size wr z1 := by rw [← hz1]; exact below_al _ _
          have hzz1 : z1.heap.size = wr.heap.size + 1 := by rw [← hz1, World.size_alloc]
          have rz1 : RowAt .i64 z1 (.slice (some ⟨wr.heap.size, 0, none⟩) 1 1) [1] := by
            rw [← hz1]
            exact row_new wr [1] 32 (by decide) (by unfold maxLen; simp)
          obtain ⟨z2, hz2⟩ : ∃ zz, z1.alloc (.cells #[.int .i64 1, .int .i64 x] 3) = zz := ⟨_, rfl⟩
          have hbz2 : Below z1.heap.size z1 z2 := by rw [← hz2]; exact below_al _ _
          have hzz2 : z2.heap.size = wr.heap.size + 2 := by rw [← hz2, World.size_alloc, hzz1]
          have rz2 : RowAt .i64 z2 (.slice (some ⟨wr.heap.size + 1, 0, none⟩) 2 2) [1, x] := by
            rw [← hz2, ← hzz1]
            exact row_new z1 [1, x] 3 (wf_two hxw) (by unfold maxLen; simp)
          obtain ⟨z3, hz3⟩ : ∃ zz, z2.alloc (.cells #[.int .i64 x] 3) = zz := ⟨_, rfl⟩
          have hbz3 : Below z2.heap.size z2 z3 := by rw [← hz3]; exact below_al _ _
          have hzz3 : z3.heap.size = wr.heap.size + 3 := by rw [← hz3, World.size_alloc, hzz2]
          have rz3 : RowAt .i64 z3 (.slice (some ⟨wr.heap.size + 2, 0, none⟩) 1 1) [x] := by
            rw [← hz3, ← hzz2]
            exact row_new z2 [x] 3 (wf_one hxw) (by unfold maxLen; simp)
          obtain ⟨z4, hz4⟩ : ∃ zz, z3.alloc (.cells #[.int .i64 1, .int .i64 1] 3) = zz := ⟨_, rfl⟩
          have hbz4 : Below z3.heap.size z3 z4 := by rw [← hz4]; exact below_al _ _
          have hzz4 : z4.heap.size = wr.heap.size + 4 := by rw [← hz4, World.size_alloc, hzz3]
          have rz4 : RowAt .i64 z4 (.slice (some ⟨wr.heap.size + 3, 0, none⟩) 2 2) [1, 1] := by
            rw [← hz4, ← hzz3]
            exact row_new z3 [1, 1] 3 (by decide) (by unfold maxLen; simp)
          obtain ⟨z5, hz5⟩ : ∃ zz, z4.alloc (.cells #[.int .i64 1, .int .i64 x] 3) = zz := ⟨_, rfl⟩
          have hbz5 : Below z4.heap.size z4 z5 := by rw [← hz5]; exact below_al _ _
          have hzz5 : z5.heap.size = wr.heap.size + 5 := by rw [← hz5, World.size_alloc, hzz4]
          have rz5 : RowAt .i64 z5 (.slice (some ⟨wr.heap.size + 4, 0, none⟩) 2 2) [1, x] := by
            rw [← hz5, ← hzz4]
            exact row_new z4 [1, x] 3 (wf_two hxw) (by unfold maxLen; simp)
          have rZ1 := rz1.below (((hbz2.trans (hbz3.mono (by omega))).trans (hbz4.mono (by omega))).trans (hbz5.mono (by omega)))
          have rZ2 := rz2.below ((hbz3.trans (hbz4.mono (by omega))).trans (hbz5.mono (by omega)))
          have rZ3 := rz3.below (hbz4.trans (hbz5.mono (by omega)))
          have rZ4 := rz4.below hbz5
          have rZ5 := rz5.below (Below.refl _ _)
          obtain ⟨z6, hz6⟩ : ∃ zz, z5.alloc (.cells #[.bool false, .slice (some ⟨wr.heap.size, 0, none⟩) 1 1, .slice (some ⟨wr.heap.size + 1, 0, none⟩) 2 2, .bool true, .slice none 0 0, .slice (some ⟨wr.heap.size + 2, 0, none⟩) 1 1, .bool true, .slice none 0 0, .slice (some ⟨wr.heap.size + 3, 0, none⟩) 2 2, .bool true, .slice none 0 0, .slice (some ⟨wr.heap.size + 4, 0, none⟩) 2 2] 28) = zz := ⟨_, rfl⟩
          have hbz6 : Below z5.heap.size z5 z6 := by rw [← hz6]; exact below_al _ _
          have haz : ActsAt z6 (.slice (some ⟨wr.heap.size + 5, 0, none⟩) 4 4) (fourL x) := by
            rw [← hz6, ← hzz5]
            refine acts_new z5 [(⟨false, [1], [1, x]⟩, .slice (some ⟨wr.heap.size, 0, none⟩) 1 1, .slice (some ⟨wr.heap.size + 1, 0, none⟩) 2 2), (⟨true, [], [x]⟩, .slice none 0 0, .slice (some ⟨wr.heap.size + 2, 0, none⟩) 1 1), (⟨true, [], [1, 1]⟩, .slice none 0 0, .slice (some ⟨wr.heap.size + 3, 0, none⟩) 2 2), (⟨true, [], [1, x]⟩, .slice none 0 0, .slice (some ⟨wr.heap.size + 4, 0, none⟩) 2 2)] (fun y hy => ?_)
            simp only [List.mem_cons, List.not_mem_nil, or_false] at hy
            rcases hy with rfl | rfl | rfl | rfl
            · exact ⟨rZ1, rZ2⟩
            · exact ⟨row_nil _, rZ3⟩
            · exact ⟨row_nil _, rZ4⟩
            · exact ⟨row_nil _, rZ5⟩
          have hbzW : Below wr.heap.size wr z6 := ((((hbz1.trans (hbz2.mono (by omega))).trans (hbz3.mono (by omega))).trans (hbz4.mono (by omega))).trans (hbz5.mono (by omega))).trans (hbz6.mono (by omega))
          have HZ1 := Lib.hid hz1
          have HZ2 := Lib.hid hz2
          have HZ3 := Lib.hid hz3
          have HZ4 := Lib.hid hz4
          have HZ5 := Lib.hid hz5
          have HZ6 := Lib.hid hz6
          have HAZ := Lib.hid haz
          have HBZ := Lib.hid hbzW
          clear hz1 hbz1 hz2 hbz2 hz3 hbz3 hz4 hbz4 hz5 hbz5 hz6 hbz6 rz1 rZ1 hzz1 rz2 rZ2 hzz2 rz3 rZ3 hzz3 rz4 rZ4 hzz4 rz5 rZ5 hzz5 haz hbzW
          have HXW := Lib.hid hxw
          clear hxw
          go_wp2_with fail
          rw [HZ1.out, HZ2.out, HZ3.out, HZ4.out, HZ5.out, HZ6.out]
          clear HZ1 HZ2 HZ3 HZ4 HZ5 HZ6
          refine (plays_all 2 _ (fourL x) z6 (HT.out.next (HBS.out.trans ((HW.out.trans (HBZ.out.mono HW.out.size)).mono HBS.out.size))) HAZ.out (by show 4 ≤ 30; omega) (fourL_fits x)).mono ?_
          rintro e w1 ⟨rfl, hb1⟩
          have HB1 := Lib.hid (HW.out.trans ((HBZ.out.trans (hb1.mono HBZ.out.size)).mono HW.out.size))
          clear hb1 d0 HBZ HAZ
          rcases hx3 : decide (x < 3) with _ | _
          · rcases hxm : decide ((1048576 : Int) < x) with _ | _
            · go_wp2_with fail
              go_roundw
              case rel => exact ⟨j + 1, by omega, by go_num, HB1⟩
              case measure => simp [intOf]; omega
            · go_wp2_with fail
              refine (plays_all x _ someL w1 (HT.out.next (HBS.out.trans (HB1.out.mono HBS.out.size))) (HA.out.below (HBS9.out.trans (HB1.out.mono HBS9.out.size))) (by decide) someL_fits).mono ?_
              rintro e w2 ⟨rfl, hb2⟩
              have HB2 := Lib.hid (HB1.out.trans (hb2.mono HB1.out.size))
              clear hb2
              go_wp2_with fail
              go_roundw
              case rel => exact ⟨j + 1, by omega, by go_num, HB2⟩
              case measure => simp [intOf]; omega
          · go_wp2_with fail
            refine (plays_all x _ someL w1 (HT.out.next (HBS.out.trans (HB1.out.mono HBS.out.size))) (HA.out.below (HBS9.out.trans (HB1.out.mono HBS9.out.size))) (by decide) someL_fits).mono ?_
            rintro e w2 ⟨rfl, hb2⟩
            have HB2 := Lib.hid (HB1.out.trans (hb2.mono HB1.out.size))
            clear hb2
            go_wp2_with fail
            go_roundw
            case rel => exact ⟨j + 1, by omega, by go_num, HB2⟩
            case measure => simp [intOf]; omega
        · obtain rfl : j = 9 := by omega
          obtain ⟨wp, rfl⟩ : ∃ x : World, x = wr := ⟨_, rfl⟩
          have HBP := Lib.hid (HBS.out.trans (HW.out.mono HBS.out.size))
          clear HBS HBS9 HW HRS HA HBW hzr hjl hj
          go_wp2_with fail
          refine (new_in 1048576 wp (by omega)).mono ?_
          rintro e wl ⟨rfl, hl1, hbl⟩
          obtain ⟨bl, hbl0⟩ : ∃ x, wp.heap.size + 1 = x := ⟨_, rfl⟩
          rw [hbl0] at hl1 ⊢
          obtain ⟨B, hB⟩ : ∃ x, wp.heap.size = x := ⟨_, rfl⟩
          rw [hB] at hl1
          have hB0 : w.heap.size ≤ B := by rw [← hB]; exact HBP.out.size
          have HLB := Lib.hid hl1
          have HBL := Lib.hid (HBP.out.trans (hbl.mono HBP.out.size))
          have hcnt := log_count bl (newLog 1048576) wl hl1.1
          have hhas1 := log_has bl (newLog 1048576) 1048576 wl hl1.1 (by decide)
          have hhas2 := log_has bl (newLog 1048576) 1048577 wl hl1.1 (by decide)
          rw [show (newLog 1048576).has 1048576 = true from by rw [new_has']; decide] at hhas1
          rw [show (newLog 1048576).has 1048577 = false from by rw [new_has']; decide] at hhas2
          have HCN := Lib.hid (show Calls Tryd.prog 11 #[.pointer (some ⟨bl, 0, none⟩)] wl fun e w' => e = .returned (.int .i64 1048576) ∧ wl = w' from hcnt)
          have HH1 := Lib.hid hhas1
          have HH2 := Lib.hid hhas2
          clear hl1 hbl hbl0 hB hcnt hhas1 hhas2
          go_wp2_with fail
          refine HCN.out.mono ?_
          rintro e w' ⟨rfl, rfl⟩
          go_wp2_with fail
          refine HH1.out.mono ?_
          rintro e w' ⟨rfl, rfl⟩
          go_wp2_with fail
          refine HH2.out.mono ?_
          rintro e w' ⟨rfl, rfl⟩
          clear HCN HH1 HH2
          go_wp2_with fail
          obtain ⟨i0, hi0, hzz0, hzz1, hzz2⟩ := info_parts info_int
          go_loopw [7, 8] (fun t i wr => ∃ k : Nat, k ≤ 65537 ∧ i = .int .i64 ((k : Int) + 1) ∧ Hid (wr.ownsRow wl.heap.size 3 1 t k ((thereL k).map (Value.int .i64))) ∧ Hid (Below wl.heap.size wl wr)) (fun _ i _ => 65538 - (intOf i).toNat)
          case atStart => exact ⟨0, Nat.zero_le _, rfl, Lib.hid (World.ownsRow_nil _ _ _ _), Lib.hid (Below.refl _ _)⟩
          case round =>
            obtain ⟨k, hk, rfl, HV, HW⟩ := hrel
            have hzw := HW.out.size
            obtain ⟨Av, cv, hv, _⟩ := own_slice HV.out
            subst hv
            rcases hc : decide (k < 65537) with _ | _
            case' true =>
              have hlt : k < 65537 := of_decide_eq_true hc
              have hcc : decide ((k : Int) + 1 ≤ 65537) = true := by simp; omega
              clear hc
              have HLT := Lib.hid hlt
              have hkb : k ≤ 65537 := hk
              have HNX := Lib.hid (show (thereL (k + 1)).map (Value.int .i64) = (thereL k).map (Value.int .i64) ++ [.int .i64 ((k : Int) + 1)] by rw [thereL_succ, List.map_append]; simp)
              obtain ⟨XS, hXS⟩ : ∃ XS, (thereL k).map (Value.int .i64) = XS := ⟨_, rfl⟩
              rw [hXS] at HV HNX
              clear hXS hlt
              go_wp2_with (at_builtin; refine wpList_append_own_at _ rfl _ _ 26 rfl wl.heap.size 3 i0 (.int .i64 0) 1 8 Tryd.underlying26 hi0 hzz0 hzz1 hzz2 rfl (by decide) _ k _ rfl (own_below HV.out (below_al wr _)) ⟨wr.heap.size, 0, none⟩ 1 1 [.int .i64 ((k : Int) + 1)] rfl rfl (cell_one_new' _ _ _) (by simp [Value.oneCell']) (by unfold maxLen; omega) (by omega) (by simp; omega) ?_; intro v' w1 hown hgrow hnl hat; obtain ⟨Aw, kw, hv2, _⟩ := own_slice hown; subst hv2; have HOWN := Lib.hid hown; have HG := Lib.hid hgrow; clear hown hgrow hnl hat)
              have hw1 : Below wl.heap.size wl w1 := (HW.out.trans ((below_al wr (.cells #[.int .i64 ((k : Int) + 1)] 3)).mono hzw)).grown HG.out (by simp; omega) (fun g hg => (own_lt HV.out g hg).1)
              go_roundw
              case rel => exact ⟨k + 1, by have := HLT.out; omega, by go_num, Lib.hid (by rw [HNX.out]; exact HOWN.out), Lib.hid hw1⟩
              case measure => have := HLT.out; simp [intOf]; omega
            case' false =>
              have hge : ¬ k < 65537 := of_decide_eq_false hc
              have hcc : decide ((k : Int) + 1 ≤ 65537) = false := by simp; omega
              have hk65 : k = 65537 := by omega
              clear hc hge hk
              obtain ⟨wi, rfl⟩ : ∃ x : World, x = wr := ⟨_, rfl⟩
              subst hk65
              have BF := Lib.hid bigFacts
              obtain ⟨gi, ci, hvi, hci, hgi, hgis, _⟩ := own_some HV.out (by omega)
              simp only [Value.slice.injEq] at hvi
              obtain ⟨rfl, _, rfl⟩ := hvi
              have hII : IntsIn (fun g => False ∨ wl.heap.size ≤ g ∧ g < wi.heap.size) wi (.slice (some ⟨gi, 0, none⟩) 65537 cv) (thereL 65537) := (ints_lt (IntsIn.of_own (base := wl.heap.size) (e := 3) (xs := thereL 65537) (by
                rw [thereL_length]
                exact HV.out))).mono (fun g hg => .inr ⟨hg.1.1, hg.2⟩)
              have hLi := HLB.out.fresh HW.out
              have hBi : B ≤ wi.heap.size := hLi.size
              have HLI := Lib.hid hLi
              have HII := Lib.hid hII
              have HBI := Lib.hid (HBL.out.trans (HW.out.mono HBL.out.size))
              have hzi := HW.out.size
              clear hLi hII HV HW HLB HBL hzw
              clear hi0 hzz0 hzz1 hzz2
              clear i0
              have hw65 := thereL_wf 65537 (by omega)
              have hw66 := thereL_wf 65536 (by omega)
              have HLE := Lib.hid (learn_in B bl (newLog 1048576) (.slice none 0 0) _ [] (thereL 65537) wi wi HLI.out (Below.refl _ _) (fun g hg => hg.elim (fun h => h.elim) (fun h => h.2)) (IntsIn.nil _ _) (HII.out.mono (fun g hg => .inr (.inr hg))) (by simp) (by rw [thereL_length]; omega) hw65)
              have HWF := Lib.hid hw65
              have HWF2 := Lib.hid hw66
              clear hw65 hw66
              rw [BF.out.e1, BF.out.l1] at HLE
              go_wp2_with fail
              refine HLE.out.mono ?_
              rintro e wj ⟨rfl, hlj, hkj⟩
              have hzj := hkj.size
              have HIJ := Lib.hid (HII.out.kept hkj (fun g hg hh => hh.2.2 hg))
              have HBJ := Lib.hid (HBI.out.trans ((hkj.below (fun g hg => hg.1) HLI.out.size).mono hB0))
              have HFO := Lib.hid (forget_in B bl (newLog 1048576) _ (thereL 65537) wj wj hlj (Below.refl _ _) (fun g hg => hg.elim (fun h => h.elim) (fun h => by omega)) (HIJ.out.mono (fun g hg => .inr (.inr hg))) (by rw [thereL_length]; omega) HWF.out)
              rw [BF.out.e2, BF.out.l2] at HFO
              clear hlj hkj HLE HII HLI HBI
              go_wp2_with fail
              refine HFO.out.mono ?_
              rintro e wk ⟨rfl, hlk, hkk⟩
              have hzk := hkk.size
              have hIK := HIJ.out.kept hkk (fun g hg hh => hh.2.2 hg)
              obtain ⟨hIa, hIb⟩ := big_ints 65536 hIK
              have HBK := Lib.hid (HBJ.out.trans ((hkk.below (fun g hg => hg.1) (by omega)).mono hB0))
              have HFO := Lib.hid (forget_in B bl (newLog 1048576) _ (thereL 65536) wk wk hlk (Below.refl _ _) (fun g hg => hg.elim (fun h => h.elim) (fun h => by omega)) (hIa.mono (fun g hg => .inr (.inr hg))) (by rw [thereL_length]; omega) HWF2.out)
              rw [BF.out.e3, BF.out.n3, BF.out.l3] at HFO
              have HIB := Lib.hid hIb
              clear hlk hkk hIK hIa hIb HIJ HBJ
              go_wp2_with fail
              refine HFO.out.mono ?_
              rintro e wm ⟨rfl, hlm, hkm⟩
              have hzm := hkm.size
              have HBM := Lib.hid (HBK.out.trans ((hkm.below (fun g hg => hg.1) (by omega)).mono hB0))
              have HFO := Lib.hid (forget_in B bl ((newLog 1048576).addDel (thereL 65536)) _ [65537] wm wm hlm (Below.refl _ _) (fun g hg => hg.elim (fun h => h.elim) (fun h => by omega)) ((HIB.out.kept hkm (fun g hg hh => hh.2.2 hg)).mono (fun g hg => .inr (.inr hg))) (by decide) (by decide))
              rw [BF.out.e4, BF.out.l4] at HFO
              clear hlm hkm HBK HIB
              go_wp2_with fail
              refine HFO.out.mono ?_
              rintro e wq ⟨rfl, hlq, hkq⟩
              have HBQ := Lib.hid (HBM.out.trans ((hkq.below (fun g hg => hg.1) (by omega)).mono hB0))
              have HLQ := Lib.hid hlq
              clear hlq hkq HFO HBM
              go_wp2_with fail
              refine (log_steps bl _ wq HLQ.out.1 HLQ.out.2.1.ok).mono ?_
              rintro e wt ⟨vT, msT, rfl, hsT, hoT, hbT⟩
              obtain ⟨AT, cT, hvT, hcT⟩ := own_slice hoT
              subst hvT
              have hlen1 : msT.length = 1 := by
                have h1 := congrArg List.length hsT.steps
                rw [List.length_map] at h1
                rw [h1]
                exact addDel_one _ _
              rw [hlen1]
              have HBT := Lib.hid (HBQ.out.trans (hbT.mono HBQ.out.size))
              have HTT := Lib.hid (HT.out.next HBT.out)
              clear hsT hoT hbT hlen1 HLQ HBQ hcT BF HWF HWF2
              go_wp2_with fail
              refine (learn_nil _ _ wt).mono ?_
              rintro e wu ⟨rfl, hbU⟩
              have HBU := Lib.hid (HBT.out.trans (hbU.mono HBT.out.size))
              have HTU := Lib.hid (HTT.out.next hbU)
              clear hbU HTT HBT
              go_wp2_with fail
              refine (forget_nil _ wu).mono ?_
              rintro e w' ⟨rfl, rfl⟩
              go_wp2_with fail
              refine (text_nil wu).mono ?_
              rintro e w' ⟨rfl, rfl⟩
              go_wp2_with fail
              refine (last_nil wu).mono ?_
              rintro e w' ⟨rfl, rfl⟩
              go_wp2_with fail
              refine (count_nil wu).mono ?_
              rintro e w' ⟨rfl, rfl⟩
              go_wp2_with fail
              refine (steps_nil wu).mono ?_
              rintro e w' ⟨rfl, rfl⟩
              go_wp2_with fail
              refine (has_nil 1 wu).mono ?_
              rintro e w' ⟨rfl, rfl⟩
              go_wp2_with fail
              refine (done_nil wu).mono ?_
              rintro e w' ⟨rfl, rfl⟩
              go_wp2_with fail
              refine (awake_any wu HTU.out).mono ?_
              rintro e wv ⟨rfl, hbV⟩
              have HBV := Lib.hid (HBU.out.trans (hbV.mono HBU.out.size))
              clear hbV
              go_wp2_with fail
              go_ret
              exact ⟨rfl, HBV.out⟩
end Go.Proofs.YtbokfjmbamgenaaDoor
