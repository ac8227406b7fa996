/- The reference of layer 17 in memory: New, Has. -/
import Derived.Test.YtbokfjmbamgenaaDoorMj
import Derived.Test.YtbokfjmbamgenaaDoorRa
import Derived.Test.YtbokfjmbamgenaaDoorEg
namespace Go.Proofs.YtbokfjmbamgenaaDoor
open Go.RowKit

/-- a log of the reference -/
structure RLog where
  there : List Int
  last : Int
  steps : List EStep
  done : Bool
structure RStepsAt (O : Nat → Prop) (w : World) (v : Value) (l : List EStep) (ms : List MStep) : Prop where
  form : ∃ A c, v = .slice A ms.length c ∧ ms.length ≤ c ∧ (A = none → c = 0)
  steps : ms.map MStep.s = l
  cells : ∀ j u, (ms.flatMap MStep.cells)[j]? = some u → ∃ g c, v = .slice (some ⟨g, 0, none⟩) ms.length c ∧ g < w.heap.size ∧ O g ∧ w.cell? ⟨g, j, none⟩ = some u
  each : ∀ m ∈ ms, IntsIn O w m.lv m.s.lits ∧ IntsIn O w m.hv m.s.hints
def RLogAt (O : Nat → Prop) (w : World) (tv stv : Value) (R : RLog) : Prop := IntsIn O w tv R.there ∧ ∃ ms, RStepsAt O w stv R.steps ms
def rVal (tv stv : Value) (R : RLog) : Value := .agg #[tv, .int .i64 R.last, stv, .bool R.done]
theorem RStepsAt.kept {O O' : Nat → Prop} {w w' : World} {v : Value} {l : List EStep} {ms : List MStep} (h : RStepsAt O w v l ms) (k : Kept O' w w') (hO : ∀ g, O g → ¬ O' g) : RStepsAt O w' v l ms :=
  ⟨h.form, h.steps, fun j u hj => by
    obtain ⟨g, c, h1, h2, h3, h4⟩ := h.cells j u hj
    exact ⟨g, c, h1, Nat.lt_of_lt_of_le h2 k.size, h3, (k.cell (p := ⟨g, j, none⟩) h2 (hO g h3)).trans h4⟩, fun m hm => ⟨(h.each m hm).1.kept k hO, (h.each m hm).2.kept k hO⟩⟩
theorem RStepsAt.mono {O O' : Nat → Prop} {w : World} {v : Value} {l : List EStep} {ms : List MStep} (h : RStepsAt O w v l ms) (hO : ∀ g, O g → O' g) : RStepsAt O' w v l ms :=
  ⟨h.form, h.steps, fun j u hj => by
    obtain ⟨g, c, h1, h2, h3, h4⟩ := h.cells j u hj
    exact ⟨g, c, h1, h2, hO g h3, h4⟩, fun m hm => ⟨(h.each m hm).1.mono hO, (h.each m hm).2.mono hO⟩⟩
theorem RLogAt.kept {O O' : Nat → Prop} {w w' : World} {tv stv : Value} {R : RLog} (h : RLogAt O w tv stv R) (k : Kept O' w w') (hO : ∀ g, O g → ¬ O' g) : RLogAt O w' tv stv R := by
  obtain ⟨h1, ms, h2⟩ := h
  exact ⟨h1.kept k hO, ms, h2.kept k hO⟩
theorem RLogAt.below {O : Nat → Prop} {w w' : World} {tv stv : Value} {R : RLog} (h : RLogAt O w tv stv R) (k : Below w.heap.size w w') : RLogAt O w' tv stv R := h.kept (O' := fun _ => False) (Kept.of_below k) (fun _ _ h => h)
theorem RLogAt.mono {O O' : Nat → Prop} {w : World} {tv stv : Value} {R : RLog} (h : RLogAt O w tv stv R) (hO : ∀ g, O g → O' g) : RLogAt O' w tv stv R := by
  obtain ⟨h1, ms, h2⟩ := h
  exact ⟨h1.mono hO, ms, h2.mono hO⟩
theorem rsteps_nil (O : Nat → Prop) (w : World) : RStepsAt O w (.slice none 0 0) [] [] := ⟨⟨none, 0, rfl, Nat.le_refl _, fun _ => rfl⟩, rfl, (fun j u h => by simp at h), (fun m h => by cases h)⟩
def thereL (n : Nat) : List Int := (List.range n).map fun i => ((i + 1 : Nat) : Int)
theorem thereL_succ (n : Nat) : thereL (n + 1) = thereL n ++ [((n + 1 : Nat) : Int)] := by simp [thereL, List.range_succ]
theorem thereL_length (n : Nat) : (thereL n).length = n := by simp [thereL]
theorem info_int : (Tryd.prog.info? 3).map (fun i => (i.zero, i.size, i.bytes)) = some (some (.int .i64 0), 1, 8) := by kernel_rfl
theorem below_al (w : World) (o : Obj) : Below w.heap.size w (w.alloc o) := (Below.refl _ _).alloc (Nat.le_refl _) _
theorem own_not {w : World} {base n size : Nat} {e T : TypeId} {v : Value} {xs : List Value} {b : Nat} {cs : Array Value} (h : w.ownsRow base e size v n xs) (hb : w.heap[b]? = some (.cells cs T (0, 0))) (hT : T ≠ e) : some b ≠ v.ownBlock := by
  intro hg
  obtain ⟨c', hc'⟩ := own_type h b hg.symm
  rw [hb] at hc'
  cases hc'
  exact hT rfl
theorem grow_keep {w w1 : World} {o : Obj} {base n size : Nat} {e T : TypeId} {v : Value} {xs : List Value} {b : Nat} {cs : Array Value} (h : w.ownsRow base e size v n xs) (hg : (w.alloc o).grownBy w1 v.ownBlock) (hb : w.heap[b]? = some (.cells cs T (0, 0))) (hT : T ≠ e) : w1.heap[b]? = some (.cells cs T (0, 0)) := by
  rw [hg.block b (by have := heap_lt hb; simp; omega) (own_not h hb hT), Below.heap_alloc _ _ _ (heap_lt hb)]
  exact hb
set_option maxRecDepth 100000 in
set_option maxHeartbeats 1000000 in
theorem ref_has {O : Nat → Prop} (tv stv : Value) (R : RLog) (x : Int) (w : World) (h : IntsIn O w tv R.there) (hs : R.there.length ≤ 140737488355328) :
    Calls Tryd.prog 50 #[rVal tv stv R, .int .i64 x] w fun e w' => e = .returned (.bool (R.there.contains x)) ∧ Below w.heap.size w w' := by
  have hh := h
  obtain ⟨A, c, rfl, hc, _, hx⟩ := h
  unfold rVal
  have HX := Lib.hid hx
  clear hx hh
  obtain ⟨bb, hbb⟩ : ∃ bb, R.there.contains x = bb := ⟨_, rfl⟩
  rw [hbb]
  have HB := Lib.hid hbb
  clear hbb
  go_enter Tryd.func50, Tryd.ntmps50
  go_wp2
  obtain ⟨wb, hwb⟩ : ∃ wb, w.alloc (.cells #[.slice A R.there.length c, .int .i64 R.last, stv, .bool R.done] 62) = wb := ⟨_, rfl⟩
  have hB : Below w.heap.size w wb := by rw [← hwb]; exact below_al _ _
  have c0 : wb.cell? ⟨w.heap.size, 0, none⟩ = some (.slice A R.there.length c) := by rw [← hwb]; exact cell_new _ _ _ _
  rw [hwb]
  have HBB := Lib.hid hB
  clear hwb hB
  go_loop [5] (fun i => ∃ k : Nat, k ≤ R.there.length ∧ i = .int .i64 k ∧ Hid (∀ j y, j < k → R.there[j]? = some y → y ≠ x)) (fun i => R.there.length - (intOf i).toNat)
  case atStart => exact ⟨0, Nat.zero_le _, rfl, Lib.hid (fun j y hj => by omega)⟩
  case round =>
    obtain ⟨k, hk, rfl, HE⟩ := hrel
    by_cases hlt : k < R.there.length
    · obtain ⟨y, hyk⟩ := getElem_of hlt
      obtain ⟨g, o, rfl, hg, _, d0⟩ := HX.out k y hyk
      have d1 := (HBB.out.cell (p := ⟨g, o + k, none⟩) hg).trans d0
      have HYK := Lib.hid hyk
      clear hyk d0
      by_cases hxy : y = x
      · have hq : (y == x) = true := by simpa using hxy
        have hm : R.there.contains x = true := by
          rw [← hxy]
          simpa using List.mem_of_getElem? HYK.out
        have HM := Lib.hid hm
        have HXY := Lib.hid hxy
        clear hxy hm
        go_wp2
        go_ret
        exact ⟨ret_bool (by rw [← HB.out, HM.out]), HBB.out⟩
      · have hq : (y == x) = false := by simpa using hxy
        have HXY := Lib.hid hxy
        clear hxy
        go_wp2
        go_round
        case rel => exact ⟨k + 1, by omega, by go_num, Lib.hid (fun j z hj hz => by
          rcases Nat.lt_or_ge j k with h | h
          · exact HE.out j z h hz
          · obtain rfl : j = k := by omega
            rw [HYK.out] at hz
            obtain rfl := Option.some.inj hz
            exact HXY.out)⟩
        case measure => simp [intOf]; omega
    · obtain rfl : k = R.there.length := by omega
      go_wp2
      go_ret
      refine ⟨ret_bool ?_, HBB.out⟩
      rw [← HB.out]
      refine (Bool.eq_false_iff.2 (fun h => ?_)).symm
      have hm : x ∈ R.there := by simpa using h
      obtain ⟨j, hj⟩ := List.getElem?_of_mem hm
      exact HE.out j x (List.getElem?_eq_some_iff.1 hj).1 hj rfl
set_option maxRecDepth 100000 in
set_option maxHeartbeats 1000000 in
theorem ref_new (n : Nat) (w : World) (hn : n ≤ 1048576) :
    Calls Tryd.prog 25 #[.int .i64 (n : Int)] w fun e w' => ∃ tv, e = .returned (rVal tv (.slice none 0 0) ⟨thereL n, n, [], false⟩) ∧ RLogAt (fun g => w.heap.size ≤ g) w' tv (.slice none 0 0) ⟨thereL n, n, [], false⟩ ∧ Below w.heap.size w w' := by
  obtain ⟨i0, hi, hz0, hz1, hz2⟩ := info_parts info_int
  go_enter Tryd.func25, Tryd.ntmps25
  go_wp2
  obtain ⟨wb, hwb⟩ : ∃ wb, (w.alloc (.cells #[.slice none 0 0, .int .i64 0, .slice none 0 0, .bool false] 62)).alloc (.cells #[.slice none 0 0, .int .i64 (n : Int), .slice none 0 0, .bool false] 62) = wb := ⟨_, rfl⟩
  have hB : Below w.heap.size w wb := by rw [← hwb]; exact ((Below.refl _ _).alloc (Nat.le_refl _) _).alloc (by simp) _
  have hb3 : wb.heap[w.heap.size + 1]? = some (.cells #[.slice none 0 0, .int .i64 (n : Int), .slice none 0 0, .bool false] 62 (0, 0)) := by
    rw [← hwb]
    have := World.alloc_heap_new (w.alloc (.cells #[.slice none 0 0, .int .i64 0, .slice none 0 0, .bool false] 62)) (.cells #[.slice none 0 0, .int .i64 (n : Int), .slice none 0 0, .bool false] 62)
    rwa [World.size_alloc] at this
  have hb2 : wb.heap[w.heap.size]? = some (.cells #[.slice none 0 0, .int .i64 0, .slice none 0 0, .bool false] 62 (0, 0)) := by
    rw [← hwb, Below.heap_alloc _ _ _ (by simp)]
    exact World.alloc_heap_new _ _
  rw [hwb]
  have HBB := Lib.hid hB
  have HB3 := Lib.hid hb3
  have HB2 := Lib.hid hb2
  clear hwb hB hb3 hb2
  go_loopw [4] (fun t wr => ∃ (k : Nat) (tv : Value), k ≤ n ∧ t = .int .i64 ((k : Int) + 1) ∧ Hid (wr.heap[w.heap.size + 1]? = some (.cells #[tv, .int .i64 (n : Int), .slice none 0 0, .bool false] 62 (0, 0))) ∧ Hid (wr.heap[w.heap.size]? = some (.cells #[.slice none 0 0, .int .i64 0, .slice none 0 0, .bool false] 62 (0, 0))) ∧ Hid (wr.ownsRow w.heap.size 3 1 tv k ((thereL k).map (Value.int .i64))) ∧ Hid (Below w.heap.size w wr)) (fun t _ => n + 1 - (intOf t).toNat)
  case atStart => exact ⟨0, _, Nat.zero_le _, by go_num, HB3, HB2, Lib.hid (World.ownsRow_nil _ _ _ _), HBB⟩
  case round =>
    obtain ⟨k, tv, hk, rfl, H3, H2, HR, HB⟩ := hrel
    obtain ⟨At, ct, htv, _⟩ : ∃ At ct, tv = .slice At k ct ∧ k ≤ ct := by
      rcases HR.out.2 with ⟨rfl, rfl⟩ | ⟨g, cap, cur, rfl, _, _, hle, _⟩
      · exact ⟨none, 0, rfl, Nat.le_refl _⟩
      · exact ⟨_, cap, rfl, hle⟩
    subst htv
    have hzw := HB.out.size
    have c0 : wr.cell? ⟨w.heap.size + 1, 0, none⟩ = some (.slice At k ct) := cell_of_block (j := 0) H3.out
    have f0 := free_of_block (j := 0) H3.out
    by_cases hlt : k < n
    · have hle : decide ((k : Int) + 1 ≤ (n : Int)) = true := by simp; omega
      have HLT := Lib.hid hlt
      clear hlt
      go_wp2_with (at_builtin; refine wpList_append_own_at _ rfl _ _ 26 rfl w.heap.size 3 i0 (.int .i64 0) 1 8 Tryd.underlying26 hi hz0 hz1 hz2 rfl (by decide) _ k _ rfl (own_below HR.out (below_al wr _)) ⟨wr.heap.size, 0, none⟩ 1 1 [.int .i64 ((k : Int) + 1)] rfl rfl (cell_one_new' _ _ _) (by simp [Value.oneCell']) (by unfold maxLen; omega) (by omega) (by simp; omega) ?_; intro v' w1 hown hgrow hnl hat; obtain ⟨Av, kv, rfl, _⟩ : ∃ Av kv, v' = .slice Av (k + 1) kv ∧ k + 1 ≤ kv := (by
        rcases hown.2 with ⟨rfl, h0⟩ | ⟨g, cap, cur, rfl, _, _, hle, _⟩
        · omega
        · exact ⟨_, cap, rfl, hle⟩); have HN3 := Lib.hid (grow_keep HR.out hgrow H3.out (by decide)); have HN2 := Lib.hid (grow_keep HR.out hgrow H2.out (by decide)); have e0 := free_of_block (j := 0) HN3.out; have e1 : w1.cell? ⟨w.heap.size + 1, 0, none⟩ = some (.slice At k ct) := cell_of_block (j := 0) HN3.out; have HOWN := Lib.hid hown; have HG := Lib.hid hgrow; clear hown hgrow hnl hat)
      have hlt := HLT.out
      have hW2 : Below w.heap.size w w1 := (HB.out.trans ((below_al wr (.cells #[.int .i64 ((k : Int) + 1)] 3)).mono hzw)).grown HG.out (by simp; omega) (fun g hg => (own_lt HR.out g hg).1)
      have h3' := block_set HN3.out (.slice Av (k + 1) kv) (j := 0)
      have h2' : (w1.setCell ⟨w.heap.size + 1, 0, none⟩ (.slice Av (k + 1) kv)).heap[w.heap.size]? = _ := (Below.heap_setCell _ _ _ _ (by simp)).trans HN2.out
      have hr' : (w1.setCell ⟨w.heap.size + 1, 0, none⟩ (.slice Av (k + 1) kv)).ownsRow w.heap.size 3 1 (.slice Av (k + 1) kv) (k + 1) ((thereL (k + 1)).map (Value.int .i64)) := by
        rw [thereL_succ, List.map_append]
        refine own_kept (O := fun g => g = w.heap.size + 1) HOWN.out ((Kept.refl _ w1).setCell ⟨w.heap.size + 1, 0, none⟩ _ rfl) (fun g hg e => ?_)
        exact own_not HOWN.out HN3.out (by decide) (by rw [← e, hg])
      have H3' := Lib.hid h3'
      have H2' := Lib.hid h2'
      have HR' := Lib.hid hr'
      have HB' := Lib.hid (hW2.setCell (p := ⟨w.heap.size + 1, 0, none⟩) (Nat.le_succ _) (.slice Av (k + 1) kv))
      clear h3' h2' hr' hW2
      go_wp2
      go_roundw
      case rel => exact ⟨k + 1, _, by omega, by go_num, H3', H2', HR', HB'⟩
      case measure => simp [intOf]; omega
    · obtain rfl : k = n := by omega
      have c1 : wr.cell? ⟨w.heap.size + 1, 1, none⟩ = some (.int .i64 (k : Int)) := cell_of_block (j := 1) H3.out
      have c2 : wr.cell? ⟨w.heap.size + 1, 2, none⟩ = some (.slice none 0 0) := cell_of_block (j := 2) H3.out
      have c3 : wr.cell? ⟨w.heap.size + 1, 3, none⟩ = some (.bool false) := cell_of_block (j := 3) H3.out
      have d0 : wr.cell? ⟨w.heap.size, 0, none⟩ = some (.slice none 0 0) := cell_of_block (j := 0) H2.out
      have d1 : wr.cell? ⟨w.heap.size, 1, none⟩ = some (.int .i64 0) := cell_of_block (j := 1) H2.out
      have d2 : wr.cell? ⟨w.heap.size, 2, none⟩ = some (.slice none 0 0) := cell_of_block (j := 2) H2.out
      have d3 : wr.cell? ⟨w.heap.size, 3, none⟩ = some (.bool false) := cell_of_block (j := 3) H2.out
      have g0 := free_of_block (j := 0) H2.out
      have g1 := free_of_block (j := 1) H2.out
      have g2 := free_of_block (j := 2) H2.out
      have g3 := free_of_block (j := 3) H2.out
      go_wp2
      refine bodyPost_ret (v := rVal (.slice At k ct) (.slice none 0 0) ⟨thereL k, k, [], false⟩) (by simp [rVal, results, Tryd.results25, go_sem, d0, d1, d2, d3]) rfl ?_
      have hB4 := (((HB.out.setCell (p := ⟨w.heap.size, 0, none⟩) (Nat.le_refl _) (.slice At k ct)).setCell (p := ⟨w.heap.size, 1, none⟩) (Nat.le_refl _) (.int .i64 (k : Int))).setCell (p := ⟨w.heap.size, 2, none⟩) (Nat.le_refl _) (.slice none 0 0)).setCell (p := ⟨w.heap.size, 3, none⟩) (Nat.le_refl _) (.bool false)
      have hI : IntsIn (fun g => w.heap.size ≤ g ∧ g ≠ w.heap.size) wr (.slice At (thereL k).length ct) (thereL k) := by
        refine (IntsIn.of_own (base := w.heap.size) (e := 3) (by rw [thereL_length]; exact HR.out)).mono (fun g hg => ?_)
        have hg2 := hg.2
        rw [thereL_length] at hg2
        exact ⟨hg.1, fun e => own_not HR.out H2.out (by decide) (by rw [← e, hg2])⟩
      rw [thereL_length] at hI
      refine ⟨_, rfl, ⟨?_, [], rsteps_nil _ _⟩, hB4⟩
      refine (hI.kept (O' := fun g => g = w.heap.size) (((((Kept.refl (fun g => g = w.heap.size) wr).setCell ⟨w.heap.size, 0, none⟩ _ rfl).setCell ⟨w.heap.size, 1, none⟩ _ rfl).setCell ⟨w.heap.size, 2, none⟩ _ rfl).setCell ⟨w.heap.size, 3, none⟩ _ rfl) (fun g hg e => hg.2 e)).mono (fun g hg => hg.1)
end Go.Proofs.YtbokfjmbamgenaaDoor
