/- awake (package salvorlaw14). -/
import Derived.Test.YtiodfolcnnkdjaaGreatPq
import Derived.Test.YtiodfolcnnkdjaaGreatAp
import Derived.Lib.SliceRun
import Derived.Test.YtiodfolcnnkdjaaGreatAk
namespace Go.Proofs.YtiodfolcnnkdjaaGreat
open Go.RowKit

def exL : List (List Int) := [[-1, 2], [-2, -3, 4], [-4, 5], [-5, -4, -2], [3]]
def exA : List ActP := [⟨true, 0, 0⟩, ⟨false, 3, 0⟩, ⟨true, 0, 0⟩, ⟨false, 1, 0⟩, ⟨false, 2, 1⟩, ⟨false, 4, 2⟩, ⟨false, 5, 3⟩]
def exB : List ActP := [⟨false, 3, 5⟩, ⟨true, 0, 0⟩, ⟨false, 1, 0⟩, ⟨false, 2, 1⟩, ⟨false, 4, 2⟩, ⟨false, 5, 3⟩]
def exAr : Arn := addAll arn0 0 exL
def exT : Trl := playAll (trl0 5) exA
def exU : Trl := playAll (trl0 5) exB
theorem ex_get4 : exAr.get 4 = some [-5, -4, -2] := by kernel_rfl
theorem ex_get5 : exAr.get 5 = some [3] := by kernel_rfl
theorem ex_f4 : exT.failMax [-5, -4, -2] 0 = some 2 := by kernel_rfl
theorem ex_f5 : exT.failMax [3] 0 = none := by kernel_rfl
theorem ex_g4 : exU.failMax [-5, -4, -2] 0 = some 1 := by kernel_rfl
theorem ex_end1 : cfEnd exAr exT 2 [-5, -4, -2] = some ⟨[5, 4, 2, 3], 1, [-2, -3], [3, 2], [5, 4, 2, 3]⟩ := by kernel_rfl
theorem ex_end2 : cfEnd exAr exU 1 [-5, -4, -2] = some ⟨[5, 4, 2, 3], 1, [-2], [3, 2, 5], [5, 4, 2]⟩ := by kernel_rfl
theorem ex_lv1 : exT.levelsOf [-2, -3] = 2 := by
  unfold Trl.levelsOf Trl.nLevels
  rw [if_pos (by decide), show exT.lvls [-2, -3] = [2, 1] from by kernel_rfl, sortI_eq (ys := [1, 2]) (by decide) (by decide)]
  rfl
theorem ex_lv2 : exU.levelsOf [-2] = 1 := by
  unfold Trl.levelsOf Trl.nLevels
  rw [if_pos (by decide), show exU.lvls [-2] = [1] from by kernel_rfl, sortI_eq (ys := [1]) (by decide) (by decide)]
  rfl
theorem ex_conf1 : confP exAr exT 4 = (⟨[-2, -3], 1, 2, [2, 3, 4], [2, 3, 4, 5]⟩, 0) := by
  unfold confP
  rw [ex_get4]
  simp only [ex_f4, ex_end1]
  rw [ex_lv1, sortI_eq (xs := [5, 4, 2, 3]) (ys := [2, 3, 4, 5]) (by decide) (by decide), show exT.backOf [-2, -3] = 1 from by kernel_rfl]
  rfl
theorem ex_conf2 : confP exAr exU 4 = (⟨[-2], 0, 1, [5, 2, 3, 4], [2, 4, 5]⟩, 0) := by
  unfold confP
  rw [ex_get4]
  simp only [ex_g4, ex_end2]
  rw [ex_lv2, sortI_eq (xs := [5, 4, 2]) (ys := [2, 4, 5]) (by decide) (by decide), show exU.backOf [-2] = 0 from by kernel_rfl]
  rfl
theorem ex_conf5 : confP exAr exT 5 = (lrn0, 140) := by
  unfold confP
  rw [ex_get5]
  simp only [ex_f5]
theorem ex_right4 : rightB exAr exT 4 = true := by kernel_rfl
theorem ex_right1 : rightB exAr exT 1 = false := by kernel_rfl

/-! ### the lists of the example in memory -/
theorem ex_in {w : World} {n : Nat} {xs : List Int} {t : TypeId} {W : World} (hs : W.heap.size = n) (hb : Below (n + 1) (W.alloc (.cells (xs.map (Value.int .i64)).toArray t)) w) : IntsIn (fun g => g < w.heap.size) w (.slice (some ⟨n, 0, none⟩) xs.length xs.length) xs := by
  subst hs
  have hb' : Below (W.alloc (.cells (xs.map (Value.int .i64)).toArray t)).heap.size (W.alloc (.cells (xs.map (Value.int .i64)).toArray t)) w := by simpa using hb
  refine ((mx_ints W xs t).below hb').mono (fun g hg => ?_)
  have := hb.size
  simp at this
  omega
end Go.Proofs.YtiodfolcnnkdjaaGreat
namespace Go.Proofs.YtiodfolcnnkdjaaGreat
open Go.RowKit

theorem run_clear3 (w : World) (ty : TypeId) (b o c : Nat) (hc : ∀ j, j < 3 → (w.cell? ⟨b, o + j, none⟩).isSome = true) (hf : ∀ j, j < 3 → w.frozen? ⟨b, o + j, none⟩ = false) :
    (Builtin.clear_ #[23] ty #[.slice (some ⟨b, o, none⟩) 1 c]).run Tryz.prog w = .ok (.tuple #[]) (w.setCells b o [.bool false, .int .i64 0, .int .i64 0]) := by
  have hzc : (Builtin.zeroCells (Value.agg #[.bool false, .int .i64 0, .int .i64 0]).cells 1).toList = [.bool false, .int .i64 0, .int .i64 0] := by kernel_rfl
  have hst := run_storeCells_cells (P := Tryz.prog) b o [.bool false, .int .i64 0, .int .i64 0] 0 w (by simpa using hc) (by simpa using hf) (by simp [Value.oneCell'])
  simp only [Nat.add_zero] at hst
  simp [Builtin.clear_, run_underlying Tryz.underlying23, hzc, hst]
set_option maxRecDepth 100000 in
set_option maxHeartbeats 2000000 in
theorem del_acts (g : Nat) (cs : Array Value) (l : List ActP) (w : World) (hb : w.heap[g]? = some (.cells cs 34 (0, 0))) (hl : l.length = 7) (ht : cs.toList = l.flatMap ActP.cells) :
    Calls Tryz.prog 10 #[.slice (some ⟨g, 0, none⟩) 7 7, .int .i64 2, .int .i64 3] w fun e w' => e = .returned (.slice (some ⟨g, 0, none⟩) 6 7) ∧ ActsIn w' (.slice (some ⟨g, 0, none⟩) 6 7) (l.eraseIdx 2) ∧ Kept (fun k => k = g) w w' := by
  have hcs : cs.size = 21 := by
    have := congrArg List.length ht
    rw [actCells_len, hl] at this
    simpa using this
  obtain ⟨i0, hi0, hz0, hz1, hz2⟩ := info_parts ainfo_act
  have hgD : w.drew.heap[g]? = some (.cells cs 34 (0, 0)) := hb
  have hnl : (cs.toList.drop 9).length = 4 * i0.size := by rw [hz1, List.length_drop, Array.length_toList, hcs]
  have hnews : ∀ j u, (cs.toList.drop 9)[j]? = some u → w.drew.cell? ((⟨g, 9, none⟩ : Addr).add j) = some u := fun j u hj => by
    rw [addr_add2, mx_cell hgD]
    rw [List.getElem?_drop, Array.getElem?_toList] at hj
    exact hj
  have h1 : ∀ u ∈ cs.toList.drop 9, u.oneCell' = true := fun u hu => by
    have := List.mem_of_mem_drop hu
    rw [ht] at this
    obtain ⟨a, _, ha⟩ := List.mem_flatMap.1 this
    simp only [ActP.cells, List.mem_cons, List.not_mem_nil, or_false] at ha
    rcases ha with rfl | rfl | rfl <;> rfl
  have hrun := fun ty => run_append_room (P := Tryz.prog) w.drew 23 ty 34 i0 Tryz.underlying23 hi0 g 2 7 cs hgD ⟨g, 9, none⟩ 4 4 (cs.toList.drop 9) hnl hnews h1 (by decide) (by rw [hnl, hz1, hcs]; decide)
  rw [hz1] at hrun
  obtain ⟨W2, hW2⟩ : ∃ x, w.drew.setRow g (cs.toList.take (2 * 3) ++ cs.toList.drop 9 ++ cs.toList.drop (2 * 3 + (cs.toList.drop 9).length)).toArray = x := ⟨_, rfl⟩
  rw [hW2] at hrun
  have hb2 : W2.heap[g]? = some (.cells (cs.toList.take (2 * 3) ++ cs.toList.drop 9 ++ cs.toList.drop (2 * 3 + (cs.toList.drop 9).length)).toArray 34 (0, 0)) := by
    rw [← hW2]
    exact setRow_heap w.drew g cs _ _ _ hgD
  have hk2 : Kept (fun k => k = g) w W2 := by
    rw [← hW2]
    exact ⟨rfl, rfl, rfl, by simp, fun k _ hk => setRow_other w.drew g k _ hk⟩
  have hs2 : (cs.toList.take (2 * 3) ++ cs.toList.drop 9 ++ cs.toList.drop (2 * 3 + (cs.toList.drop 9).length)).toArray.size = 21 := by
    simp [hcs]
  have ht2 : (cs.toList.take (2 * 3) ++ cs.toList.drop 9 ++ cs.toList.drop (2 * 3 + (cs.toList.drop 9).length)).toArray.toList.take 18 = (l.eraseIdx 2).flatMap ActP.cells := by
    rw [List.toList_toArray, ht, List.eraseIdx_eq_take_drop_succ, List.flatMap_append]
    have e1 : (l.flatMap ActP.cells).take (2 * 3) = (l.take 2).flatMap ActP.cells := by
      match l, hl with
      | [a, b, c, d, e, f, g], _ => rfl
    have e2 : (l.flatMap ActP.cells).drop 9 = (l.drop 3).flatMap ActP.cells := by
      match l, hl with
      | [a, b, c, d, e, f, g], _ => rfl
    have e3 : ((l.take 2).flatMap ActP.cells ++ (l.drop 3).flatMap ActP.cells).length = 18 := by
      rw [List.length_append, actCells_len, actCells_len, List.length_take, List.length_drop, hl]
      rfl
    rw [e1, e2, List.take_append_of_le_length (Nat.le_of_eq e3.symm), List.take_of_length_le (Nat.le_of_eq e3)]
  generalize (cs.toList.take (2 * 3) ++ cs.toList.drop 9 ++ cs.toList.drop (2 * 3 + (cs.toList.drop 9).length)).toArray = c2 at hb2 hs2 ht2
  have hcl := fun ty => run_clear3 W2 ty g 18 1 (fun j hj => by rw [mx_cell hb2, Array.getElem?_eq_getElem (by omega)]; rfl) (fun j _ => mx_free hb2)
  obtain ⟨W3, hW3⟩ : ∃ x, W2.setCells g 18 [.bool false, .int .i64 0, .int .i64 0] = x := ⟨_, rfl⟩
  rw [hW3] at hcl
  have hb3 : W3.heap[g]? = some (.cells (((c2.setIfInBounds 18 (.bool false)).setIfInBounds 19 (.int .i64 0)).setIfInBounds 20 (.int .i64 0)) 34 (0, 0)) := by
    rw [← hW3]
    exact mx_set (j := 20) (mx_set (j := 19) (mx_set (j := 18) hb2 _) _) _
  have hk3 : Kept (fun k => k = g) w W3 := by
    rw [← hW3]
    exact ((hk2.setCell ⟨g, 18, none⟩ _ rfl).setCell ⟨g, 19, none⟩ _ rfl).setCell ⟨g, 20, none⟩ _ rfl
  have hA := acts_of_block (n := 6) (c := 7) (l := l.eraseIdx 2) hb3 (by rw [List.length_eraseIdx_of_lt (by omega), hl]) (by
    rw [← ht2]
    simp only [Array.toList_setIfInBounds]
    rw [List.take_set_of_le (by decide), List.take_set_of_le (by decide), List.take_set_of_le (by decide)])
  have HRUN := Lib.hid hrun
  have HCL := Lib.hid hcl
  have HA := Lib.hid hA
  have HK3 := Lib.hid hk3
  clear hb ht hcs hgD hnl hnews h1 hrun hW2 hb2 hk2 hs2 ht2 hcl hW3 hb3 hk3 hA hi0 hz0 hz1 hz2
  go_enter Tryz.func10, Tryz.ntmps10
  go_upto_region 5 with fail
  refine wp_region_held_drew (S := fun _ => True) (by kernel_rfl) trivial (fun hS => ?_)
  refine takeE 0 20 ?_
  refine takeE 1 21 ?_
  refine takeE 2 22 ?_
  refine takeE 3 23 ?_
  refine takeE 4 24 ?_
  refine takeE 5 25 ?_
  refine ready1 6 (fun K hK => ?_)
  rw [if_pos (by rfl)]
  refine wp_append_run 26 (by rfl) _ _ 23 rfl _ _ (by rfl) (by rfl) (HRUN.out _) ?_
  refine hK.out _ _ trivial (fun _ => ?_)
  clear hK
  simp only [Act.put, List.setIfInBounds_toArray, List.set_cons_zero, List.set_cons_succ]
  refine takeE 7 0 ?_
  refine wpAnyH_done (by kernel_rfl) ?_ _
  have hcl := HCL.out
  go_wp2_with fail
  go_ret
  exact ⟨rfl, HA.out, HK3.out⟩
end Go.Proofs.YtiodfolcnnkdjaaGreat
namespace Go.Proofs.YtiodfolcnnkdjaaGreat
open Go.RowKit

def exD : List ActP := [⟨false, 3, 5⟩, ⟨true, 0, 0⟩, ⟨true, 0, 0⟩, ⟨false, 1, 0⟩, ⟨false, 2, 1⟩, ⟨false, 4, 2⟩, ⟨false, 5, 3⟩]
theorem exL_len : ∀ c ∈ exL, c.length ≤ 1000 := by decide
end Go.Proofs.YtiodfolcnnkdjaaGreat
