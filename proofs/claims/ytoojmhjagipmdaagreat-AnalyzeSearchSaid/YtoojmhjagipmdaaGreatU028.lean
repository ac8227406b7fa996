/- awake (package salvorlaw14). package salvorlaw13: WatchAdds. Calls of a law at a watch that knows all of its clauses. Plain: a clause in normal form. Plain: what is assumed where a clause fails has values. package rup: moving. -/
import Derived.Test.YtoojmhjagipmdaaGreatU027
import Derived.Test.YtoojmhjagipmdaaGreatU016
import Derived.Lib.SliceRun
import Derived.Test.YtoojmhjagipmdaaGreatU013
import Derived.Test.YtoojmhjagipmdaaGreatU026
import Derived.Test.YtoojmhjagipmdaaGreatU007
import Derived.Test.YtoojmhjagipmdaaGreatU025
import Derived.Test.YtoojmhjagipmdaaGreatU005
namespace Go.Proofs.YtoojmhjagipmdaaGreat
open Go.RowKit

def exL : List (List Int) := [[-1, 2], [-2, -3, 4], [-4, 5], [-5, -4, -2], [3]]
def exA : List ActP := [⟨true, 0, 0⟩, ⟨false, 3, 0⟩, ⟨true, 0, 0⟩, ⟨false, 1, 0⟩, ⟨false, 2, 1⟩, ⟨false, 4, 2⟩, ⟨false, 5, 3⟩]
def exB : List ActP := [⟨false, 3, 5⟩, ⟨true, 0, 0⟩, ⟨false, 1, 0⟩, ⟨false, 2, 1⟩, ⟨false, 4, 2⟩, ⟨false, 5, 3⟩]
def exAr : Arn := addAll arn0 0 exL
def exT : Trl := playAll (trl0 5) exA
def exU : Trl := playAll (trl0 5) exB
theorem ex_get4 : exAr.get 4 = some [-5, -4, -2] := by kernel_rfl
theorem ex_get5 : exAr.get 5 = some [3] := by kernel_rfl
theorem ex_f4 : exT.failMax [-5, -4, -2] 0 = some 2 := by kernel_rfl
theorem ex_f5 : exT.failMax [3] 0 = none := by kernel_rfl
theorem ex_g4 : exU.failMax [-5, -4, -2] 0 = some 1 := by kernel_rfl
theorem ex_end1 : cfEnd exAr exT 2 [-5, -4, -2] = some ⟨[5, 4, 2, 3], 1, [-2, -3], [3, 2], [5, 4, 2, 3]⟩ := by kernel_rfl
theorem ex_end2 : cfEnd exAr exU 1 [-5, -4, -2] = some ⟨[5, 4, 2, 3], 1, [-2], [3, 2, 5], [5, 4, 2]⟩ := by kernel_rfl
theorem ex_lv1 : exT.levelsOf [-2, -3] = 2 := by
  unfold Trl.levelsOf Trl.nLevels
  rw [if_pos (by decide), show exT.lvls [-2, -3] = [2, 1] from by kernel_rfl, sortI_eq (ys := [1, 2]) (by decide) (by decide)]
  rfl
theorem ex_lv2 : exU.levelsOf [-2] = 1 := by
  unfold Trl.levelsOf Trl.nLevels
  rw [if_pos (by decide), show exU.lvls [-2] = [1] from by kernel_rfl, sortI_eq (ys := [1]) (by decide) (by decide)]
  rfl
theorem ex_conf1 : confP exAr exT 4 = (⟨[-2, -3], 1, 2, [2, 3, 4], [2, 3, 4, 5]⟩, 0) := by
  unfold confP
  rw [ex_get4]
  simp only [ex_f4, ex_end1]
  rw [ex_lv1, sortI_eq (xs := [5, 4, 2, 3]) (ys := [2, 3, 4, 5]) (by decide) (by decide), show exT.backOf [-2, -3] = 1 from by kernel_rfl]
  rfl
theorem ex_conf2 : confP exAr exU 4 = (⟨[-2], 0, 1, [5, 2, 3, 4], [2, 4, 5]⟩, 0) := by
  unfold confP
  rw [ex_get4]
  simp only [ex_g4, ex_end2]
  rw [ex_lv2, sortI_eq (xs := [5, 4, 2]) (ys := [2, 4, 5]) (by decide) (by decide), show exU.backOf [-2] = 0 from by kernel_rfl]
  rfl
theorem ex_conf5 : confP exAr exT 5 = (lrn0, 140) := by
  unfold confP
  rw [ex_get5]
  simp only [ex_f5]
theorem ex_right4 : rightB exAr exT 4 = true := by kernel_rfl
theorem ex_right1 : rightB exAr exT 1 = false := by kernel_rfl

/-! ### the lists of the example in memory -/
theorem ex_in {w : World} {n : Nat} {xs : List Int} {t : TypeId} {W : World} (hs : W.heap.size = n) (hb : Below (n + 1) (W.alloc (.cells (xs.map (Value.int .i64)).toArray t)) w) : IntsIn (fun g => g < w.heap.size) w (.slice (some ⟨n, 0, none⟩) xs.length xs.length) xs := by
  subst hs
  have hb' : Below (W.alloc (.cells (xs.map (Value.int .i64)).toArray t)).heap.size (W.alloc (.cells (xs.map (Value.int .i64)).toArray t)) w := by simpa using hb
  refine ((mx_ints W xs t).below hb').mono (fun g hg => ?_)
  have := hb.size
  simp at this
  omega
set_option maxRecDepth 100000 in
set_option maxHeartbeats 1000000 in
theorem example_any (w : World) :
    Calls Tryz.prog 47 #[] w fun e w' => ∃ cv g W6, e = .returned (.tuple #[cv, .slice (some ⟨g, 0, none⟩) 7 7]) ∧ ClsAt W6 cv exL ∧ W6.heap.size = g ∧ Below g W6 w' ∧ w'.heap[g]? = some (.cells (exA.flatMap ActP.cells).toArray 90 (0, 0)) ∧ w.heap.size ≤ g ∧ Below w.heap.size w w' := by
  obtain ⟨W6, hW6, hb6, hc6⟩ : ∃ W6, ((((((w.alloc (.cells #[.int .i64 (-1), .int .i64 2] 32)).alloc (.cells #[.int .i64 (-2), .int .i64 (-3), .int .i64 4] 32)).alloc (.cells #[.int .i64 (-4), .int .i64 5] 32)).alloc (.cells #[.int .i64 (-5), .int .i64 (-4), .int .i64 (-2)] 32)).alloc (.cells #[.int .i64 3] 32)).alloc (.cells #[.slice (some ⟨w.heap.size, 0, none⟩) 2 2, .slice (some ⟨w.heap.size + 1, 0, none⟩) 3 3, .slice (some ⟨w.heap.size + 1 + 1, 0, none⟩) 2 2, .slice (some ⟨w.heap.size + 1 + 1 + 1, 0, none⟩) 3 3, .slice (some ⟨w.heap.size + 1 + 1 + 1 + 1, 0, none⟩) 1 1] 34)) = W6 ∧ Below w.heap.size w W6 ∧ ClsAt W6 (.slice (some ⟨w.heap.size + 1 + 1 + 1 + 1 + 1, 0, none⟩) 5 5) exL := by
    refine ⟨_, rfl, (((((mx_al _ _).alloc (by simp) _).alloc (by simp; omega) _).alloc (by simp; omega) _).alloc (by simp; omega) _).alloc (by simp; omega) _, ?_⟩
    have key := cls_new (((((w.alloc (.cells #[.int .i64 (-1), .int .i64 2] 32)).alloc (.cells #[.int .i64 (-2), .int .i64 (-3), .int .i64 4] 32)).alloc (.cells #[.int .i64 (-4), .int .i64 5] 32)).alloc (.cells #[.int .i64 (-5), .int .i64 (-4), .int .i64 (-2)] 32)).alloc (.cells #[.int .i64 3] 32)) [.slice (some ⟨w.heap.size, 0, none⟩) 2 2, .slice (some ⟨w.heap.size + 1, 0, none⟩) 3 3, .slice (some ⟨w.heap.size + 1 + 1, 0, none⟩) 2 2, .slice (some ⟨w.heap.size + 1 + 1 + 1, 0, none⟩) 3 3, .slice (some ⟨w.heap.size + 1 + 1 + 1 + 1, 0, none⟩) 1 1] exL 34 (fun i xs hi => by
      match i, hi with
      | 0, hi =>
        obtain rfl := Option.some.inj hi
        exact ⟨_, rfl, ex_in (xs := [-1, 2]) (W := w) rfl ((((mx_al _ _).mono (by simp)).alloc (by simp) _).alloc (by simp) _ |>.alloc (by simp) _)⟩
      | 1, hi =>
        obtain rfl := Option.some.inj hi
        exact ⟨_, rfl, ex_in (xs := [-2, -3, 4]) (W := w.alloc (.cells #[.int .i64 (-1), .int .i64 2] 32)) (by simp) ((((mx_al _ _).mono (by simp)).alloc (by simp) _).alloc (by simp) _)⟩
      | 2, hi =>
        obtain rfl := Option.some.inj hi
        exact ⟨_, rfl, ex_in (xs := [-4, 5]) (W := (w.alloc (.cells #[.int .i64 (-1), .int .i64 2] 32)).alloc (.cells #[.int .i64 (-2), .int .i64 (-3), .int .i64 4] 32)) (by simp) (((mx_al _ _).mono (by simp)).alloc (by simp) _)⟩
      | 3, hi =>
        obtain rfl := Option.some.inj hi
        exact ⟨_, rfl, ex_in (xs := [-5, -4, -2]) (W := ((w.alloc (.cells #[.int .i64 (-1), .int .i64 2] 32)).alloc (.cells #[.int .i64 (-2), .int .i64 (-3), .int .i64 4] 32)).alloc (.cells #[.int .i64 (-4), .int .i64 5] 32)) (by simp) ((mx_al _ _).mono (by simp))⟩
      | 4, hi =>
        obtain rfl := Option.some.inj hi
        exact ⟨_, rfl, ex_in (xs := [3]) (W := (((w.alloc (.cells #[.int .i64 (-1), .int .i64 2] 32)).alloc (.cells #[.int .i64 (-2), .int .i64 (-3), .int .i64 4] 32)).alloc (.cells #[.int .i64 (-4), .int .i64 5] 32)).alloc (.cells #[.int .i64 (-5), .int .i64 (-4), .int .i64 (-2)] 32)) (by simp) (Below.refl _ _)⟩
      | n + 5, hi => exact absurd hi (by simp [exL]))
    simpa [exL] using key
  have hsz : W6.heap.size = w.heap.size + 1 + 1 + 1 + 1 + 1 + 1 := by rw [← hW6]; simp
  have HSZ := Lib.hid hsz
  have HW6 := Lib.hid hW6
  have HB6 := Lib.hid hb6
  have HC6 := Lib.hid hc6
  clear hW6 hb6 hc6 hsz
  go_enter Tryz.func47, Tryz.ntmps47
  go_wp2_with fail
  rw [HW6.out]
  go_ret2
  have hnew := World.alloc_heap_new W6 (.cells (exA.flatMap ActP.cells).toArray 90)
  have hb := mx_al W6 (.cells (exA.flatMap ActP.cells).toArray 90)
  rw [HSZ.out] at hnew hb
  exact ⟨_, _, W6, rfl, HC6.out, HSZ.out, hb, hnew, by omega, HB6.out.trans (hb.mono (by omega))⟩
end Go.Proofs.YtoojmhjagipmdaaGreat
namespace Go.Proofs.YtoojmhjagipmdaaGreat
open Go.RowKit

theorem run_clear3 (w : World) (ty : TypeId) (b o c : Nat) (hc : ∀ j, j < 3 → (w.cell? ⟨b, o + j, none⟩).isSome = true) (hf : ∀ j, j < 3 → w.frozen? ⟨b, o + j, none⟩ = false) :
    (Builtin.clear_ #[84] ty #[.slice (some ⟨b, o, none⟩) 1 c]).run Tryz.prog w = .ok (.tuple #[]) (w.setCells b o [.bool false, .int .i64 0, .int .i64 0]) := by
  have hzc : (Builtin.zeroCells (Value.agg #[.bool false, .int .i64 0, .int .i64 0]).cells 1).toList = [.bool false, .int .i64 0, .int .i64 0] := by kernel_rfl
  have hst := run_storeCells_cells (P := Tryz.prog) b o [.bool false, .int .i64 0, .int .i64 0] 0 w (by simpa using hc) (by simpa using hf) (by simp [Value.oneCell'])
  simp only [Nat.add_zero] at hst
  simp [Builtin.clear_, run_underlying Tryz.underlying84, hzc, hst]
set_option maxRecDepth 100000 in
set_option maxHeartbeats 2000000 in
theorem del_acts (g : Nat) (cs : Array Value) (l : List ActP) (w : World) (hb : w.heap[g]? = some (.cells cs 90 (0, 0))) (hl : l.length = 7) (ht : cs.toList = l.flatMap ActP.cells) :
    Calls Tryz.prog 49 #[.slice (some ⟨g, 0, none⟩) 7 7, .int .i64 2, .int .i64 3] w fun e w' => e = .returned (.slice (some ⟨g, 0, none⟩) 6 7) ∧ ActsIn w' (.slice (some ⟨g, 0, none⟩) 6 7) (l.eraseIdx 2) ∧ Kept (fun k => k = g) w w' := by
  have hcs : cs.size = 21 := by
    have := congrArg List.length ht
    rw [actCells_len, hl] at this
    simpa using this
  obtain ⟨i0, hi0, hz0, hz1, hz2⟩ := info_parts ainfo_act
  have hgD : w.drew.heap[g]? = some (.cells cs 90 (0, 0)) := hb
  have hnl : (cs.toList.drop 9).length = 4 * i0.size := by rw [hz1, List.length_drop, Array.length_toList, hcs]
  have hnews : ∀ j u, (cs.toList.drop 9)[j]? = some u → w.drew.cell? ((⟨g, 9, none⟩ : Addr).add j) = some u := fun j u hj => by
    rw [addr_add2, mx_cell hgD]
    rw [List.getElem?_drop, Array.getElem?_toList] at hj
    exact hj
  have h1 : ∀ u ∈ cs.toList.drop 9, u.oneCell' = true := fun u hu => by
    have := List.mem_of_mem_drop hu
    rw [ht] at this
    obtain ⟨a, _, ha⟩ := List.mem_flatMap.1 this
    simp only [ActP.cells, List.mem_cons, List.not_mem_nil, or_false] at ha
    rcases ha with rfl | rfl | rfl <;> rfl
  have hrun := fun ty => run_append_room (P := Tryz.prog) w.drew 84 ty 90 i0 Tryz.underlying84 hi0 g 2 7 cs hgD ⟨g, 9, none⟩ 4 4 (cs.toList.drop 9) hnl hnews h1 (by decide) (by rw [hnl, hz1, hcs]; decide)
  rw [hz1] at hrun
  obtain ⟨W2, hW2⟩ : ∃ x, w.drew.setRow g (cs.toList.take (2 * 3) ++ cs.toList.drop 9 ++ cs.toList.drop (2 * 3 + (cs.toList.drop 9).length)).toArray = x := ⟨_, rfl⟩
  rw [hW2] at hrun
  have hb2 : W2.heap[g]? = some (.cells (cs.toList.take (2 * 3) ++ cs.toList.drop 9 ++ cs.toList.drop (2 * 3 + (cs.toList.drop 9).length)).toArray 90 (0, 0)) := by
    rw [← hW2]
    exact setRow_heap w.drew g cs _ _ _ hgD
  have hk2 : Kept (fun k => k = g) w W2 := by
    rw [← hW2]
    exact ⟨rfl, rfl, rfl, by simp, fun k _ hk => setRow_other w.drew g k _ hk⟩
  have hs2 : (cs.toList.take (2 * 3) ++ cs.toList.drop 9 ++ cs.toList.drop (2 * 3 + (cs.toList.drop 9).length)).toArray.size = 21 := by
    simp [hcs]
  have ht2 : (cs.toList.take (2 * 3) ++ cs.toList.drop 9 ++ cs.toList.drop (2 * 3 + (cs.toList.drop 9).length)).toArray.toList.take 18 = (l.eraseIdx 2).flatMap ActP.cells := by
    rw [List.toList_toArray, ht, List.eraseIdx_eq_take_drop_succ, List.flatMap_append]
    have e1 : (l.flatMap ActP.cells).take (2 * 3) = (l.take 2).flatMap ActP.cells := by
      match l, hl with
      | [a, b, c, d, e, f, g], _ => rfl
    have e2 : (l.flatMap ActP.cells).drop 9 = (l.drop 3).flatMap ActP.cells := by
      match l, hl with
      | [a, b, c, d, e, f, g], _ => rfl
    have e3 : ((l.take 2).flatMap ActP.cells ++ (l.drop 3).flatMap ActP.cells).length = 18 := by
      rw [List.length_append, actCells_len, actCells_len, List.length_take, List.length_drop, hl]
      rfl
    rw [e1, e2, List.take_append_of_le_length (Nat.le_of_eq e3.symm), List.take_of_length_le (Nat.le_of_eq e3)]
  generalize (cs.toList.take (2 * 3) ++ cs.toList.drop 9 ++ cs.toList.drop (2 * 3 + (cs.toList.drop 9).length)).toArray = c2 at hb2 hs2 ht2
  have hcl := fun ty => run_clear3 W2 ty g 18 1 (fun j hj => by rw [mx_cell hb2, Array.getElem?_eq_getElem (by omega)]; rfl) (fun j _ => mx_free hb2)
  obtain ⟨W3, hW3⟩ : ∃ x, W2.setCells g 18 [.bool false, .int .i64 0, .int .i64 0] = x := ⟨_, rfl⟩
  rw [hW3] at hcl
  have hb3 : W3.heap[g]? = some (.cells (((c2.setIfInBounds 18 (.bool false)).setIfInBounds 19 (.int .i64 0)).setIfInBounds 20 (.int .i64 0)) 90 (0, 0)) := by
    rw [← hW3]
    exact mx_set (j := 20) (mx_set (j := 19) (mx_set (j := 18) hb2 _) _) _
  have hk3 : Kept (fun k => k = g) w W3 := by
    rw [← hW3]
    exact ((hk2.setCell ⟨g, 18, none⟩ _ rfl).setCell ⟨g, 19, none⟩ _ rfl).setCell ⟨g, 20, none⟩ _ rfl
  have hA := acts_of_block (n := 6) (c := 7) (l := l.eraseIdx 2) hb3 (by rw [List.length_eraseIdx_of_lt (by omega), hl]) (by
    rw [← ht2]
    simp only [Array.toList_setIfInBounds]
    rw [List.take_set_of_le (by decide), List.take_set_of_le (by decide), List.take_set_of_le (by decide)])
  have HRUN := Lib.hid hrun
  have HCL := Lib.hid hcl
  have HA := Lib.hid hA
  have HK3 := Lib.hid hk3
  clear hb ht hcs hgD hnl hnews h1 hrun hW2 hb2 hk2 hs2 ht2 hcl hW3 hb3 hk3 hA hi0 hz0 hz1 hz2
  go_enter Tryz.func49, Tryz.ntmps49
  go_upto_region 5 with fail
  refine wp_region_held_drew (S := fun _ => True) (by kernel_rfl) trivial (fun hS => ?_)
  refine takeE 0 20 ?_
  refine takeE 1 21 ?_
  refine takeE 2 22 ?_
  refine takeE 3 23 ?_
  refine takeE 4 24 ?_
  refine takeE 5 25 ?_
  refine ready1 6 (fun K hK => ?_)
  rw [if_pos (by rfl)]
  refine wp_append_run 26 (by rfl) _ _ 84 rfl _ _ (by rfl) (by rfl) (HRUN.out _) ?_
  refine hK.out _ _ trivial (fun _ => ?_)
  clear hK
  simp only [Act.put, List.setIfInBounds_toArray, List.set_cons_zero, List.set_cons_succ]
  refine takeE 7 0 ?_
  refine wpAnyH_done (by kernel_rfl) ?_ _
  have hcl := HCL.out
  go_wp2_with fail
  go_ret
  exact ⟨rfl, HA.out, HK3.out⟩
end Go.Proofs.YtoojmhjagipmdaaGreat
namespace Go.Proofs.YtoojmhjagipmdaaGreat
open Go.RowKit

def exD : List ActP := [⟨false, 3, 5⟩, ⟨true, 0, 0⟩, ⟨true, 0, 0⟩, ⟨false, 1, 0⟩, ⟨false, 2, 1⟩, ⟨false, 4, 2⟩, ⟨false, 5, 3⟩]
theorem exL_len : ∀ c ∈ exL, c.length ≤ 1000 := by decide
set_option maxRecDepth 100000 in
set_option maxHeartbeats 4000000 in
theorem awake_any (w : World) : Calls Tryz.prog 10 #[] w fun e w' => e = .returned (.bool true) ∧ Below w.heap.size w w' := by
  have HEX := Lib.hid (example_any w)
  go_enter Tryz.func10, Tryz.ntmps10
  go_wp2_with fail
  refine HEX.out.mono ?_
  rintro e w1 ⟨cv, g, W6, rfl, hc, hz6, hb6, hg, hwg, hb1⟩
  have HC := Lib.hid hc
  have HG := Lib.hid hg
  have H6 := Lib.hid hb6
  have HB1 := Lib.hid hb1
  have HZ6 := Lib.hid hz6
  have hg1 := heap_lt hg
  obtain ⟨Ac, cc, rfl, _⟩ := hc
  rw [show exL.length = 5 from rfl] at HC
  have ha1 : ActsIn w1 (.slice (some ⟨g, 0, none⟩) 7 7) exA := acts_of_block (l := exA) hg rfl (by rw [List.toList_toArray]; exact List.take_of_length_le (by decide))
  have hp := put_any 5 _ _ exL exA w1 (by decide) ((HC.out).below (by rw [hz6]; exact hb6)) ha1 (by decide) exL_len (by decide)
  have HP := Lib.hid hp
  clear hg hb6 hb1 hz6 ha1 hp HEX
  rw [show exL.length = 5 from rfl]
  go_wp2_with fail
  refine HP.out.mono ?_
  rintro e w2 ⟨a, b, rfl, hpa, hb2⟩
  have HPA := Lib.hid hpa
  have hz2 := hb2.size
  have HB2 := Lib.hid hb2
  clear HP hpa hb2
  have hcf := put_conf 4 HPA.out
  rw [show addAll arn0 0 exL = exAr from rfl, show playAll (trl0 5) exA = exT from rfl, ex_conf1] at hcf
  have HCF := Lib.hid hcf
  clear hcf
  go_wp2_with fail
  refine HCF.out.mono ?_
  rintro e w3 ⟨⟨v, rfl, hv⟩, hb3⟩
  obtain ⟨Ax, cx, Ay, cy, Az, cz, rfl, hx, hy, hz⟩ := hv.parts
  have HX := Lib.hid hx
  have HY := Lib.hid hy
  have HZ := Lib.hid hz
  have HB3 := Lib.hid hb3
  clear hx hy hz hv HCF hb3
  go_wp2_with fail
  obtain ⟨Wa, hWa⟩ : ∃ x, w3.alloc (.cells #[.slice Ax 2 cx, .int .i64 1, .int .i64 2, .slice Ay 3 cy, .slice Az 4 cz] 65) = x := ⟨_, rfl⟩
  have hbA : Below w3.heap.size w3 Wa := by rw [← hWa]; exact mx_al _ _
  have hbx : Wa.heap[w3.heap.size]? = some (.cells #[.slice Ax 2 cx, .int .i64 1, .int .i64 2, .slice Ay 3 cy, .slice Az 4 cz] 65 (0, 0)) := by rw [← hWa]; exact World.alloc_heap_new _ _
  have hzA : Wa.heap.size = w3.heap.size + 1 := by rw [← hWa]; simp
  rw [hWa]
  have HA1 := Lib.hid hbA
  have HBX1 := Lib.hid hbx
  have HZA1 := Lib.hid hzA
  clear hbA hbx hzA hWa
  have hq := eqc_lit Wa (.slice Ax 2 cx) [-2, -3] [-2, -3] (fun w' hb => HX.out w' (HA1.out.trans (hb.mono HA1.out.size))) (by decide)
  rw [HZA1.out] at hq
  rw [show (([-2, -3] : List Int) == [-2, -3]) = true from rfl] at hq
  have HQ := Lib.hid hq
  clear hq
  refine HQ.out.mono ?_
  rintro e w4 ⟨rfl, hbq⟩
  clear HQ
  rw [← HZA1.out] at hbq
  have HB4 := Lib.hid (HA1.out.trans (hbq.mono HA1.out.size))
  obtain ⟨⟨o0, o1, o2, o3, o4⟩, _⟩ := cells5 ((hbq.block _ (heap_lt HBX1.out)).trans HBX1.out)
  have HBX4 := Lib.hid ((hbq.block _ (heap_lt HBX1.out)).trans HBX1.out)
  clear hbq
  go_wp2_with fail
  have hq := eqi_lit w4 (.slice Ay 3 cy) [2, 3, 4] [2, 3, 4] (fun w' hb => HY.out w' (HB4.out.trans (hb.mono HB4.out.size))) (by decide)
  skip
  rw [show (([2, 3, 4] : List Int) == [2, 3, 4]) = true from rfl] at hq
  have HQ := Lib.hid hq
  clear hq
  refine HQ.out.mono ?_
  rintro e w5 ⟨rfl, hbq⟩
  clear HQ
  have HB5 := Lib.hid (HB4.out.trans (hbq.mono HB4.out.size))
  clear o0 o1 o2 o3 o4
  obtain ⟨⟨o0, o1, o2, o3, o4⟩, _⟩ := cells5 ((hbq.block _ (heap_lt HBX4.out)).trans HBX4.out)
  clear hbq
  go_wp2_with fail
  have hq := eqi_lit w5 (.slice Az 4 cz) [2, 3, 4, 5] [2, 3, 4, 5] (fun w' hb => HZ.out w' (HB5.out.trans (hb.mono HB5.out.size))) (by decide)
  skip
  rw [show (([2, 3, 4, 5] : List Int) == [2, 3, 4, 5]) = true from rfl] at hq
  have HQ := Lib.hid hq
  clear hq
  refine HQ.out.mono ?_
  rintro e w6 ⟨rfl, hbq⟩
  clear HQ
  have HB6 := Lib.hid (HB3.out.trans ((HB5.out.trans (hbq.mono HB5.out.size)).mono HB3.out.size))
  clear o0 o1 o2 o3 o4 hbq
  have hr4 := put_right 4 (HPA.out.below HB6.out)
  rw [show addAll arn0 0 exL = exAr from rfl, show playAll (trl0 5) exA = exT from rfl, ex_right4] at hr4
  have HR4 := Lib.hid hr4
  clear hr4
  go_wp2_with fail
  refine HR4.out.mono ?_
  rintro e w7 ⟨rfl, hb⟩
  have HB7 := Lib.hid (HB6.out.trans (hb.mono HB6.out.size))
  clear hb HR4
  have hr1 := put_right 1 (HPA.out.below HB7.out)
  rw [show addAll arn0 0 exL = exAr from rfl, show playAll (trl0 5) exA = exT from rfl, ex_right1] at hr1
  have HR1 := Lib.hid hr1
  clear hr1
  go_wp2_with fail
  refine HR1.out.mono ?_
  rintro e w8 ⟨rfl, hb⟩
  have HB8 := Lib.hid (HB7.out.trans (hb.mono HB7.out.size))
  clear hb HR1
  have hl4 := put_level (A := exAr) (T := exT) 4 [-5, -4, -2] ex_get4 (HPA.out.below HB8.out)
  rw [ex_f4] at hl4
  have HL4 := Lib.hid hl4
  clear hl4
  go_wp2_with fail
  refine HL4.out.mono ?_
  rintro e w9 ⟨rfl, hb⟩
  rw [show levelVal (some 2) = .tuple #[.int .i64 2, .int .i64 0] from rfl]
  have HB9 := Lib.hid (HB8.out.trans (hb.mono HB8.out.size))
  clear hb HL4
  have hc5 := put_conf 5 (HPA.out.below HB9.out)
  rw [show addAll arn0 0 exL = exAr from rfl, show playAll (trl0 5) exA = exT from rfl, ex_conf5] at hc5
  have HC5 := Lib.hid hc5
  clear hc5
  go_wp2_with fail
  refine HC5.out.mono ?_
  rintro e w10 ⟨⟨v, rfl, hv⟩, hb⟩
  obtain ⟨Bx, dx, By, dy, Bz, dz, rfl, _⟩ := hv.parts
  have HB10 := Lib.hid (HB9.out.trans (hb.mono HB9.out.size))
  clear hv HC5 hb
  have hg10 : w10.heap[g]? = some (.cells (exA.flatMap ActP.cells).toArray 90 (0, 0)) := (HB10.out.block g (by omega)).trans ((HB2.out.block g hg1).trans HG.out)
  have c0 : w10.cell? ⟨g, 0, none⟩ = some (.bool true) := mx_cell (j := 0) hg10
  have c1 : w10.cell? ⟨g, 1, none⟩ = some (.int .i64 0) := mx_cell (j := 1) hg10
  have c2 : w10.cell? ⟨g, 2, none⟩ = some (.int .i64 0) := mx_cell (j := 2) hg10
  have c3 : w10.cell? ⟨g, 3, none⟩ = some (.bool false) := mx_cell (j := 3) hg10
  have c4 : w10.cell? ⟨g, 4, none⟩ = some (.int .i64 3) := mx_cell (j := 4) hg10
  have c5 : w10.cell? ⟨g, 5, none⟩ = some (.int .i64 0) := mx_cell (j := 5) hg10
  have f0 := mx_free (j := 0) hg10
  have f1 := mx_free (j := 1) hg10
  have f2 := mx_free (j := 2) hg10
  have f3 := mx_free (j := 3) hg10
  have f4 := mx_free (j := 4) hg10
  have f5 := mx_free (j := 5) hg10
  have hglt := heap_lt hg10
  have HG10 := Lib.hid hg10
  clear hg10
  go_wp2_with fail
  obtain ⟨Wd, hWd⟩ : ∃ x, ((((((w10.setCell ⟨g, 0, none⟩ (.bool false)).setCell ⟨g, 1, none⟩ (.int .i64 3)).setCell ⟨g, 2, none⟩ (.int .i64 5)).setCell ⟨g, 3, none⟩ (.bool true)).setCell ⟨g, 4, none⟩ (.int .i64 0)).setCell ⟨g, 5, none⟩ (.int .i64 0)).alloc (.cells #[.slice Bx lrn0.lits.length dx, .int .i64 lrn0.back, .int .i64 lrn0.levels, .slice By lrn0.hints.length dy, .slice Bz lrn0.met.length dz] 65) = x := ⟨_, rfl⟩
  have hgd : Wd.heap[g]? = some (.cells (exD.flatMap ActP.cells).toArray 90 (0, 0)) := by
    rw [← hWd, Below.heap_alloc _ _ _ (by simp [World.setCell]; omega)]
    exact mx_set (j := 5) (mx_set (j := 4) (mx_set (j := 3) (mx_set (j := 2) (mx_set (j := 1) (mx_set (j := 0) HG10.out _) _) _) _) _) _
  have h1d : Below g w1 Wd := by
    rw [← hWd]
    exact ((((((((HB2.out.trans (HB10.out.mono hz2)).mono (Nat.le_of_lt hg1)).setCell (Nat.le_refl g) _).setCell (Nat.le_refl g) _).setCell (Nat.le_refl g) _).setCell (Nat.le_refl g) _).setCell (Nat.le_refl g) _).setCell (Nat.le_refl g) _).alloc (by simp [World.setCell]; omega) _
  rw [hWd]
  have H1D := Lib.hid h1d
  have HGD := Lib.hid hgd
  have hgdl := heap_lt hgd
  have HDL := Lib.hid (del_acts g _ exD Wd hgd rfl (List.toList_toArray))
  clear hWd hgd h1d c0 c1 c2 c3 c4 c5 f0 f1 f2 f3 f4 f5
  refine HDL.out.mono ?_
  rintro e w11 ⟨rfl, hac, hk11⟩
  rw [show exD.eraseIdx 2 = exB from rfl] at hac
  have h11 : Below g w1 w11 := below_kept H1D.out hk11 (fun i e => Nat.le_of_eq e.symm) (Nat.le_of_lt hgdl)
  have hg11 : g < w11.heap.size := Nat.lt_of_lt_of_le hgdl hk11.size
  have hp := put_any 5 _ _ exL exB w11 (by decide) (HC.out.below (by rw [HZ6.out]; exact H6.out.trans h11)) hac (by decide) exL_len (by decide)
  have HP := Lib.hid hp
  have H11 := Lib.hid h11
  clear hp hac hk11 h11 HDL
  go_wp2_with fail
  refine HP.out.mono ?_
  rintro e w12 ⟨a2, b2, rfl, hpa, hb12⟩
  have HPB := Lib.hid hpa
  have HB12 := Lib.hid (H11.out.trans (hb12.mono (Nat.le_of_lt hg11)))
  have hz12 := hb12.size
  clear HP hpa hb12
  have hcf := put_conf 4 HPB.out
  rw [show addAll arn0 0 exL = exAr from rfl, show playAll (trl0 5) exB = exU from rfl, ex_conf2] at hcf
  have HCF := Lib.hid hcf
  clear hcf
  go_wp2_with fail
  refine HCF.out.mono ?_
  rintro e w13 ⟨⟨v, rfl, hv⟩, hb13⟩
  obtain ⟨Cx, ex, Cy, ey, Cz, ez, rfl, hx, hy, _⟩ := hv.parts
  have HX2 := Lib.hid hx
  have HY2 := Lib.hid hy
  have HB13 := Lib.hid (HB12.out.trans (hb13.mono (Nat.le_trans (Nat.le_of_lt hg11) hz12)))
  have hz13 := hb13.size
  clear hx hy hv HCF hb13
  go_wp2_with fail
  obtain ⟨Wb, hWb⟩ : ∃ x, w13.alloc (.cells #[.slice Cx 1 ex, .int .i64 0, .int .i64 1, .slice Cy 4 ey, .slice Cz 3 ez] 65) = x := ⟨_, rfl⟩
  have hbA : Below w13.heap.size w13 Wb := by rw [← hWb]; exact mx_al _ _
  have hbx : Wb.heap[w13.heap.size]? = some (.cells #[.slice Cx 1 ex, .int .i64 0, .int .i64 1, .slice Cy 4 ey, .slice Cz 3 ez] 65 (0, 0)) := by rw [← hWb]; exact World.alloc_heap_new _ _
  have hzA : Wb.heap.size = w13.heap.size + 1 := by rw [← hWb]; simp
  rw [hWb]
  have HA2 := Lib.hid hbA
  have HBX2 := Lib.hid hbx
  have HZA2 := Lib.hid hzA
  clear hbA hbx hzA hWb
  have hq := eqc_lit Wb (.slice Cx 1 ex) [-2] [-2] (fun w' hb => HX2.out w' (HA2.out.trans (hb.mono HA2.out.size))) (by decide)
  rw [HZA2.out] at hq
  rw [show (([-2] : List Int) == [-2]) = true from rfl] at hq
  have HQ := Lib.hid hq
  clear hq
  refine HQ.out.mono ?_
  rintro e w14 ⟨rfl, hbq⟩
  clear HQ
  rw [← HZA2.out] at hbq
  have HB14 := Lib.hid (HA2.out.trans (hbq.mono HA2.out.size))
  obtain ⟨⟨o0, o1, o2, o3, o4⟩, _⟩ := cells5 ((hbq.block _ (heap_lt HBX2.out)).trans HBX2.out)
  clear hbq
  go_wp2_with fail
  have hq := eqi_lit w14 (.slice Cy 4 ey) [5, 2, 3, 4] [5, 2, 3, 4] (fun w' hb => HY2.out w' (HB14.out.trans (hb.mono HB14.out.size))) (by decide)
  skip
  rw [show (([5, 2, 3, 4] : List Int) == [5, 2, 3, 4]) = true from rfl] at hq
  have HQ := Lib.hid hq
  clear hq
  refine HQ.out.mono ?_
  rintro e w15 ⟨rfl, hbq⟩
  clear HQ
  have hlast : Below w.heap.size w w15 := HB1.out.trans ((HB13.out.trans ((HB14.out.trans (hbq.mono HB14.out.size)).mono (Nat.le_trans (Nat.le_trans (Nat.le_of_lt hg11) hz12) hz13))).mono hwg)
  have HLAST := Lib.hid hlast
  clear hbq hlast o0 o1 o2 o3 o4
  go_wp2_with fail
  go_ret
  exact ⟨rfl, HLAST.out⟩
end Go.Proofs.YtoojmhjagipmdaaGreat
namespace Go.Proofs.YtoojmhjagipmdaaGreat
open Go.RowKit

theorem madeLit_six (x : Int) : litB (madeLit x) = true ∧ litV (madeLit x) < 7 := by
  obtain ⟨h1, h2⟩ := madeLit_rng x
  have hb : litB (madeLit x) = true := (litB_iff _).2 (by omega)
  exact ⟨hb, by have := (litV_pos hb).2; omega⟩
structure FewT (T : Trl) (k : Nat) : Prop where
  sim : ∃ its, Sim T its
  vars : T.vars.length = 7
  starts : T.starts.length ≤ k + 1
theorem FewT.push {T : Trl} {k : Nat} (h : FewT T k) : FewT T.push (k + 1) := by
  obtain ⟨⟨its, h1⟩, h2, h3⟩ := h
  exact ⟨⟨its, h1.pushT⟩, h2, by show (T.starts ++ [(T.order.length : Int)]).length ≤ _; rw [List.length_append]; simp; omega⟩
theorem FewT.assign {T : Trl} {k : Nat} (h : FewT T k) (l : Int) : FewT (T.assigned l 0) k := by
  obtain ⟨⟨its, h1⟩, h2, h3⟩ := h
  refine ⟨?_, (assigned_vars T l 0).trans h2, by rw [assigned_starts]; exact h3⟩
  by_cases he : T.assignErr l 0 = 0
  · exact ⟨_, h1.snoc he⟩
  · have e : T.assigned l 0 = T := by unfold Trl.assigned; rw [if_neg he]
    rw [e]
    exact ⟨its, h1⟩
theorem FewT.few {T : Trl} {k : Nat} (h : FewT T k) : T.order.length ≤ 6 := by
  obtain ⟨⟨its, h1⟩, h2, _⟩ := h
  exact h1.few h2
theorem FewT.mono {T : Trl} {k j : Nat} (h : FewT T k) (hj : k ≤ j) : FewT T j := ⟨h.sim, h.vars, by have := h.starts; omega⟩
/-- what Add of a clause tells, and what the clause is -/
inductive AddsO (T : Trl) (c : List Int) (K I : Nat) (U : Int) (T' : Trl) : Prop
  | alw (ha : alwL c = true) (hk : K = 4) (ht : T' = T)
  | unit (ha : alwL c = false) (hi : I = 3) (hk : K = 2) (ho : T'.order = T.order ++ [U]) (hs : T'.starts = T.starts) (hl : T'.level (litV U : Nat) = (T.starts.length : Int) - 1) (hr : T'.reason (litV U : Nat) = 1)
  | fails (ha : alwL c = false) (hi : I = 2) (hk : K = 3) (ht : T' = T)
  | rests (ha : alwL c = false) (hi : I ≠ 2 ∧ I ≠ 3) (hk : K = 1) (ht : T' = T)
end Go.Proofs.YtoojmhjagipmdaaGreat
namespace Go.Proofs.YtoojmhjagipmdaaGreat
open Go.RowKit

section
variable {cs : List (List Int)} {T : Trl} {its : List RIt} {S : Wst} {w0 w : World} {lab : Nat → Nat} {b ab tb : Nat}
theorem six_made (xss : List (List Int)) (m : Nat) (hm : m ≤ 900) : Six ((xss.take m).map madeL) := by
  refine ⟨by rw [List.length_map, List.length_take]; omega, fun c hc => ?_⟩
  obtain ⟨xs, _, rfl⟩ := List.mem_map.1 hc
  refine ⟨by simp [madeL]; omega, fun y hy => ?_⟩
  obtain ⟨n, _, rfl⟩ := List.mem_map.1 hy
  exact madeLit_six n
end
end Go.Proofs.YtoojmhjagipmdaaGreat
namespace Go.Proofs.YtoojmhjagipmdaaGreat
open Go.RowKit Go.Sort

theorem sortL_pair (xs : List Int) : (sortL xs).Pairwise (fun a b => (!(Go.Proofs.ltOf litC) b a) = true) := by
  unfold sortL
  refine List.pairwise_mergeSort (fun a b c h1 h2 => ?_) (fun a b => ?_) xs
  · simp only [Bool.not_eq_true'] at *
    exact ltC_swo.ntrans c b a h2 h1
  · cases hab : Go.Proofs.ltOf litC b a
    · simp
    · cases hba : Go.Proofs.ltOf litC a b
      · simp
      · have := ltC_swo.trans _ _ _ hab hba
        rw [ltC_swo.irrefl] at this
        cases this
theorem onceL_pair {l : Int} {xs : List Int} (hr : ∀ x ∈ xs, litB x = true) (hp : xs.Pairwise (fun a b => litI a ≤ litI b)) (hl : l = 0 ∨ (litB l = true ∧ ∀ x ∈ xs, litI l ≤ litI x)) : (onceL l xs).Pairwise (fun a b => litI a < litI b) ∧ (litB l = true → ∀ x ∈ onceL l xs, litI l < litI x) := by
  induction xs generalizing l with
  | nil => exact ⟨List.Pairwise.nil, fun _ x hx => by cases hx⟩
  | cons z r ih =>
    obtain ⟨hz, hpr⟩ := List.pairwise_cons.1 hp
    have hrz := hr z List.mem_cons_self
    have hrr : ∀ x ∈ r, litB x = true := fun x hx => hr x (List.mem_cons_of_mem _ hx)
    unfold onceL
    split
    · exact ih hrr hpr (hl.imp_right (fun h => ⟨h.1, fun x hx => h.2 x (List.mem_cons_of_mem _ hx)⟩))
    · rename_i hne
      obtain ⟨i1, i2⟩ := ih (l := z) hrr hpr (.inr ⟨hrz, hz⟩)
      refine ⟨List.pairwise_cons.2 ⟨fun x hx => i2 hrz x hx, i1⟩, fun hlb x hx => ?_⟩
      have hlz : litI l < litI z := by
        rcases hl with rfl | ⟨h1, h2⟩
        · cases hlb
        · have h3 := h2 z List.mem_cons_self
          have h4 : litI l ≠ litI z := fun e => hne (litI_inj h1 hrz e).symm
          omega
      rcases List.mem_cons.1 hx with rfl | hx
      · exact hlz
      · have := i2 hrz x hx
        omega
theorem normL_pair {xs : List Int} (hr : ∀ x ∈ xs, litB x = true) : (normL xs).Pairwise (fun a b => litI a < litI b) := by
  have hrs : ∀ x ∈ sortL xs, litB x = true := fun x hx => hr x (sortL_mem.1 hx)
  refine (onceL_pair hrs ?_ (.inl rfl)).1
  refine List.Pairwise.imp_of_mem (fun {a b} ha hb h => ?_) (sortL_pair xs)
  have h2 : ¬ Go.Proofs.ltOf litC b a = true := by simpa using h
  rw [ltC_iff] at h2
  simp only [hrs a ha, hrs b hb, true_and, not_or] at h2
  have := h2.2.1
  omega
theorem onceL_has {x : Int} {xs : List Int} : ∀ {l : Int}, x ∈ xs → x = l ∨ x ∈ onceL l xs := by
  induction xs with
  | nil => intro l h; cases h
  | cons z r ih =>
    intro l h
    unfold onceL
    by_cases hz : z = l
    · rw [if_pos hz]
      rcases List.mem_cons.1 h with rfl | h
      · exact .inl hz
      · exact ih h
    · rw [if_neg hz]
      rcases List.mem_cons.1 h with rfl | h
      · exact .inr List.mem_cons_self
      · rcases ih (l := z) h with rfl | h
        · exact .inr List.mem_cons_self
        · exact .inr (List.mem_cons_of_mem _ h)
theorem normL_has {x : Int} {xs : List Int} (hr : ∀ x ∈ xs, litB x = true) : x ∈ normL xs ↔ x ∈ xs := by
  refine ⟨normL_mem, fun h => ?_⟩
  rcases onceL_has (l := 0) (sortL_mem.2 h) with e | e
  · have := (litB_iff x).1 (hr x h)
    omega
  · exact e
theorem normL_nodup {xs : List Int} (hr : ∀ x ∈ xs, litB x = true) : (normL xs).Nodup := (normL_pair hr).imp (fun h e => by rw [e] at h; omega)
end Go.Proofs.YtoojmhjagipmdaaGreat
namespace Go.Proofs.YtoojmhjagipmdaaGreat
open Go.RowKit Go.Maps Go.Shelf

theorem lukGo_unit {f : Int → Int} {k : Nat} {t u : Int} {c : List Int} (h : lukGo f k t c = (3, u)) : (k = 3 ∧ u = t) ∨ (u ∈ c ∧ ofF f u = 0) := by
  induction c generalizing k t with
  | nil =>
    simp only [lukGo, Prod.mk.injEq] at h
    obtain ⟨rfl, h⟩ := h
    exact .inl ⟨rfl, by simpa using h.symm⟩
  | cons l r ih =>
    simp only [lukGo] at h
    split at h
    · cases h
    · rename_i h1
      split at h
      · exact (ih h).imp_right (fun h => ⟨List.mem_cons_of_mem _ h.1, h.2⟩)
      · rename_i h2
        simp only [not_or] at h2
        split at h
        · rcases ih h with ⟨_, rfl⟩ | h
          · exact .inr ⟨List.mem_cons_self, by omega⟩
          · exact .inr ⟨List.mem_cons_of_mem _ h.1, h.2⟩
        · rcases ih h with ⟨h, _⟩ | h
          · cases h
          · exact .inr ⟨List.mem_cons_of_mem _ h.1, h.2⟩
theorem lookF_unit {f : Int → Int} {u : Int} {c : List Int} (h : lookF f c = (3, u)) : u ∈ c ∧ ofF f u = 0 := by
  rcases lukGo_unit h with ⟨h, _⟩ | h
  · cases h
  · exact h
theorem ofF_put_self {f : Int → Int} {u : Int} : ofF (putF f u) u = 1 := by
  unfold ofF putF
  cases litG u <;> simp
/-- how many literals have no value -/
def freeN (f : Int → Int) (ls : List Int) : Nat := (ls.filter (fun l => decide (ofF f l = 0))).length
theorem asgGo_some {xs : List Int} : ∀ (f : Int → Int), (∀ x ∈ xs, litB x = true) → (∀ x ∈ xs, ∀ y ∈ xs, y ≠ -x) → (∀ x ∈ xs, 0 ≤ ofF f x) → ∃ g, asgGo f xs = some g := by
  induction xs with
  | nil => exact fun f _ _ _ => ⟨f, rfl⟩
  | cons x r ih =>
    intro f h1 h2 h3
    have hb := h1 x List.mem_cons_self
    simp only [asgGo]
    rw [if_pos ⟨hb, h3 x List.mem_cons_self⟩]
    refine ih (putF f x) (fun y hy => h1 y (List.mem_cons_of_mem _ hy)) (fun y hy z hz => h2 y (List.mem_cons_of_mem _ hy) z (List.mem_cons_of_mem _ hz)) (fun y hy => ?_)
    have hyb := h1 y (List.mem_cons_of_mem _ hy)
    have hne := h2 x List.mem_cons_self y (List.mem_cons_of_mem _ hy)
    by_cases hv : ((litV y : Nat) : Int) = ((litV x : Nat) : Int)
    · have e1 := litV_right hb
      have e2 := litV_right hyb
      obtain rfl : y = x := by omega
      rw [ofF_put_self]
      decide
    · have := h3 y (List.mem_cons_of_mem _ hy)
      unfold ofF putF at *
      simp only [if_neg hv]
      exact this
theorem alw_pair {l : Int} {xs : List Int} (hr : ∀ x ∈ xs, litB x = true) (hp : xs.Pairwise (fun a b => litI a < litI b)) (h : alwGo l xs = false) : ∀ x ∈ xs, 0 < x → ∀ y ∈ xs, y ≠ -x := by
  induction xs generalizing l with
  | nil => exact fun x hx => by cases hx
  | cons z r ih =>
    obtain ⟨hz, hpr⟩ := List.pairwise_cons.1 hp
    have hal : alwGo z r = false := by
      simp only [alwGo, Bool.or_eq_false_iff] at h
      exact h.2
    have hir := ih (fun x hx => hr x (List.mem_cons_of_mem _ hx)) hpr hal
    have hI : ∀ v : Int, 0 < v → litB v = true → litI (-v) = litI v + 1 := fun v hv hb => by
      have h1 := litV_right hb
      have hb2 : litB (-v) = true := by
        have := (litB_iff v).1 hb
        exact (litB_iff (-v)).2 (by omega)
      have h2 := litV_right hb2
      unfold litI
      rw [if_pos (show -v < 0 by omega), if_neg (show ¬ v < 0 by omega)]
      omega
    rintro x hx hx0 y hy rfl
    rcases List.mem_cons.1 hx with rfl | hxr
    · rcases List.mem_cons.1 hy with he | hyr
      · omega
      · have hy1 := hI x hx0 (hr x List.mem_cons_self)
        cases r with
        | nil => cases hyr
        | cons y1 r' =>
          have h1 := hz y1 List.mem_cons_self
          have hy2 : y1 = -x := by
            rcases List.mem_cons.1 hyr with h | h
            · exact h.symm
            · have := (List.pairwise_cons.1 hpr).1 _ h
              omega
          have hb := hr x List.mem_cons_self
          simp only [alwGo, Bool.or_eq_false_iff, Bool.and_eq_false_iff] at hal
          rcases hal.1 with h | h
          · have : x ≠ 0 := by omega
            simp [this] at h
          · rw [hy2] at h
            unfold litN at h
            rw [if_pos hb] at h
            simp at h
    · rcases List.mem_cons.1 hy with he | hyr
      · have h1 := hz x hxr
        have h2 := hI x hx0 (hr x hx)
        rw [he] at h2
        omega
      · exact hir x hxr hx0 _ hyr rfl
/-- what is assumed has values -/
theorem asm_some {c : List Int} (hc : clauseB c = true) (ha : alwL c = false) : ∃ f, asgF (asmL c) = some f := by
  have hr : ∀ x ∈ c, litB x = true := fun x hx => by
    unfold clauseB at hc
    rw [Bool.and_eq_true] at hc
    exact List.all_eq_true.1 hc.2 x hx
  unfold alwL at ha
  rw [hc, Bool.true_and] at ha
  have hrn : ∀ x ∈ normL c, litB x = true := fun x hx => hr x (normL_mem hx)
  have hp := alw_pair hrn (normL_pair hr) ha
  have hneg : ∀ x ∈ asmL c, litB x = true ∧ -x ∈ normL c := fun x hx => by
    unfold asmL at hx
    obtain ⟨y, hy, rfl⟩ := List.mem_map.1 (sortL_mem.1 hx)
    have hb := hrn y hy
    have h1 := (litB_iff y).1 hb
    unfold litN
    rw [if_pos hb]
    exact ⟨(litB_iff _).2 (by omega), by rw [Int.neg_neg]; exact hy⟩
  unfold asgF
  refine asgGo_some _ (fun x hx => (hneg x hx).1) (fun x hx y hy e => ?_) (fun x hx => by unfold ofF; simp)
  have h1 := (hneg x hx).2
  have h2 := (hneg y hy).2
  rw [e, Int.neg_neg] at h2
  have h0 := (litB_iff x).1 (hneg x hx).1
  by_cases hx0 : 0 < x
  · exact hp x h2 hx0 (-x) h1 rfl
  · exact hp (-x) h1 (by omega) x h2 (by omega)
end Go.Proofs.YtoojmhjagipmdaaGreat
namespace Go.Proofs.YtoojmhjagipmdaaGreat
open Go.RowKit Go.Maps Go.Shelf
attribute [local go_sem] Oper.semAt_some

/-- the clauses of a kind, with their literals -/
def movL (f : Int → Int) (kd : Nat) : Nat → List (List Int) → List (Nat × Int)
  | _, [] => []
  | i, c :: r => if (lookF f c).1 = kd then (i, (lookF f c).2) :: movL f kd (i + 1) r else movL f kd (i + 1) r
def mvv (x : Nat × Int) : Array Value := #[.int .i64 (x.1 : Int), .int .i64 x.2]
theorem ClsIn.narrow {O : Nat → Prop} {w : World} {v : Value} {cs : List (List Int)} (h : ClsIn O w v cs) : ClsIn (fun g => O g ∧ ¬ XO w g) w v cs := by
  obtain ⟨A, c, hv, hc, hn, hx⟩ := h
  refine ⟨A, c, hv, hc, hn, fun i xs hi => ?_⟩
  obtain ⟨g, o, u, h1, h2, h3, h4, h5⟩ := hx i xs hi
  exact ⟨g, o, u, h1, h2, ⟨h3, xo_cell h4⟩, h4, h5.narrow⟩
theorem MapAt.kpc {W w : World} {b n : Nat} {f : Int → Int} (h : MapAt W b n f) (k : KpC (fun _ => False) W w) : MapAt w b n f :=
  h.kept k.kept (by
    rintro (h' | ⟨o, ho, _, h2⟩)
    · exact h'
    · obtain ⟨D, ⟨es, cl, hb, _⟩, _⟩ := h
      rw [hb] at ho
      cases ho
      cases h2)
end Go.Proofs.YtoojmhjagipmdaaGreat
