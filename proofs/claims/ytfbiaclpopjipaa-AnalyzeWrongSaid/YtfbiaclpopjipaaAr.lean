/- Delete (package slices), at the example's calls. -/
import Derived.Test.YtfbiaclpopjipaaAq
import Derived.Test.YtfbiaclpopjipaaAk
import Derived.Lib.SliceRun
namespace Go.Proofs.Ytfbiaclpopjipaa
open Go.RowKit

theorem ainfo_act : (Try.prog.info? 66).map (fun i => (i.zero, i.size, i.bytes)) = some (some (.agg #[.bool false, .int .i64 0, .int .i64 0]), 3, 24) := by kernel_rfl
theorem wp_append_run (d : Nat) {P : Program} {w w' : World} {o : Oper} {a : Act} {K : Act → World → Prop} {Q : Exit → Act → World → Prop} {v' : Value} (hd : o.dst = some d) (s x : Operand) (t : TypeId) (ho : o.op = .call { callee := .builtin .append, args := #[s, x], argTypes := #[t, t] }) (v y : Value) (hs : a.eval s = v) (hx : a.eval x = y)
    (hr : (Builtin.append_ #[t, t] o.type #[v, y]).run P w = .ok v' w') (h : K (a.put (some d) v') w') : Oper.wp P o a w K Q := by
  unfold Oper.wp execOp
  simp only [ho, resolve, invoke, builtin, Sem.run_bind, Sem.run_pure, Result.andThen_ok, List.map_toArray, List.map_cons, List.map_nil, hs, hx, hr]
  show K (a.put o.dst v') w'
  rw [hd]
  exact h
theorem run_clear3 (w : World) (ty : TypeId) (b o c : Nat) (hc : ∀ j, j < 3 → (w.cell? ⟨b, o + j, none⟩).isSome = true) (hf : ∀ j, j < 3 → w.frozen? ⟨b, o + j, none⟩ = false) :
    (Builtin.clear_ #[61] ty #[.slice (some ⟨b, o, none⟩) 1 c]).run Try.prog w = .ok (.tuple #[]) (w.setCells b o [.bool false, .int .i64 0, .int .i64 0]) := by
  have hzc : (Builtin.zeroCells (Value.agg #[.bool false, .int .i64 0, .int .i64 0]).cells 1).toList = [.bool false, .int .i64 0, .int .i64 0] := by kernel_rfl
  have hst := run_storeCells_cells (P := Try.prog) b o [.bool false, .int .i64 0, .int .i64 0] 0 w (by simpa using hc) (by simpa using hf) (by simp [Value.oneCell'])
  simp only [Nat.add_zero] at hst
  simp [Builtin.clear_, run_underlying Try.underlying61, hzc, hst]
set_option maxRecDepth 100000 in
set_option maxHeartbeats 2000000 in
theorem del_acts (g : Nat) (cs : Array Value) (l : List ActP) (w : World) (hb : w.heap[g]? = some (.cells cs 66 (0, 0))) (hl : l.length = 7) (ht : cs.toList = l.flatMap ActP.cells) :
    Calls Try.prog 27 #[.slice (some ⟨g, 0, none⟩) 7 7, .int .i64 2, .int .i64 3] w fun e w' => e = .returned (.slice (some ⟨g, 0, none⟩) 6 7) ∧ ActsIn w' (.slice (some ⟨g, 0, none⟩) 6 7) (l.eraseIdx 2) ∧ Kept (fun k => k = g) w w' := by
  have hcs : cs.size = 21 := by
    have := congrArg List.length ht
    rw [actCells_len, hl] at this
    simpa using this
  obtain ⟨i0, hi0, hz0, hz1, hz2⟩ := info_parts ainfo_act
  have hgD : w.drew.heap[g]? = some (.cells cs 66 (0, 0)) := hb
  have hnl : (cs.toList.drop 9).length = 4 * i0.size := by rw [hz1, List.length_drop, Array.length_toList, hcs]
  have hnews : ∀ j u, (cs.toList.drop 9)[j]? = some u → w.drew.cell? ((⟨g, 9, none⟩ : Addr).add j) = some u := fun j u hj => by
    rw [addr_add2, mx_cell hgD]
    rw [List.getElem?_drop, Array.getElem?_toList] at hj
    exact hj
  have h1 : ∀ u ∈ cs.toList.drop 9, u.oneCell' = true := fun u hu => by
    have := List.mem_of_mem_drop hu
    rw [ht] at this
    obtain ⟨a, _, ha⟩ := List.mem_flatMap.1 this
    simp only [ActP.cells, List.mem_cons, List.not_mem_nil, or_false] at ha
    rcases ha with rfl | rfl | rfl <;> rfl
  have hrun := fun ty => run_append_room (P := Try.prog) w.drew 61 ty 66 i0 Try.underlying61 hi0 g 2 7 cs hgD ⟨g, 9, none⟩ 4 4 (cs.toList.drop 9) hnl hnews h1 (by decide) (by rw [hnl, hz1, hcs]; decide)
  rw [hz1] at hrun
  obtain ⟨W2, hW2⟩ : ∃ x, w.drew.setRow g (cs.toList.take (2 * 3) ++ cs.toList.drop 9 ++ cs.toList.drop (2 * 3 + (cs.toList.drop 9).length)).toArray = x := ⟨_, rfl⟩
  rw [hW2] at hrun
  have hb2 : W2.heap[g]? = some (.cells (cs.toList.take (2 * 3) ++ cs.toList.drop 9 ++ cs.toList.drop (2 * 3 + (cs.toList.drop 9).length)).toArray 66 (0, 0)) := by
    rw [← hW2]
    exact setRow_heap w.drew g cs _ _ _ hgD
  have hk2 : Kept (fun k => k = g) w W2 := by
    rw [← hW2]
    exact ⟨rfl, rfl, rfl, by simp, fun k _ hk => setRow_other w.drew g k _ hk⟩
  have hs2 : (cs.toList.take (2 * 3) ++ cs.toList.drop 9 ++ cs.toList.drop (2 * 3 + (cs.toList.drop 9).length)).toArray.size = 21 := by
    simp [hcs]
  have ht2 : (cs.toList.take (2 * 3) ++ cs.toList.drop 9 ++ cs.toList.drop (2 * 3 + (cs.toList.drop 9).length)).toArray.toList.take 18 = (l.eraseIdx 2).flatMap ActP.cells := by
    rw [List.toList_toArray, ht, List.eraseIdx_eq_take_drop_succ, List.flatMap_append]
    have e1 : (l.flatMap ActP.cells).take (2 * 3) = (l.take 2).flatMap ActP.cells := by
      match l, hl with
      | [a, b, c, d, e, f, g], _ => rfl
    have e2 : (l.flatMap ActP.cells).drop 9 = (l.drop 3).flatMap ActP.cells := by
      match l, hl with
      | [a, b, c, d, e, f, g], _ => rfl
    have e3 : ((l.take 2).flatMap ActP.cells ++ (l.drop 3).flatMap ActP.cells).length = 18 := by
      rw [List.length_append, actCells_len, actCells_len, List.length_take, List.length_drop, hl]
      rfl
    rw [e1, e2, List.take_append_of_le_length (Nat.le_of_eq e3.symm), List.take_of_length_le (Nat.le_of_eq e3)]
  generalize (cs.toList.take (2 * 3) ++ cs.toList.drop 9 ++ cs.toList.drop (2 * 3 + (cs.toList.drop 9).length)).toArray = c2 at hb2 hs2 ht2
  have hcl := fun ty => run_clear3 W2 ty g 18 1 (fun j hj => by rw [mx_cell hb2, Array.getElem?_eq_getElem (by omega)]; rfl) (fun j _ => mx_free hb2)
  obtain ⟨W3, hW3⟩ : ∃ x, W2.setCells g 18 [.bool false, .int .i64 0, .int .i64 0] = x := ⟨_, rfl⟩
  rw [hW3] at hcl
  have hb3 : W3.heap[g]? = some (.cells (((c2.setIfInBounds 18 (.bool false)).setIfInBounds 19 (.int .i64 0)).setIfInBounds 20 (.int .i64 0)) 66 (0, 0)) := by
    rw [← hW3]
    exact mx_set (j := 20) (mx_set (j := 19) (mx_set (j := 18) hb2 _) _) _
  have hk3 : Kept (fun k => k = g) w W3 := by
    rw [← hW3]
    exact ((hk2.setCell ⟨g, 18, none⟩ _ rfl).setCell ⟨g, 19, none⟩ _ rfl).setCell ⟨g, 20, none⟩ _ rfl
  have hA := acts_of_block (n := 6) (c := 7) (l := l.eraseIdx 2) hb3 (by rw [List.length_eraseIdx_of_lt (by omega), hl]) (by
    rw [← ht2]
    simp only [Array.toList_setIfInBounds]
    rw [List.take_set_of_le (by decide), List.take_set_of_le (by decide), List.take_set_of_le (by decide)])
  have HRUN := Lib.hid hrun
  have HCL := Lib.hid hcl
  have HA := Lib.hid hA
  have HK3 := Lib.hid hk3
  clear hb ht hcs hgD hnl hnews h1 hrun hW2 hb2 hk2 hs2 ht2 hcl hW3 hb3 hk3 hA hi0 hz0 hz1 hz2
  go_enter Try.func27, Try.ntmps27
  go_upto_region 5 with fail
  refine wp_region_held_drew (S := fun _ => True) (by kernel_rfl) trivial (fun hS => ?_)
  refine takeD 0 20 (v := ?_) rfl (by rfl) (by kernel_rfl) (by kernel_rfl) (by kernel_rfl) (fun _ _ _ h => h) (Or.inl ⟨by rfl, ?_⟩) (by assumption) ?_
  rotate_left
  · intro wq hSw
    clear hSw
    go_simp
    try with_reducible rfl
  simp only [Act.put, List.setIfInBounds_toArray, List.set_cons_zero, List.set_cons_succ]
  refine takeD 1 21 (v := ?_) rfl (by rfl) (by kernel_rfl) (by kernel_rfl) (by kernel_rfl) (fun _ _ _ h => h) (Or.inl ⟨by rfl, ?_⟩) (by assumption) ?_
  rotate_left
  · intro wq hSw
    clear hSw
    go_simp
    try with_reducible rfl
  simp only [Act.put, List.setIfInBounds_toArray, List.set_cons_zero, List.set_cons_succ]
  refine takeD 2 22 (v := ?_) rfl (by rfl) (by kernel_rfl) (by kernel_rfl) (by kernel_rfl) (fun _ _ _ h => h) (Or.inl ⟨by rfl, ?_⟩) (by assumption) ?_
  rotate_left
  · intro wq hSw
    clear hSw
    go_simp
    try with_reducible rfl
  simp only [Act.put, List.setIfInBounds_toArray, List.set_cons_zero, List.set_cons_succ]
  refine takeD 3 23 (v := ?_) rfl (by rfl) (by kernel_rfl) (by kernel_rfl) (by kernel_rfl) (fun _ _ _ h => h) (Or.inl ⟨by rfl, ?_⟩) (by assumption) ?_
  rotate_left
  · intro wq hSw
    clear hSw
    go_simp
    try with_reducible rfl
  simp only [Act.put, List.setIfInBounds_toArray, List.set_cons_zero, List.set_cons_succ]
  refine takeD 4 24 (v := ?_) rfl (by rfl) (by kernel_rfl) (by kernel_rfl) (by kernel_rfl) (fun _ _ _ h => h) (Or.inl ⟨by rfl, ?_⟩) (by assumption) ?_
  rotate_left
  · intro wq hSw
    clear hSw
    go_simp
    try with_reducible rfl
  simp only [Act.put, List.setIfInBounds_toArray, List.set_cons_zero, List.set_cons_succ]
  refine takeD 5 25 (v := ?_) rfl (by rfl) (by kernel_rfl) (by kernel_rfl) (by kernel_rfl) (fun _ _ _ h => h) (Or.inl ⟨by rfl, ?_⟩) (by assumption) ?_
  rotate_left
  · intro wq hSw
    clear hSw
    go_simp
    try with_reducible rfl
  simp only [Act.put, List.setIfInBounds_toArray, List.set_cons_zero, List.set_cons_succ]
  refine wpAnyH_ready (rs := [6]) (by kernel_rfl) (by simp) ?_
  refine AllReadyH.cons rfl (fun K hK => ?_) AllReadyH.nil
  rw [if_pos (by rfl)]
  refine wp_append_run 26 (by rfl) _ _ 61 rfl _ _ (by rfl) (by rfl) (HRUN.out _) ?_
  refine hK.out _ _ trivial (fun _ => ?_)
  clear hK
  simp only [Act.put, List.setIfInBounds_toArray, List.set_cons_zero, List.set_cons_succ]
  refine takeD 7 0 (v := ?_) rfl (by rfl) (by kernel_rfl) (by kernel_rfl) (by kernel_rfl) (fun _ _ _ h => h) (Or.inl ⟨by rfl, ?_⟩) (by assumption) ?_
  rotate_left
  · intro wq hSw
    clear hSw
    go_simp
    try with_reducible rfl
  simp only [Act.put, List.setIfInBounds_toArray, List.set_cons_zero]
  refine wpAnyH_done (by kernel_rfl) ?_ _
  have hcl := HCL.out
  go_wp2_with fail
  go_ret
  exact ⟨rfl, HA.out, HK3.out⟩
end Go.Proofs.Ytfbiaclpopjipaa
