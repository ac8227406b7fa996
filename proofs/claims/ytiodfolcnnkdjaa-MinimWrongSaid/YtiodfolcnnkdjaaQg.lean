/- minim: met; what it hands out. -/
import Derived.Test.YtiodfolcnnkdjaaQf
namespace Go.Proofs.Ytiodfolcnnkdjaa
open Go.RowKit Go.Shelf Go.Maps

theorem op_put {w : World} {o : Oper} {a : Act} {K : Act → World → Prop} {Q : Exit → Act → World → Prop} {b n : Nat} {f : Int → Int} (hown : MapAt w b n f)
    (m x v : Operand) (hop : o.op = Op.mapUpdate 62 m x v) (hm : a.eval m = .map (some b)) (hn : n < maxLen) (i y : Int) (hx : a.eval x = .int .i64 i) (hv : a.eval v = .int .i64 y)
    (hi : (Lit.int .i64 i).wf = true) (hy : (Lit.int .i64 y).wf = true)
    (hK : ∀ w', MapAt w' b (n + 1) (fun z => if z = i then y else f z) → w.grownBy w' (some b) → K (a.put o.dst undef) w') : Oper.wp Try.prog o a w K Q := by
  obtain ⟨D, ho, hmap, hf⟩ := hown
  obtain ⟨w', hrun, r1, r2⟩ := ho.update int_law Try.underlying62 hn (keyOf_int_mk Try.underlying3 hi) (plainElem_int Try.underlying3 hy)
  unfold Oper.wp
  simp [execOp, hop, hm, hx, hv, hrun, Result.andThen]
  exact hK w' (MapAt.put hmap hf r1) r2
def varsI (xs : List Int) : List Int := xs.map (fun x => ((litV x : Nat) : Int))
set_option maxRecDepth 100000 in
set_option maxHeartbeats 2000000 in
theorem more_run {Oc : Nat → Prop} (Bb mb k : Nat) (ms : List Int) (u : Value) (xs : List Int) (w : World) (hB : w.cell? ⟨Bb, 0, none⟩ = some (.map (some mb))) (hm : MapAt w mb k (metF ms)) (hx : IntsIn Oc w u xs) (hno : ¬ Oc mb) (hbm : Bb ≠ mb) (hk : k + xs.length ≤ 140737488355328) :
    Calls Try.prog 66 #[u, .pointer (some ⟨Bb, 0, none⟩)] w fun e w' => (∃ v, e = .returned v) ∧ MapAt w' mb (k + xs.length) (metF (ms ++ varsI xs)) ∧ Kept (fun g => g = mb) w w' := by
  have HX := Lib.hid hx
  have HNO := Lib.hid hno
  have HB0 := Lib.hid hB
  have HM0 := Lib.hid hm
  have hBb := World.block_lt_of_cell? w _ hB
  obtain ⟨A, c, rfl, hc, _, _⟩ := hx
  clear hB hm
  go_enter Try.func66, Try.ntmps66
  go_wp2_with fail
  go_loopw [7] (fun iv wr => ∃ (j : Nat), j ≤ xs.length ∧ iv = .int .i64 j ∧ Hid (MapAt wr mb (k + j) (metF (ms ++ varsI (xs.take j)))) ∧ Hid (Kept (fun g => g = mb) w wr)) (fun iv _ => xs.length - (intOf iv).toNat)
  case atStart => exact ⟨0, Nat.zero_le _, rfl, Lib.hid (by simpa [varsI] using HM0.out), Lib.hid (Kept.refl _ _)⟩
  case round =>
    obtain ⟨j, hj, rfl, HM, HW⟩ := hrel
    by_cases hlt : j < xs.length
    · obtain ⟨x, hxj⟩ := getElem_of hlt
      obtain ⟨A', c', hAc, _, _, hxs⟩ := HX.out
      simp only [Value.slice.injEq, true_and] at hAc
      obtain ⟨rfl, rfl⟩ := hAc
      obtain ⟨g, o, rfl, hg, hgo, e0⟩ := hxs j x hxj
      have hgm : g ≠ mb := fun e => HNO.out (e ▸ hgo)
      have d0 : wr.cell? ⟨g, o + j, none⟩ = some (.int .i64 x) := (HW.out.cell (p := ⟨g, o + j, none⟩) hg hgm).trans e0
      have E1 := Lib.hid (show wr.cell? ⟨Bb, 0, none⟩ = some (.map (some mb)) from (HW.out.cell (p := ⟨Bb, 0, none⟩) hBb hbm).trans HB0.out)
      have HV := Lib.hid (fun W => lit_var x W)
      have HTK := Lib.hid (show varsI (xs.take (j + 1)) = varsI (xs.take j) ++ [((litV x : Nat) : Int)] from by
        unfold varsI
        rw [List.take_add_one, hxj]
        simp)
      have HWX := Lib.hid (show (Lit.int .i64 ((litV x : Nat) : Int)).wf = true from by
        have := litV_le x
        exact wf64 (by omega) (by omega))
      clear hxj hxs hgo e0
      go_upto_region 3 with fail
      refine wp_region_sink_at (S := fun w' => w' = wr.drew) (by kernel_rfl) rfl (by kernel_rfl) rfl (fun hS => ?_)
      obtain ⟨wD, hwD⟩ : ∃ q, wr.drew = q := ⟨_, rfl⟩
      have hD : Below wr.heap.size wr wD := by rw [← hwD]; exact mx_drew wr
      rw [hwD] at hS ⊢
      have E2 := Lib.hid ((hD.cell (p := ⟨Bb, 0, none⟩) (World.block_lt_of_cell? wr _ E1.out)).trans E1.out)
      have HMD := Lib.hid (HM.out.below hD)
      have HKD := Lib.hid (HW.out.trans (O := fun g => g = mb) (Kept.of_below hD) (fun _ _ h => h))
      clear hwD hD d0
      refine takeD 0 11 (v := ?_) rfl (by rfl) (by kernel_rfl) (by kernel_rfl) (by kernel_rfl) (fun _ _ _ h => h) (Or.inl ⟨by rfl, ?_⟩) (by assumption) ?_
      rotate_left
      · intro wq hSw
        have k0 : wq.cell? ⟨Bb, 0, none⟩ = some (.map (some mb)) := by rw [hSw]; exact E2.out
        clear hSw
        go_simp
        try with_reducible rfl
      simp only [Act.put, List.setIfInBounds_toArray, List.set_cons_zero, List.set_cons_succ]
      refine takeD 1 12 (v := ?_) rfl (by rfl) (by kernel_rfl) (by kernel_rfl) (by kernel_rfl) (fun _ _ _ h => h) (Or.inl ⟨by rfl, ?_⟩) (by assumption) ?_
      rotate_left
      · intro wq hSw
        clear hSw
        go_simp
        try with_reducible rfl
      simp only [Act.put, List.setIfInBounds_toArray, List.set_cons_zero, List.set_cons_succ]
      refine wpAnyH_ready (rs := [2]) (by kernel_rfl) (by simp) ?_
      refine AllReadyH.cons rfl (fun K hK => ?_) AllReadyH.nil
      go_simp
      refine (HV.out wD).mono ?_
      rintro e w' ⟨rfl, rfl⟩
      refine hK.out _ _ hS (fun _ => ?_)
      clear hK
      refine wpAnyH_done (by kernel_rfl) ?_ _
      refine lastPost_normal ?_
      refine wpOp_step rfl (fun K hK => ?_)
      rw [if_pos (by rfl)]
      refine op_put HMD.out _ _ _ rfl rfl (by unfold maxLen; omega) (litV x : Nat) 1 rfl rfl HWX.out rfl (fun w4 hm4 hg4 => hK _ _ ?_)
      have HM4 := Lib.hid (show MapAt w4 mb (k + (j + 1)) (metF (ms ++ varsI (xs.take (j + 1)))) from by
        rw [HTK.out, ← List.append_assoc, ← metF_put]
        exact hm4)
      have HK4 := Lib.hid (HKD.out.trans (O := fun g => g = mb) (Kept.grown hg4) (fun i _ e => Option.some.inj e))
      clear hK hm4 hg4 hS
      go_wp2_with fail
      go_roundw
      case rel => exact ⟨j + 1, by omega, by go_num, HM4, HK4⟩
      case measure => simp [intOf]; omega
    · obtain rfl : j = xs.length := by omega
      have HMF := Lib.hid (show MapAt wr mb (k + xs.length) (metF (ms ++ varsI xs)) from by simpa [List.take_length] using HM.out)
      go_wp2_with fail
      go_end0
      exact ⟨⟨_, rfl⟩, HMF.out, HW.out⟩
end Go.Proofs.Ytiodfolcnnkdjaa
