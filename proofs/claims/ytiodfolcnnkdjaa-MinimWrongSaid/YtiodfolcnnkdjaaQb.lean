/- minim: reason; DeleteFunc (package slices). -/
import Derived.Test.YtiodfolcnnkdjaaQa
namespace Go.Proofs.Ytiodfolcnnkdjaa
open Go.RowKit

theorem reason_one (q : Nat) (v x : Int) (w : World) (hq : w.cell? ⟨q, 0, none⟩ = some (.int .i64 v)) :
    Calls Try.prog 62 #[.int .i64 x, .pointer (some ⟨q, 0, none⟩)] w fun e w' => e = .returned (.bool (decide ((litV x : Int) = v))) ∧ Below w.heap.size w w' := by
  have HV := Lib.hid (fun w => lit_var x w)
  have HQ := Lib.hid hq
  have hql := World.block_lt_of_cell? w _ hq
  obtain ⟨lv, hlv⟩ : ∃ z : Int, ((litV x : Nat) : Int) = z := ⟨_, rfl⟩
  rw [hlv] at HV ⊢
  clear hlv hq
  obtain ⟨z, hz⟩ : ∃ z, decide (lv = v) = z := ⟨_, rfl⟩
  have hz2 : (lv == v) = z := by rw [← hz]; rfl
  rw [hz]
  clear hz
  go_enter Try.func62, Try.ntmps62
  go_upto_region 1 with fail
  refine wp_region_held_drew (S := fun w' => Below w.heap.size w w') (by kernel_rfl) (mx_drew w) (fun hS => ?_)
  refine takeD 0 4 (v := ?_) rfl (by rfl) (by kernel_rfl) (by kernel_rfl) (by kernel_rfl) (fun _ _ _ h => h) (Or.inl ⟨by rfl, ?_⟩) (by assumption) ?_
  rotate_left
  · intro wq hSw
    clear hSw
    go_simp
    try with_reducible rfl
  simp only [Act.put, List.setIfInBounds_toArray, List.set_cons_zero, List.set_cons_succ]
  refine takeD 2 6 (v := ?_) rfl (by rfl) (by kernel_rfl) (by kernel_rfl) (by kernel_rfl) (fun _ _ _ h => h) (Or.inl ⟨by rfl, ?_⟩) (by assumption) ?_
  rotate_left
  · intro wq hSw
    have k0 := (hSw.cell (p := ⟨q, 0, none⟩) hql).trans HQ.out
    clear hSw
    go_simp
    try with_reducible rfl
  simp only [Act.put, List.setIfInBounds_toArray, List.set_cons_zero, List.set_cons_succ]
  refine wpAnyH_ready (rs := [1]) (by kernel_rfl) (by simp) ?_
  refine AllReadyH.cons rfl (fun K hK => ?_) AllReadyH.nil
  go_simp
  refine (HV.out _).mono ?_
  rintro e w' ⟨rfl, rfl⟩
  refine hK.out _ _ hS (fun _ => ?_)
  clear hK
  refine takeD 3 7 (v := ?_) rfl (by rfl) (by kernel_rfl) (by kernel_rfl) (by kernel_rfl) (fun _ _ _ h => h) (Or.inl ⟨by rfl, ?_⟩) (by assumption) ?_
  rotate_left
  · intro wq hSw
    clear hSw
    go_simp
    try with_reducible rfl
  simp only [Act.put, List.setIfInBounds_toArray, List.set_cons_zero, List.set_cons_succ]
  refine takeD 4 3 (v := ?_) rfl (by rfl) (by kernel_rfl) (by kernel_rfl) (by kernel_rfl) (fun _ _ _ h => h) (Or.inl ⟨by rfl, ?_⟩) (by assumption) ?_
  rotate_left
  · intro wq hSw
    clear hSw
    go_simp
    try with_reducible rfl
  simp only [Act.put, List.setIfInBounds_toArray, List.set_cons_zero, List.set_cons_succ]
  refine wpAnyH_done (by kernel_rfl) ?_ _
  go_wp2_with fail
  go_ret
  exact ⟨rfl, hS⟩
set_option maxRecDepth 100000 in
set_option maxHeartbeats 1000000 in
theorem index_reason {Oc : Nat → Prop} (q : Nat) (v : Int) (u : Value) (xs : List Int) (w : World) (hq : w.cell? ⟨q, 0, none⟩ = some (.int .i64 v)) (h1 : IntsIn Oc w u xs) (hs : xs.length ≤ 4194304) :
    Calls Try.prog 67 #[u, .func (.func 62) #[] #[.pointer (some ⟨q, 0, none⟩)]] w fun e w' => (∃ i : Int, e = .returned (.int .i64 i) ∧ FstAt xs (fun l => decide ((litV l : Int) = v)) i) ∧ Below w.heap.size w w' := by
  have HONE := Lib.hid (fun (W : World) (hb : Below w.heap.size w W) (x : Int) => reason_one q v x W ((hb.cell (p := ⟨q, 0, none⟩) (World.block_lt_of_cell? w _ hq)).trans hq))
  have HX := Lib.hid h1
  obtain ⟨A, c, rfl, hc, _, _⟩ := h1
  go_enter Try.func67, Try.ntmps67
  go_wp2
  go_loopw [8] (fun i wr => ∃ k : Nat, k ≤ xs.length ∧ i = .int .i64 k ∧ Hid (∀ j x, j < k → xs[j]? = some x → ((fun l => decide ((litV l : Int) = v))) x = false) ∧ Hid (Below w.heap.size w wr)) (fun i _ => xs.length - (intOf i).toNat)
  case atStart => exact ⟨0, Nat.zero_le _, rfl, Lib.hid (fun j x hj => by omega), Lib.hid (Below.refl _ _)⟩
  case round =>
    obtain ⟨k, hk, rfl, HE, HW⟩ := hrel
    by_cases hlt : k < xs.length
    · obtain ⟨x, hxk⟩ := getElem_of hlt
      obtain ⟨A', c', hAc, _, _, hxs⟩ := HX.out.below HW.out
      simp only [Value.slice.injEq, true_and] at hAc
      obtain ⟨rfl, rfl⟩ := hAc
      obtain ⟨g, o, rfl, hg, _, d1⟩ := hxs k x hxk
      have HXK := Lib.hid hxk
      have HC := Lib.hid (HONE.out wr HW.out x)
      clear hxk hxs
      obtain ⟨b, hb⟩ : ∃ b, ((fun l => decide ((litV l : Int) = v))) x = b := ⟨_, rfl⟩
      have HB := Lib.hid hb
      simp only [] at hb
      rw [hb] at HC
      clear hb
      cases b with
      | true =>
        go_wp2_with fail
        refine HC.out.mono ?_
        rintro e w' ⟨rfl, hbw⟩
        have HB2 := Lib.hid (HW.out.trans (hbw.mono HW.out.size))
        clear hbw d1
        go_wp2
        go_ret
        exact ⟨⟨_, rfl, .inr ⟨k, rfl, hlt, HE.out, x, HXK.out, HB.out⟩⟩, HB2.out⟩
      | false =>
        go_wp2_with fail
        refine HC.out.mono ?_
        rintro e w' ⟨rfl, hbw⟩
        have HB2 := Lib.hid (HW.out.trans (hbw.mono HW.out.size))
        clear hbw d1
        go_wp2
        go_roundw
        case rel => exact ⟨k + 1, by omega, by go_num, Lib.hid (fun j y hj hy => by
          rcases Nat.lt_or_ge j k with h | h
          · exact HE.out j y h hy
          · obtain rfl : j = k := by omega
            rw [HXK.out] at hy
            obtain rfl := Option.some.inj hy
            exact HB.out), HB2⟩
        case measure => simp [intOf]; omega
    · obtain rfl : k = xs.length := by omega
      go_wp2
      go_ret
      exact ⟨⟨_, rfl, .inl ⟨rfl, fun x hx => by
        obtain ⟨j, hj⟩ := List.getElem?_of_mem hx
        exact HE.out j x (List.getElem?_eq_some_iff.1 hj).1 hj⟩⟩, HW.out⟩
theorem own_setr {w : World} {base size n c g : Nat} {e : TypeId} {xs : List Value} (j : Nat) (h : w.ownsRow base e size (.slice (some ⟨g, 0, none⟩) n c) n xs) (v : Value) :
    (w.setCell ⟨g, j, none⟩ v).ownsRow base e size (.slice (some ⟨g, 0, none⟩) n c) n (xs.set j v) := by
  obtain ⟨h0, h1⟩ := h
  rcases h1 with ⟨h1, _⟩ | ⟨g', cap, cur, hv, hb, hg, hle, hm, hs, hx⟩
  · cases h1
  · cases hv
    refine ⟨by rw [List.length_set, h0], .inr ⟨g, c, _, rfl, hb, mx_set hg _, hle, hm, by simpa using hs, ?_⟩⟩
    rw [Array.toList_setIfInBounds, List.take_set, hx]
theorem own_freer {w : World} {base size n c g : Nat} {e : TypeId} {xs : List Value} (h : w.ownsRow base e size (.slice (some ⟨g, 0, none⟩) n c) n xs) (j : Nat) : w.frozen? ⟨g, j, none⟩ = false := by
  rcases h.2 with ⟨h1, _⟩ | ⟨g', cap, cur, hv, _, hg, _⟩
  · cases h1
  · cases hv
    exact mx_free hg
theorem setCells_keep (b o : Nat) (vs : List Value) (w : World) (base : Nat) (hb : base ≤ b) : (∀ k, k < o → (w.setCells b o vs).cell? ⟨b, k, none⟩ = w.cell? ⟨b, k, none⟩) ∧ Below base w (w.setCells b o vs) := by
  induction vs generalizing o w with
  | nil => exact ⟨fun _ _ => rfl, Below.refl _ _⟩
  | cons v vs ih =>
    obtain ⟨h1, h2⟩ := ih (o + 1) (w.setCell ⟨b, o, none⟩ v)
    refine ⟨fun k hk => ?_, ?_⟩
    · show ((w.setCell ⟨b, o, none⟩ v).setCells b (o + 1) vs).cell? _ = _
      rw [h1 k (by omega)]
      have hne : (⟨b, o, none⟩ : Addr) ≠ ⟨b, k, none⟩ := fun e => by
        have h3 : o = k := congrArg Addr.off e
        omega
      rw [World.cell?_setCell_other (h := hne)]
    · exact ((Below.refl base w).setCell (p := ⟨b, o, none⟩) hb v).trans h2
theorem lit_zero (w : World) : (zeroValue 26).run Try.prog w = .ok (.int .i64 0) w := by kernel_rfl
/-- what is left of the first k -/
def keepP (v : Int) (c : List Int) (k : Nat) : List Int := rest15 v (c.take k)
theorem keepP_len (v : Int) (c : List Int) (k : Nat) : (keepP v c k).length ≤ k := by
  unfold keepP rest15
  exact Nat.le_trans (List.length_filter_le _ _) (by rw [List.length_take]; omega)
theorem keepP_succ (v : Int) (c : List Int) (k : Nat) (x : Int) (hx : c[k]? = some x) : keepP v c (k + 1) = if (litV x : Int) = v then keepP v c k else keepP v c k ++ [x] := by
  unfold keepP rest15
  rw [List.take_add_one, hx]
  show (c.take k ++ [x]).filter _ = _
  rw [List.filter_append]
  split
  · rename_i h
    rw [List.filter_cons_of_neg (by simpa using h)]
    simp
  · rename_i h
    rw [List.filter_cons_of_pos (by simpa using h)]
    simp
theorem keepP_all (v : Int) (c : List Int) : keepP v c c.length = rest15 v c := by unfold keepP; rw [List.take_length]
theorem keepP_fst (v : Int) (c : List Int) (k : Nat) (h : ∀ j x, j < k → c[j]? = some x → decide ((litV x : Int) = v) = false) : keepP v c k = c.take k := by
  unfold keepP rest15
  refine List.filter_eq_self.2 (fun x hx => ?_)
  obtain ⟨j, hj, e⟩ := List.getElem_of_mem hx
  rw [List.length_take] at hj
  rw [List.getElem_take] at e
  have := h j x (by omega) (by rw [List.getElem?_eq_getElem (by omega), e])
  simpa using this
set_option maxRecDepth 100000 in
set_option maxHeartbeats 4000000 in
theorem delete_reason (q base : Nat) (v : Int) (u : Value) (c : List Int) (w : World) (h : w.ownsRow base 26 1 u c.length (c.map (Value.int .i64))) (hq : w.cell? ⟨q, 0, none⟩ = some (.int .i64 v)) (hqb : q < base) (hbz : base ≤ w.heap.size) (hs : c.length ≤ 4194304) :
    Calls Try.prog 61 #[u, .func (.func 62) #[] #[.pointer (some ⟨q, 0, none⟩)]] w fun e w' => (∃ u', e = .returned u' ∧ IntsIn (fun g => base ≤ g) w' u' (rest15 v c)) ∧ Below base w w' := by
  have HQ := Lib.hid hq
  have hql := World.block_lt_of_cell? w _ hq
  have HIX := Lib.hid (index_reason q v u c w hq (IntsIn.of_own h) hs)
  have HOW := Lib.hid h
  obtain ⟨Au, cu, rfl, hcu⟩ := mx_slice h
  clear h hq
  go_enter Try.func61, Try.ntmps61
  go_wp2_with fail
  refine HIX.out.mono ?_
  rintro e w1 ⟨⟨i, rfl, hi⟩, hb⟩
  have HB1 := Lib.hid hb
  have HO1 := Lib.hid (own_below HOW.out hb)
  clear hb HIX
  rcases hi with ⟨rfl, hno⟩ | ⟨i0, rfl, hil, hfst, x0, hx0, hp0⟩
  · have HR := Lib.hid (show rest15 v c = c from by
      unfold rest15
      exact List.filter_eq_self.2 (fun x hx => by have := hno x hx; simpa using this))
    clear hno
    go_wp2_with fail
    go_ret
    exact ⟨⟨_, rfl, by rw [HR.out]; exact (IntsIn.of_own HO1.out).mono (fun g hg => hg.1)⟩, HB1.out.mono hbz⟩
  · obtain ⟨gu, cu', csu, hsl, _, hgb, hgl, _, _⟩ := mx_some HO1.out (by omega)
    simp only [Value.slice.injEq, true_and] at hsl
    obtain ⟨rfl, rfl⟩ := hsl
    have HK0 := Lib.hid (keepP_fst v c i0 hfst)
    have HK1 := Lib.hid (show keepP v c (i0 + 1) = keepP v c i0 from by rw [keepP_succ v c i0 x0 hx0, if_pos (by simpa using hp0)])
    have hkl : (keepP v c i0).length = i0 := by rw [HK0.out, List.length_take]; omega
    have HKL := Lib.hid hkl
    have q1 : ((i0 : Int) == -1) = false := by simp
    have w1' : IntKind.i64.wrap ((i0 : Int) + 1) = (i0 : Int) + 1 := IntWalk.i64_in _ (by omega)
    clear hfst hx0 hp0 hkl
    go_wp2_with fail
    go_loopw [5, 6, 7] (fun iv jv _ wr => ∃ (i j : Nat) (ys : List Int), i + 1 ≤ j ∧ j ≤ c.length ∧ iv = .int .i64 i ∧ jv = .int .i64 j ∧ Hid ((keepP v c j).length = i) ∧ Hid (ys.length = c.length) ∧ Hid (ys.take i = keepP v c j) ∧ Hid (∀ k, j ≤ k → ys[k]? = c[k]?) ∧ Hid (wr.ownsRow base 26 1 (.slice (some ⟨gu, 0, none⟩) c.length cu) c.length (ys.map (Value.int .i64))) ∧ Hid (Below base w wr)) (fun _ jv _ _ => c.length - (intOf jv).toNat)
    case atStart => exact ⟨i0, i0 + 1, c, Nat.le_refl _, hil, rfl, by go_num, Lib.hid (by rw [HK1.out]; exact HKL.out), Lib.hid rfl, Lib.hid (by rw [HK1.out, HK0.out]), Lib.hid (fun _ _ => rfl), HO1, Lib.hid (HB1.out.mono hbz)⟩
    case round =>
      obtain ⟨i, j, ys, hij, hjc, rfl, rfl, HIL, HYL, HYT, HYR, HO, HB⟩ := hrel
      by_cases hlt : j < c.length
      · obtain ⟨x, hx⟩ := getElem_of hlt
        have d0 : wr.cell? ⟨gu, j, none⟩ = some (.int .i64 x) := mx_at HO.out (by rw [List.getElem?_map, HYR.out j (Nat.le_refl _), hx]; rfl)
        have hqw : wr.cell? ⟨q, 0, none⟩ = some (.int .i64 v) := (HB.out.cell (p := ⟨q, 0, none⟩) hqb).trans HQ.out
        have HR := Lib.hid (reason_one q v x wr hqw)
        have HKS := Lib.hid (keepP_succ v c j x hx)
        have w2' : IntKind.i64.wrap ((j : Int) + 1) = (j : Int) + 1 := IntWalk.i64_in _ (by omega)
        have w3' : IntKind.i64.wrap ((i : Int) + 1) = (i : Int) + 1 := IntWalk.i64_in _ (by omega)
        have hjcu : j < cu := by omega
        have HX := Lib.hid hx
        clear hx hqw
        by_cases hv : (litV x : Int) = v
        · have HV := Lib.hid hv
          rw [decide_eq_true hv] at HR
          clear hv
          go_wp2_with fail
          refine HR.out.mono ?_
          rintro e w2 ⟨rfl, hb⟩
          have HB2 := Lib.hid (HB.out.trans (hb.mono (Nat.le_trans hbz HB.out.size)))
          have HO2 := Lib.hid (own_below HO.out hb)
          clear hb d0
          go_wp2_with fail
          go_roundw
          case rel => exact ⟨i, j + 1, ys, by omega, by omega, rfl, by go_num, Lib.hid (by rw [HKS.out, if_pos HV.out]; exact HIL.out), HYL, Lib.hid (by rw [HKS.out, if_pos HV.out]; exact HYT.out), Lib.hid (fun k hk => HYR.out k (by omega)), HO2, HB2⟩
          case measure => simp [intOf]; omega
        · have HV := Lib.hid hv
          rw [decide_eq_false hv] at HR
          clear hv
          go_wp2_with fail
          refine HR.out.mono ?_
          rintro e w2 ⟨rfl, hb⟩
          have HB2 := Lib.hid (HB.out.trans (hb.mono (Nat.le_trans hbz HB.out.size)))
          have HO2 := Lib.hid (own_below HO.out hb)
          clear hb d0
          obtain ⟨y, hy⟩ : ∃ y, (ys.map (Value.int .i64))[i]? = some y := getElem_of (by rw [List.length_map, HYL.out]; omega)
          have p0 := mx_at HO2.out hy
          obtain ⟨_, _, csw, hsl2, _, _, _, hblk, _⟩ := mx_some HO2.out (by omega)
          simp only [Value.slice.injEq, true_and, Option.some.injEq, Addr.mk.injEq, and_true] at hsl2
          have fr := mx_free (j := i) (by rw [hsl2.1]; exact hblk : w2.heap[gu]? = _)
          have hicu : i < cu := by omega
          clear hy hblk hsl2
          have HO3 := Lib.hid (show (w2.setCell ⟨gu, i, none⟩ (.int .i64 x)).ownsRow base 26 1 (.slice (some ⟨gu, 0, none⟩) c.length cu) c.length ((ys.set i x).map (Value.int .i64)) from by
            rw [List.map_set]
            exact own_setr i HO2.out (.int .i64 x))
          have HB3 := Lib.hid (HB2.out.setCell (p := ⟨gu, i, none⟩) hgb (.int .i64 x))
          go_wp2_with fail
          go_roundw
          case rel => exact ⟨i + 1, j + 1, ys.set i x, by omega, by omega, by go_num, by go_num, Lib.hid (by rw [HKS.out, if_neg HV.out, List.length_append, HIL.out]; rfl), Lib.hid (by rw [List.length_set]; exact HYL.out), Lib.hid (by
            rw [HKS.out, if_neg HV.out, ← HYT.out, List.take_add_one, List.getElem?_set_self (by rw [HYL.out]; omega), List.take_set_of_le (Nat.le_refl _)]
            rfl), Lib.hid (fun k hk => by rw [List.getElem?_set_ne (by omega)]; exact HYR.out k (by omega)), HO3, HB3⟩
          case measure => simp [intOf]; omega
      · obtain rfl : j = c.length := by omega
        have hic : i < cu := by omega
        have hicl : i < c.length := by omega
        obtain ⟨m, hm⟩ : ∃ m, c.length - i = m := ⟨_, rfl⟩
        have hm0 : 0 < m := by omega
        have HOF := Lib.hid (fun k (hk : k < c.length) => (by
          obtain ⟨y, hy⟩ : ∃ y, (ys.map (Value.int .i64))[k]? = some y := getElem_of (by rw [List.length_map, HYL.out]; omega)
          rw [mx_at HO.out hy]
          rfl : (wr.cell? ⟨gu, k, none⟩).isSome = true))
        have hcl := fun ty cc => Lib.run_clear_slice (P := Try.prog) wr 28 26 ty (.int .i64 0) Try.underlying28 lit_zero rfl rfl gu i m cc hm0 (fun k hk => HOF.out (i + k) (by omega)) (fun k _ => own_freer HO.out (i + k))
        obtain ⟨wz, hwz⟩ : ∃ x, wr.setCells gu i (List.replicate m (.int .i64 0)) = x := ⟨_, rfl⟩
        rw [hwz] at hcl
        have HKZ := Lib.hid (show (∀ k, k < i → wz.cell? ⟨gu, k, none⟩ = wr.cell? ⟨gu, k, none⟩) ∧ Below base wr wz from by rw [← hwz]; exact setCells_keep gu i _ wr base hgb)
        have HFIN := Lib.hid (show IntsIn (fun g => base ≤ g) wz (.slice (some ⟨gu, 0, none⟩) i cu) (rest15 v c) from by
          have hl : (rest15 v c).length = i := by rw [← keepP_all, HIL.out]
          refine ⟨some ⟨gu, 0, none⟩, cu, by rw [hl], by rw [hl]; omega, (fun h => by cases h), fun k x hk => ⟨gu, 0, rfl, ?_, hgb, ?_⟩⟩
          · exact Nat.lt_of_lt_of_le (own_lt HO.out gu rfl).2 HKZ.out.2.size
          · have hki : k < i := by rw [← hl]; exact (List.getElem?_eq_some_iff.1 hk).1
            rw [Nat.zero_add, HKZ.out.1 k hki]
            refine mx_at HO.out ?_
            rw [List.getElem?_map]
            have := HYT.out
            rw [keepP_all] at this
            rw [← this, List.getElem?_take_of_lt hki] at hk
            rw [hk]
            rfl)
        have HBZ := Lib.hid (HB.out.trans HKZ.out.2)
        clear hwz
        go_wp2_with fail
        go_ret
        exact ⟨⟨_, rfl, HFIN.out⟩, HBZ.out⟩
end Go.Proofs.Ytiodfolcnnkdjaa
