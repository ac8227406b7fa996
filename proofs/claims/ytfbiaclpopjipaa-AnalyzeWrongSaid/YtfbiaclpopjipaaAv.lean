/- The arena: Delete, where nothing is moved. -/
import Derived.Test.YtfbiaclpopjipaaAu
import Derived.Test.YtfbiaclpopjipaaTc
namespace Go.Proofs.Ytfbiaclpopjipaa
open Go.RowKit Go.Shelf Go.Maps

/-- a place of a row, written -/
theorem own_setc {w : World} {base size n c g j : Nat} {e : TypeId} {xs : List Value} (h : w.ownsRow base e size (.slice (some ⟨g, 0, none⟩) n c) n xs) (v : Value) :
    (w.setCell ⟨g, j, none⟩ v).ownsRow base e size (.slice (some ⟨g, 0, none⟩) n c) n (xs.set j v) := by
  obtain ⟨h0, h1⟩ := h
  rcases h1 with ⟨h1, _⟩ | ⟨g', cap, cur, hv, hb, hg, hle, hm, hs, hx⟩
  · cases h1
  · cases hv
    refine ⟨by rw [List.length_set, h0], .inr ⟨g, c, _, rfl, hb, mx_set hg _, hle, hm, by simpa using hs, ?_⟩⟩
    rw [Array.toList_setIfInBounds, List.take_set, hx]
/-- one entry's mark, written -/
theorem ent_set (l : List Ent) (p : Nat) (x : Ent) (hx : l[p]? = some x) : (l.flatMap Ent.cells).set (p * 4 + 3) (.bool true) = (l.set p ⟨x.fr, x.upto, x.id, true⟩).flatMap Ent.cells := by
  induction l generalizing p with
  | nil => cases hx
  | cons y l ih =>
    cases p with
    | zero =>
      obtain rfl : y = x := by simpa using hx
      rfl
    | succ p =>
      have := ih p (by simpa using hx)
      simp only [List.flatMap_cons, List.set_cons_succ]
      rw [← this, List.set_append_right _ _ (by simp only [Ent.cells, List.length_cons, List.length_nil]; omega)]
      congr 2
      simp only [Ent.cells, List.length_cons, List.length_nil]
      omega
theorem ent_set_len (l : List Ent) (p : Nat) (x : Ent) : (l.set p x).length = l.length := List.length_set
theorem Arn.Ok.del {A : Arn} (h : A.Ok) {p : Nat} {x : Ent} (hx : A.all[p]? = some x) : (A.del p x).Ok := by
  have hm : ∀ e ∈ A.all.set p ⟨x.fr, x.upto, x.id, true⟩, ∃ y ∈ A.all, e.fr = y.fr ∧ e.upto = y.upto ∧ e.id = y.id := fun e he => by
    rcases List.mem_or_eq_of_mem_set he with h1 | h1
    · exact ⟨e, h1, rfl, rfl, rfl⟩
    · subst h1
      exact ⟨x, List.mem_of_getElem? hx, rfl, rfl, rfl⟩
  have hids : (A.all.set p ⟨x.fr, x.upto, x.id, true⟩).map Ent.id = A.all.map Ent.id := by
    rw [List.map_set]
    apply List.ext_getElem?
    intro i
    rw [List.getElem?_set]
    split
    · rename_i e
      subst e
      have hp := (List.getElem?_eq_some_iff.1 hx).1
      rw [if_pos (by simpa using hp), List.getElem?_map, hx]
      rfl
    · rfl
  refine ⟨?_, fun e he => ?_, ⟨?_, h.lens.2⟩, ⟨Nat.le_trans (Nat.sub_le _ _) h.nums.1, Nat.le_trans (Nat.sub_le _ _) h.nums.2.1, h.nums.2.2⟩, fun e he => ?_⟩
  · have h1 : (A.all.map Ent.id).Pairwise (· < ·) := List.pairwise_map.2 h.sorted
    rw [← hids] at h1
    exact List.pairwise_map.1 h1
  · obtain ⟨y, hy, e1, e2, e3⟩ := hm e he
    have := h.each y hy
    rw [e1, e2, e3]
    exact this
  · show (A.all.set p _).length ≤ _
    rw [List.length_set]
    exact h.lens.1
  · obtain ⟨y, hy, _, _, e3⟩ := hm e he
    rw [e3]
    exact h.last y hy
theorem sp_len (f u : Nat) (w : World) (hfu : f ≤ u) (hu : u ≤ 4194304) :
    Calls Try.prog 50 #[.agg #[.int .i64 (f : Nat), .int .i64 (u : Nat)]] w fun e w' => e = .returned (.int .i64 ((u : Int) - (f : Int))) ∧ Below w.heap.size w w' := by
  have hw := wf64 (x := (u : Int) - (f : Int)) (by omega) (by omega)
  go_enter Try.func50, Try.ntmps50
  go_wp2_with fail
  have hb := mx_al w (.cells #[.int .i64 (f : Nat), .int .i64 (u : Nat)] 106)
  have e0 := cell_new w #[.int .i64 (f : Nat), .int .i64 (u : Nat)] 106 0
  have e1 := cell_new w #[.int .i64 (f : Nat), .int .i64 (u : Nat)] 106 1
  obtain ⟨wa, hwa⟩ : ∃ x, w.alloc (.cells #[.int .i64 (f : Nat), .int .i64 (u : Nat)] 106) = x := ⟨_, rfl⟩
  rw [hwa] at hb e0 e1 ⊢
  clear hwa
  go_wp2_with fail
  go_ret
  exact ⟨rfl, hb⟩
set_option maxRecDepth 100000 in
set_option maxHeartbeats 8000000 in
theorem ar_delete {O : Nat → Prop} (b : Nat) (A : Arn) (id : Int) (p : Nat) (x : Ent) (w : World) (h : ArAt O w b A) (hf : A.find id = some p) (hx : A.all[p]? = some x) (hu : x.upto - x.fr ≤ A.used) (hc : 1 ≤ A.count) (hs : A.store.length ≤ 2 * (A.used - (x.upto - x.fr)) + 64) (hl : A.all.length ≤ 2 * (A.count - 1) + 64) :
    Calls Try.prog 24 #[.pointer (some ⟨b, 0, none⟩), .int .i64 id] w fun e w' => e = .returned (.int .i64 0) ∧ ArNext O w w' b (A.del p x) := by
  have HIS := Lib.hid (ar_is b A w h)
  have hfi := ar_find b A id w h
  rw [hf, show findInt (some p) = (p : Int) from rfl] at hfi
  have HFI := Lib.hid hfi
  obtain ⟨hk, stv, alv, h⟩ := h
  have HM := Lib.hid h
  have hbw := heap_lt h.block
  have hln := hk.lens
  have hnum := hk.nums
  have hpl := (List.getElem?_eq_some_iff.1 hx).1
  have heach := hk.each x (List.mem_of_getElem? hx)
  have hsp1 := heach.2.2.1
  have hsp2 : x.upto ≤ 4194304 := by omega
  have HK0 := Lib.hid hk
  have HX := Lib.hid hx
  obtain ⟨ga, ca, cs0, hva, _, _, hga, hgb⟩ := mx_some HM.out.all (by omega)
  obtain ⟨cl, rfl⟩ : ∃ cl, alv = .slice (some ⟨ga, 0, none⟩) A.all.length cl := ⟨_, hva⟩
  have hgab : ga ≠ b := fun e => by
    subst e
    have := HM.out.block.symm.trans hgb.1
    simp at this
  have q0 : decide ((p : Int) < 0) = false := by simp
  have hplt : (p : Int) < (A.all.length : Int) := by omega
  have w9 : IntKind.i64.wrap ((A.used : Int) - ((x.upto : Int) - (x.fr : Int))) = (A.used : Int) - ((x.upto : Int) - (x.fr : Int)) := IntWalk.i64_in _ (by omega)
  have w14 : IntKind.i64.wrap ((A.count : Int) - 1) = (A.count : Int) - 1 := IntWalk.i64_in _ (by omega)
  obtain ⟨As, cst, rfl, _⟩ := mx_slice HM.out.store
  clear h hk hf hx heach hva hgb cs0 hfi
  go_enter Try.func24, Try.ntmps24
  go_wp2_with fail
  refine HIS.out.mono ?_
  rintro e w' ⟨rfl, rfl⟩
  go_wp2_with fail
  refine HFI.out.mono ?_
  rintro e w1 ⟨rfl, hb1⟩
  have HM1 := Lib.hid (HM.out.kept (Kept.of_below (O := fun _ => False) hb1) (fun g _ e => e))
  have HB1 := Lib.hid hb1
  clear hb1
  obtain ⟨e0, e1, e2, e3⟩ := ent_row HM1.out.all HX.out
  have c1 : w1.cell? ⟨b, 1, none⟩ = some (.slice (some ⟨ga, 0, none⟩) A.all.length cl) := mx_cell (j := 1) HM1.out.block
  obtain ⟨ct, hct⟩ := own_type HM1.out.all ga rfl
  have f3 := mx_free (j := p * 4 + 3) hct
  go_wp2_with fail
  have hm2 := own_setc HM1.out.all (.bool true) (j := p * 4 + 3)
  rw [ent_set A.all p x HX.out] at hm2
  have hk2 : Kept (fun g => g = ga) w1 (w1.setCell ⟨ga, p * 4 + 3, none⟩ (.bool true)) := (Kept.refl _ _).setCell _ _ rfl
  have hb2 : (w1.setCell ⟨ga, p * 4 + 3, none⟩ (.bool true)).heap[b]? = some (.cells #[.slice As A.store.length cst, .slice (some ⟨ga, 0, none⟩) A.all.length cl, .int .i64 (A.used : Nat), .int .i64 (A.count : Nat), .int .i64 A.last, .bool true] 104 (0, 0)) := (hk2.block b (heap_lt HM1.out.block) (fun e => hgab e.symm)).trans HM1.out.block
  obtain ⟨e0, e1, _, _⟩ := ent_row hm2 (List.getElem?_set_self hpl)
  obtain ⟨w2, hw2⟩ : ∃ y, w1.setCell ⟨ga, p * 4 + 3, none⟩ (.bool true) = y := ⟨_, rfl⟩
  rw [hw2] at hm2 hk2 hb2 e0 e1 ⊢
  have HM2 := Lib.hid hm2
  have HK2 := Lib.hid hk2
  have HB2 := Lib.hid hb2
  have hz2 := hk2.size
  have hga1 : ga < w1.heap.size := by have := HB1.out.size; omega
  have E0 := Lib.hid e0
  have E1 := Lib.hid e1
  have hnb : b < w2.heap.size := heap_lt hb2
  have hun : (Value.int .i64 ((A.used - (x.upto - x.fr) : Nat) : Int)) = .int .i64 ((A.used : Int) - ((x.upto : Int) - (x.fr : Int))) ∧ (Value.int .i64 ((A.count - 1 : Nat) : Int)) = .int .i64 ((A.count : Int) - 1) := by
    constructor
    · congr 1; omega
    · congr 1; omega
  have HUN := Lib.hid hun
  have hga2 : ga < w2.heap.size := by omega
  have HSK := Lib.hid (show ∀ (w' : World) (u n : Value), Kept (fun g => g = b) w2 w' → w'.heap[b]? = some (.cells #[.slice As A.store.length cst, .slice (some ⟨ga, 0, none⟩) A.all.length cl, u, n, .int .i64 A.last, .bool true] 104 (0, 0)) → w'.cell? ⟨b, 1, none⟩ = some (.slice (some ⟨ga, 0, none⟩) A.all.length cl) ∧ w'.cell? ⟨ga, p * 4, none⟩ = some (.int .i64 (x.fr : Nat)) ∧ w'.cell? ⟨ga, p * 4 + 1, none⟩ = some (.int .i64 (x.upto : Nat)) from fun w' u n hk hb => ⟨mx_cell (j := 1) hb, (hk.cell (p := ⟨ga, p * 4, none⟩) hga2 hgab).trans e0, (hk.cell (p := ⟨ga, p * 4 + 1, none⟩) hga2 hgab).trans e1⟩)
  clear hw2 hk2 hb2 hm2 e2 e3 c1 f3 hct ct HFI hun e0 e1
  go_cut [21] (fun _ wx => ∃ (U N : Nat), Hid (wx.heap[b]? = some (.cells #[.slice As A.store.length cst, .slice (some ⟨ga, 0, none⟩) A.all.length cl, .int .i64 (U : Nat), .int .i64 (N : Nat), .int .i64 A.last, .bool true] 104 (0, 0))) ∧ Hid (U = A.used - (x.upto - x.fr)) ∧ Hid (N = A.count - 1) ∧ Hid (Kept (fun g => g = b) w2 wx))
  case first =>
    refine wp_region_held_drew (S := fun w' => w'.cell? ⟨b, 1, none⟩ = some (.slice (some ⟨ga, 0, none⟩) A.all.length cl) ∧ w'.cell? ⟨ga, p * 4, none⟩ = some (.int .i64 (x.fr : Nat)) ∧ w'.cell? ⟨ga, p * 4 + 1, none⟩ = some (.int .i64 (x.upto : Nat))) (by kernel_rfl) ⟨mx_cell (j := 1) HB2.out, E0.out, E1.out⟩ (fun hS => ?_)
    have hbD := mx_drew w2
    obtain ⟨wD, hwD⟩ : ∃ y, w2.drew = y := ⟨_, rfl⟩
    rw [hwD] at hS hbD ⊢
    have HKD := Lib.hid (Kept.of_below (O := fun g => g = b) hbD)
    have HBD := Lib.hid ((hbD.block b hnb).trans HB2.out)
    have c2 : wD.cell? ⟨b, 2, none⟩ = some (.int .i64 (A.used : Nat)) := mx_cell (j := 2) HBD.out
    have c3 : wD.cell? ⟨b, 3, none⟩ = some (.int .i64 (A.count : Nat)) := mx_cell (j := 3) HBD.out
    clear hwD hbD
    refine takeD 0 21 (v := ?_) rfl (by rfl) (by kernel_rfl) (by kernel_rfl) (by kernel_rfl) (fun _ _ _ h => h) (Or.inl ⟨by rfl, ?_⟩) (by assumption) ?_
    rotate_left
    · intro wq hSw
      clear hSw
      go_simp
      try with_reducible rfl
    simp only [Act.put, List.setIfInBounds_toArray, List.set_cons_zero, List.set_cons_succ]
    refine takeD 1 22 (v := ?_) rfl (by rfl) (by kernel_rfl) (by kernel_rfl) (by kernel_rfl) (fun _ _ _ h => h) (Or.inl ⟨by rfl, ?_⟩) (by assumption) ?_
    rotate_left
    · intro wq hSw
      clear hSw
      go_simp
      try with_reducible rfl
    simp only [Act.put, List.setIfInBounds_toArray, List.set_cons_zero, List.set_cons_succ]
    refine takeD 2 23 (v := ?_) rfl (by rfl) (by kernel_rfl) (by kernel_rfl) (by kernel_rfl) (fun _ _ _ h => h) (Or.inl ⟨by rfl, ?_⟩) (by assumption) ?_
    rotate_left
    · intro wq hSw
      clear hSw
      go_simp
      try with_reducible rfl
    simp only [Act.put, List.setIfInBounds_toArray, List.set_cons_zero, List.set_cons_succ]
    refine takeD 3 24 (v := ?_) rfl (by rfl) (by kernel_rfl) (by kernel_rfl) (by kernel_rfl) (fun _ _ _ h => h) (Or.inl ⟨by rfl, ?_⟩) (by assumption) ?_
    rotate_left
    · intro wq hSw
      clear hSw
      go_simp
      try with_reducible rfl
    simp only [Act.put, List.setIfInBounds_toArray, List.set_cons_zero, List.set_cons_succ]
    refine takeD 4 25 (v := ?_) rfl (by rfl) (by kernel_rfl) (by kernel_rfl) (by kernel_rfl) (fun _ _ _ h => h) (Or.inl ⟨by rfl, ?_⟩) (by assumption) ?_
    rotate_left
    · intro wq hSw
      clear hSw
      go_simp
      try with_reducible rfl
    simp only [Act.put, List.setIfInBounds_toArray, List.set_cons_zero, List.set_cons_succ]
    refine takeD 6 27 (v := ?_) rfl (by rfl) (by kernel_rfl) (by kernel_rfl) (by kernel_rfl) (fun _ _ _ h => h) (Or.inl ⟨by rfl, ?_⟩) (by assumption) ?_
    rotate_left
    · intro wq hSw
      clear hSw
      go_simp
      try with_reducible rfl
    simp only [Act.put, List.setIfInBounds_toArray, List.set_cons_zero, List.set_cons_succ]
    refine takeD 7 28 (v := ?_) rfl (by rfl) (by kernel_rfl) (by kernel_rfl) (by kernel_rfl) (fun _ _ _ h => h) (Or.inl ⟨by rfl, ?_⟩) (by assumption) ?_
    rotate_left
    · intro wq hSw
      clear hSw
      go_simp
      try with_reducible rfl
    simp only [Act.put, List.setIfInBounds_toArray, List.set_cons_zero, List.set_cons_succ]
    refine takeD 8 29 (v := ?_) rfl (by rfl) (by kernel_rfl) (by kernel_rfl) (by kernel_rfl) (fun _ _ _ h => h) (Or.inl ⟨by rfl, ?_⟩) (by assumption) ?_
    rotate_left
    · intro wq hSw
      clear hSw
      go_simp
      try with_reducible rfl
    simp only [Act.put, List.setIfInBounds_toArray, List.set_cons_zero, List.set_cons_succ]
    refine takeD 9 30 (v := ?_) rfl (by rfl) (by kernel_rfl) (by kernel_rfl) (by kernel_rfl) (fun _ _ _ h => h) (Or.inl ⟨by rfl, ?_⟩) (by assumption) ?_
    rotate_left
    · intro wq hSw
      have k0 := hSw.1
      have k1 := hSw.2.1
      have k2 := hSw.2.2
      clear hSw
      go_simp
      try with_reducible rfl
    simp only [Act.put, List.setIfInBounds_toArray, List.set_cons_zero, List.set_cons_succ]
    refine takeD 10 31 (v := ?_) rfl (by rfl) (by kernel_rfl) (by kernel_rfl) (by kernel_rfl) (fun _ _ _ h => h) (Or.inl ⟨by rfl, ?_⟩) (by assumption) ?_
    rotate_left
    · intro wq hSw
      clear hSw
      go_simp
      try with_reducible rfl
    simp only [Act.put, List.setIfInBounds_toArray, List.set_cons_zero, List.set_cons_succ]
    refine takeD 11 32 (v := ?_) rfl (by rfl) (by kernel_rfl) (by kernel_rfl) (by kernel_rfl) (fun _ _ _ h => h) (Or.inl ⟨by rfl, ?_⟩) (by assumption) ?_
    rotate_left
    · intro wq hSw
      clear hSw
      go_simp
      try with_reducible rfl
    simp only [Act.put, List.setIfInBounds_toArray, List.set_cons_zero, List.set_cons_succ]
    refine takeD 12 33 (v := ?_) rfl (by rfl) (by kernel_rfl) (by kernel_rfl) (by kernel_rfl) (fun _ _ _ h => h) (Or.inl ⟨by rfl, ?_⟩) (by assumption) ?_
    rotate_left
    · intro wq hSw
      clear hSw
      go_simp
      try with_reducible rfl
    simp only [Act.put, List.setIfInBounds_toArray, List.set_cons_zero, List.set_cons_succ]
    refine takeD 13 34 (v := ?_) rfl (by rfl) (by kernel_rfl) (by kernel_rfl) (by kernel_rfl) (fun _ _ _ h => h) (Or.inl ⟨by rfl, ?_⟩) (by assumption) ?_
    rotate_left
    · intro wq hSw
      have k0 := hSw.1
      have k1 := hSw.2.1
      have k2 := hSw.2.2
      clear hSw
      go_simp
      try with_reducible rfl
    simp only [Act.put, List.setIfInBounds_toArray, List.set_cons_zero, List.set_cons_succ]
    refine takeD 16 37 (v := ?_) rfl (by rfl) (by kernel_rfl) (by kernel_rfl) (by kernel_rfl) (fun _ _ _ h => h) (Or.inl ⟨by rfl, ?_⟩) (by assumption) ?_
    rotate_left
    · intro wq hSw
      clear hSw
      go_simp
      try with_reducible rfl
    simp only [Act.put, List.setIfInBounds_toArray, List.set_cons_zero, List.set_cons_succ]
    refine takeD 17 38 (v := ?_) rfl (by rfl) (by kernel_rfl) (by kernel_rfl) (by kernel_rfl) (fun _ _ _ h => h) (Or.inl ⟨by rfl, ?_⟩) (by assumption) ?_
    rotate_left
    · intro wq hSw
      clear hSw
      go_simp
      try with_reducible rfl
    simp only [Act.put, List.setIfInBounds_toArray, List.set_cons_zero, List.set_cons_succ]
    refine takeD 18 39 (v := ?_) rfl (by rfl) (by kernel_rfl) (by kernel_rfl) (by kernel_rfl) (fun _ _ _ h => h) (Or.inl ⟨by rfl, ?_⟩) (by assumption) ?_
    rotate_left
    · intro wq hSw
      clear hSw
      go_simp
      try with_reducible rfl
    simp only [Act.put, List.setIfInBounds_toArray, List.set_cons_zero, List.set_cons_succ]
    refine wpAnyH_ready (rs := [5, 14, 19]) (by kernel_rfl) (by simp) ?_
    refine (AllReadyH.cons rfl (fun K hK => ?_) (AllReadyH.cons rfl (fun K hK => ?_) (AllReadyH.cons rfl (fun K hK => ?_) AllReadyH.nil)))
    · go_simp
      refine hK.out _ _ hS (fun _ => ?_)
      clear hK
      refine wpAnyH_ready (rs := [14, 19]) (by kernel_rfl) (by simp) ?_
      refine (AllReadyH.cons rfl (fun K hK => ?_) (AllReadyH.cons rfl (fun K hK => ?_) AllReadyH.nil))
      · go_simp
        refine (sp_len x.fr x.upto wD hsp1 hsp2).mono ?_
        rintro e wC ⟨rfl, hbC⟩
        have HKC := Lib.hid (HKD.out.trans (Kept.of_below (O := fun g => g = b) hbC) (fun i _ e => e))
        have HBC := Lib.hid ((hbC.block b (heap_lt HBD.out)).trans HBD.out)
        have hSC := HSK.out wC _ _ HKC.out HBC.out
        try have c2 := (hbC.cell (p := ⟨b, 2, none⟩) (heap_lt HBD.out)).trans c2
        try have c3 := (hbC.cell (p := ⟨b, 3, none⟩) (heap_lt HBD.out)).trans c3
        refine hK.out _ _ hSC (fun _ => ?_)
        clear hK hbC hS
        have hS := hSC
        clear hSC
        refine takeD 15 36 (v := ?_) rfl (by rfl) (by kernel_rfl) (by kernel_rfl) (by kernel_rfl) (fun _ _ _ h => h) (Or.inl ⟨by rfl, ?_⟩) (by assumption) ?_
        rotate_left
        · intro wq hSw
          clear hSw
          go_simp
          try with_reducible rfl
        simp only [Act.put, List.setIfInBounds_toArray, List.set_cons_zero, List.set_cons_succ]
        refine wpAnyH_ready (rs := [19]) (by kernel_rfl) (by simp) ?_
        refine (AllReadyH.cons rfl (fun K hK => ?_) AllReadyH.nil)
        · go_simp
          refine hK.out _ _ hS (fun _ => ?_)
          clear hK
          refine takeD 20 41 (v := ?_) rfl (by rfl) (by kernel_rfl) (by kernel_rfl) (by kernel_rfl) (fun _ _ _ h => h) (Or.inl ⟨by rfl, ?_⟩) (by assumption) ?_
          rotate_left
          · intro wq hSw
            clear hSw
            go_simp
            try with_reducible rfl
          simp only [Act.put, List.setIfInBounds_toArray, List.set_cons_zero, List.set_cons_succ]
          refine takeD 21 42 (v := ?_) rfl (by rfl) (by kernel_rfl) (by kernel_rfl) (by kernel_rfl) (fun _ _ _ h => h) (Or.inl ⟨by rfl, ?_⟩) (by assumption) ?_
          rotate_left
          · intro wq hSw
            clear hSw
            go_simp
            try with_reducible rfl
          simp only [Act.put, List.setIfInBounds_toArray, List.set_cons_zero, List.set_cons_succ]
          refine takeD 22 43 (v := ?_) rfl (by rfl) (by kernel_rfl) (by kernel_rfl) (by kernel_rfl) (fun _ _ _ h => h) (Or.inl ⟨by rfl, ?_⟩) (by assumption) ?_
          rotate_left
          · intro wq hSw
            clear hSw
            go_simp
            try with_reducible rfl
          simp only [Act.put, List.setIfInBounds_toArray, List.set_cons_zero, List.set_cons_succ]
          have p2 := mx_cell (j := 2) HBC.out
          have fp2 := mx_free (j := 2) HBC.out
          simp only [List.getElem?_toArray, List.getElem?_cons_zero, List.getElem?_cons_succ] at p2
          refine wpAnyH_ready (rs := [23]) (by kernel_rfl) (by simp) ?_
          refine AllReadyH.cons rfl (fun K hK => ?_) AllReadyH.nil
          go_simp
          obtain ⟨wG, hwG⟩ : ∃ y, wC.setCell ⟨b, 2, none⟩ (.int .i64 ((A.used : Int) - ((x.upto : Int) - (x.fr : Int)))) = y := ⟨_, rfl⟩
          have HKG := Lib.hid (HKC.out.trans (show Kept (fun g => g = b) wC wG by rw [← hwG]; exact (Kept.refl (fun g => g = b) wC).setCell ⟨b, 2, none⟩ _ rfl) (fun i _ e => e))
          have HBG := Lib.hid (show wG.heap[b]? = some (.cells #[.slice As A.store.length cst, .slice (some ⟨ga, 0, none⟩) A.all.length cl, .int .i64 ((A.used : Int) - ((x.upto : Int) - (x.fr : Int))), .int .i64 (A.count : Nat), .int .i64 A.last, .bool true] 104 (0, 0)) from by rw [← hwG]; exact mx_set HBC.out _ (j := 2))
          have hSG := HSK.out wG _ _ HKG.out HBG.out
          rw [hwG]
          refine hK.out _ _ hSG (fun _ => ?_)
          clear hK hwG p2 fp2 hS
          rename_i _
          have hS := hSG
          clear hSG
          refine takeD 24 44 (v := ?_) rfl (by rfl) (by kernel_rfl) (by kernel_rfl) (by kernel_rfl) (fun _ _ _ h => h) (Or.inl ⟨by rfl, ?_⟩) (by assumption) ?_
          rotate_left
          · intro wq hSw
            clear hSw
            go_simp
            try with_reducible rfl
          simp only [Act.put, List.setIfInBounds_toArray, List.set_cons_zero, List.set_cons_succ]
          refine takeD 25 45 (v := ?_) rfl (by rfl) (by kernel_rfl) (by kernel_rfl) (by kernel_rfl) (fun _ _ _ h => h) (Or.inl ⟨by rfl, ?_⟩) (by assumption) ?_
          rotate_left
          · intro wq hSw
            clear hSw
            go_simp
            try with_reducible rfl
          simp only [Act.put, List.setIfInBounds_toArray, List.set_cons_zero, List.set_cons_succ]
          have p3 := mx_cell (j := 3) HBG.out
          have fp3 := mx_free (j := 3) HBG.out
          simp only [List.getElem?_toArray, List.getElem?_cons_zero, List.getElem?_cons_succ] at p3
          refine wpAnyH_ready (rs := [26]) (by kernel_rfl) (by simp) ?_
          refine AllReadyH.cons rfl (fun K hK => ?_) AllReadyH.nil
          go_simp
          obtain ⟨wI, hwI⟩ : ∃ y, wG.setCell ⟨b, 3, none⟩ (.int .i64 ((A.count : Int) - 1)) = y := ⟨_, rfl⟩
          have HKI := Lib.hid (HKG.out.trans (show Kept (fun g => g = b) wG wI by rw [← hwI]; exact (Kept.refl (fun g => g = b) wG).setCell ⟨b, 3, none⟩ _ rfl) (fun i _ e => e))
          have HBI := Lib.hid (show wI.heap[b]? = some (.cells #[.slice As A.store.length cst, .slice (some ⟨ga, 0, none⟩) A.all.length cl, .int .i64 ((A.used : Int) - ((x.upto : Int) - (x.fr : Int))), .int .i64 ((A.count : Int) - 1), .int .i64 A.last, .bool true] 104 (0, 0)) from by rw [← hwI]; exact mx_set HBG.out _ (j := 3))
          have hSI := HSK.out wI _ _ HKI.out HBI.out
          rw [hwI]
          refine hK.out _ _ hSI (fun _ => ?_)
          clear hK hwI p3 fp3 hS
          rename_i _
          have hS := hSI
          clear hSI
          refine wpAnyH_done (by kernel_rfl) ?_ _
          go_wp2_with fail
          go_meet
          exact ⟨A.used - (x.upto - x.fr), A.count - 1, Lib.hid (by rw [HUN.out.1, HUN.out.2]; exact HBI.out), Lib.hid rfl, Lib.hid rfl, HKI⟩
      · go_simp
        refine hK.out _ _ hS (fun _ => ?_)
        clear hK
        refine takeD 20 41 (v := ?_) rfl (by rfl) (by kernel_rfl) (by kernel_rfl) (by kernel_rfl) (fun _ _ _ h => h) (Or.inl ⟨by rfl, ?_⟩) (by assumption) ?_
        rotate_left
        · intro wq hSw
          clear hSw
          go_simp
          try with_reducible rfl
        simp only [Act.put, List.setIfInBounds_toArray, List.set_cons_zero, List.set_cons_succ]
        refine wpAnyH_ready (rs := [14]) (by kernel_rfl) (by simp) ?_
        refine (AllReadyH.cons rfl (fun K hK => ?_) AllReadyH.nil)
        · go_simp
          refine (sp_len x.fr x.upto wD hsp1 hsp2).mono ?_
          rintro e wC ⟨rfl, hbC⟩
          have HKC := Lib.hid (HKD.out.trans (Kept.of_below (O := fun g => g = b) hbC) (fun i _ e => e))
          have HBC := Lib.hid ((hbC.block b (heap_lt HBD.out)).trans HBD.out)
          have hSC := HSK.out wC _ _ HKC.out HBC.out
          try have c2 := (hbC.cell (p := ⟨b, 2, none⟩) (heap_lt HBD.out)).trans c2
          try have c3 := (hbC.cell (p := ⟨b, 3, none⟩) (heap_lt HBD.out)).trans c3
          refine hK.out _ _ hSC (fun _ => ?_)
          clear hK hbC hS
          have hS := hSC
          clear hSC
          refine takeD 15 36 (v := ?_) rfl (by rfl) (by kernel_rfl) (by kernel_rfl) (by kernel_rfl) (fun _ _ _ h => h) (Or.inl ⟨by rfl, ?_⟩) (by assumption) ?_
          rotate_left
          · intro wq hSw
            clear hSw
            go_simp
            try with_reducible rfl
          simp only [Act.put, List.setIfInBounds_toArray, List.set_cons_zero, List.set_cons_succ]
          refine takeD 21 42 (v := ?_) rfl (by rfl) (by kernel_rfl) (by kernel_rfl) (by kernel_rfl) (fun _ _ _ h => h) (Or.inl ⟨by rfl, ?_⟩) (by assumption) ?_
          rotate_left
          · intro wq hSw
            clear hSw
            go_simp
            try with_reducible rfl
          simp only [Act.put, List.setIfInBounds_toArray, List.set_cons_zero, List.set_cons_succ]
          refine takeD 22 43 (v := ?_) rfl (by rfl) (by kernel_rfl) (by kernel_rfl) (by kernel_rfl) (fun _ _ _ h => h) (Or.inl ⟨by rfl, ?_⟩) (by assumption) ?_
          rotate_left
          · intro wq hSw
            clear hSw
            go_simp
            try with_reducible rfl
          simp only [Act.put, List.setIfInBounds_toArray, List.set_cons_zero, List.set_cons_succ]
          have p2 := mx_cell (j := 2) HBC.out
          have fp2 := mx_free (j := 2) HBC.out
          simp only [List.getElem?_toArray, List.getElem?_cons_zero, List.getElem?_cons_succ] at p2
          refine wpAnyH_ready (rs := [23]) (by kernel_rfl) (by simp) ?_
          refine AllReadyH.cons rfl (fun K hK => ?_) AllReadyH.nil
          go_simp
          obtain ⟨wG, hwG⟩ : ∃ y, wC.setCell ⟨b, 2, none⟩ (.int .i64 ((A.used : Int) - ((x.upto : Int) - (x.fr : Int)))) = y := ⟨_, rfl⟩
          have HKG := Lib.hid (HKC.out.trans (show Kept (fun g => g = b) wC wG by rw [← hwG]; exact (Kept.refl (fun g => g = b) wC).setCell ⟨b, 2, none⟩ _ rfl) (fun i _ e => e))
          have HBG := Lib.hid (show wG.heap[b]? = some (.cells #[.slice As A.store.length cst, .slice (some ⟨ga, 0, none⟩) A.all.length cl, .int .i64 ((A.used : Int) - ((x.upto : Int) - (x.fr : Int))), .int .i64 (A.count : Nat), .int .i64 A.last, .bool true] 104 (0, 0)) from by rw [← hwG]; exact mx_set HBC.out _ (j := 2))
          have hSG := HSK.out wG _ _ HKG.out HBG.out
          rw [hwG]
          refine hK.out _ _ hSG (fun _ => ?_)
          clear hK hwG p2 fp2 hS
          rename_i _
          have hS := hSG
          clear hSG
          refine takeD 24 44 (v := ?_) rfl (by rfl) (by kernel_rfl) (by kernel_rfl) (by kernel_rfl) (fun _ _ _ h => h) (Or.inl ⟨by rfl, ?_⟩) (by assumption) ?_
          rotate_left
          · intro wq hSw
            clear hSw
            go_simp
            try with_reducible rfl
          simp only [Act.put, List.setIfInBounds_toArray, List.set_cons_zero, List.set_cons_succ]
          refine takeD 25 45 (v := ?_) rfl (by rfl) (by kernel_rfl) (by kernel_rfl) (by kernel_rfl) (fun _ _ _ h => h) (Or.inl ⟨by rfl, ?_⟩) (by assumption) ?_
          rotate_left
          · intro wq hSw
            clear hSw
            go_simp
            try with_reducible rfl
          simp only [Act.put, List.setIfInBounds_toArray, List.set_cons_zero, List.set_cons_succ]
          have p3 := mx_cell (j := 3) HBG.out
          have fp3 := mx_free (j := 3) HBG.out
          simp only [List.getElem?_toArray, List.getElem?_cons_zero, List.getElem?_cons_succ] at p3
          refine wpAnyH_ready (rs := [26]) (by kernel_rfl) (by simp) ?_
          refine AllReadyH.cons rfl (fun K hK => ?_) AllReadyH.nil
          go_simp
          obtain ⟨wI, hwI⟩ : ∃ y, wG.setCell ⟨b, 3, none⟩ (.int .i64 ((A.count : Int) - 1)) = y := ⟨_, rfl⟩
          have HKI := Lib.hid (HKG.out.trans (show Kept (fun g => g = b) wG wI by rw [← hwI]; exact (Kept.refl (fun g => g = b) wG).setCell ⟨b, 3, none⟩ _ rfl) (fun i _ e => e))
          have HBI := Lib.hid (show wI.heap[b]? = some (.cells #[.slice As A.store.length cst, .slice (some ⟨ga, 0, none⟩) A.all.length cl, .int .i64 ((A.used : Int) - ((x.upto : Int) - (x.fr : Int))), .int .i64 ((A.count : Int) - 1), .int .i64 A.last, .bool true] 104 (0, 0)) from by rw [← hwI]; exact mx_set HBG.out _ (j := 3))
          have hSI := HSK.out wI _ _ HKI.out HBI.out
          rw [hwI]
          refine hK.out _ _ hSI (fun _ => ?_)
          clear hK hwI p3 fp3 hS
          rename_i _
          have hS := hSI
          clear hSI
          refine wpAnyH_done (by kernel_rfl) ?_ _
          go_wp2_with fail
          go_meet
          exact ⟨A.used - (x.upto - x.fr), A.count - 1, Lib.hid (by rw [HUN.out.1, HUN.out.2]; exact HBI.out), Lib.hid rfl, Lib.hid rfl, HKI⟩
    · go_simp
      refine (sp_len x.fr x.upto wD hsp1 hsp2).mono ?_
      rintro e wC ⟨rfl, hbC⟩
      have HKC := Lib.hid (HKD.out.trans (Kept.of_below (O := fun g => g = b) hbC) (fun i _ e => e))
      have HBC := Lib.hid ((hbC.block b (heap_lt HBD.out)).trans HBD.out)
      have hSC := HSK.out wC _ _ HKC.out HBC.out
      try have c2 := (hbC.cell (p := ⟨b, 2, none⟩) (heap_lt HBD.out)).trans c2
      try have c3 := (hbC.cell (p := ⟨b, 3, none⟩) (heap_lt HBD.out)).trans c3
      refine hK.out _ _ hSC (fun _ => ?_)
      clear hK hbC hS
      have hS := hSC
      clear hSC
      refine wpAnyH_ready (rs := [5, 19]) (by kernel_rfl) (by simp) ?_
      refine (AllReadyH.cons rfl (fun K hK => ?_) (AllReadyH.cons rfl (fun K hK => ?_) AllReadyH.nil))
      · go_simp
        refine hK.out _ _ hS (fun _ => ?_)
        clear hK
        refine takeD 15 36 (v := ?_) rfl (by rfl) (by kernel_rfl) (by kernel_rfl) (by kernel_rfl) (fun _ _ _ h => h) (Or.inl ⟨by rfl, ?_⟩) (by assumption) ?_
        rotate_left
        · intro wq hSw
          clear hSw
          go_simp
          try with_reducible rfl
        simp only [Act.put, List.setIfInBounds_toArray, List.set_cons_zero, List.set_cons_succ]
        refine wpAnyH_ready (rs := [19]) (by kernel_rfl) (by simp) ?_
        refine (AllReadyH.cons rfl (fun K hK => ?_) AllReadyH.nil)
        · go_simp
          refine hK.out _ _ hS (fun _ => ?_)
          clear hK
          refine takeD 20 41 (v := ?_) rfl (by rfl) (by kernel_rfl) (by kernel_rfl) (by kernel_rfl) (fun _ _ _ h => h) (Or.inl ⟨by rfl, ?_⟩) (by assumption) ?_
          rotate_left
          · intro wq hSw
            clear hSw
            go_simp
            try with_reducible rfl
          simp only [Act.put, List.setIfInBounds_toArray, List.set_cons_zero, List.set_cons_succ]
          refine takeD 21 42 (v := ?_) rfl (by rfl) (by kernel_rfl) (by kernel_rfl) (by kernel_rfl) (fun _ _ _ h => h) (Or.inl ⟨by rfl, ?_⟩) (by assumption) ?_
          rotate_left
          · intro wq hSw
            clear hSw
            go_simp
            try with_reducible rfl
          simp only [Act.put, List.setIfInBounds_toArray, List.set_cons_zero, List.set_cons_succ]
          refine takeD 22 43 (v := ?_) rfl (by rfl) (by kernel_rfl) (by kernel_rfl) (by kernel_rfl) (fun _ _ _ h => h) (Or.inl ⟨by rfl, ?_⟩) (by assumption) ?_
          rotate_left
          · intro wq hSw
            clear hSw
            go_simp
            try with_reducible rfl
          simp only [Act.put, List.setIfInBounds_toArray, List.set_cons_zero, List.set_cons_succ]
          have p2 := mx_cell (j := 2) HBC.out
          have fp2 := mx_free (j := 2) HBC.out
          simp only [List.getElem?_toArray, List.getElem?_cons_zero, List.getElem?_cons_succ] at p2
          refine wpAnyH_ready (rs := [23]) (by kernel_rfl) (by simp) ?_
          refine AllReadyH.cons rfl (fun K hK => ?_) AllReadyH.nil
          go_simp
          obtain ⟨wG, hwG⟩ : ∃ y, wC.setCell ⟨b, 2, none⟩ (.int .i64 ((A.used : Int) - ((x.upto : Int) - (x.fr : Int)))) = y := ⟨_, rfl⟩
          have HKG := Lib.hid (HKC.out.trans (show Kept (fun g => g = b) wC wG by rw [← hwG]; exact (Kept.refl (fun g => g = b) wC).setCell ⟨b, 2, none⟩ _ rfl) (fun i _ e => e))
          have HBG := Lib.hid (show wG.heap[b]? = some (.cells #[.slice As A.store.length cst, .slice (some ⟨ga, 0, none⟩) A.all.length cl, .int .i64 ((A.used : Int) - ((x.upto : Int) - (x.fr : Int))), .int .i64 (A.count : Nat), .int .i64 A.last, .bool true] 104 (0, 0)) from by rw [← hwG]; exact mx_set HBC.out _ (j := 2))
          have hSG := HSK.out wG _ _ HKG.out HBG.out
          rw [hwG]
          refine hK.out _ _ hSG (fun _ => ?_)
          clear hK hwG p2 fp2 hS
          rename_i _
          have hS := hSG
          clear hSG
          refine takeD 24 44 (v := ?_) rfl (by rfl) (by kernel_rfl) (by kernel_rfl) (by kernel_rfl) (fun _ _ _ h => h) (Or.inl ⟨by rfl, ?_⟩) (by assumption) ?_
          rotate_left
          · intro wq hSw
            clear hSw
            go_simp
            try with_reducible rfl
          simp only [Act.put, List.setIfInBounds_toArray, List.set_cons_zero, List.set_cons_succ]
          refine takeD 25 45 (v := ?_) rfl (by rfl) (by kernel_rfl) (by kernel_rfl) (by kernel_rfl) (fun _ _ _ h => h) (Or.inl ⟨by rfl, ?_⟩) (by assumption) ?_
          rotate_left
          · intro wq hSw
            clear hSw
            go_simp
            try with_reducible rfl
          simp only [Act.put, List.setIfInBounds_toArray, List.set_cons_zero, List.set_cons_succ]
          have p3 := mx_cell (j := 3) HBG.out
          have fp3 := mx_free (j := 3) HBG.out
          simp only [List.getElem?_toArray, List.getElem?_cons_zero, List.getElem?_cons_succ] at p3
          refine wpAnyH_ready (rs := [26]) (by kernel_rfl) (by simp) ?_
          refine AllReadyH.cons rfl (fun K hK => ?_) AllReadyH.nil
          go_simp
          obtain ⟨wI, hwI⟩ : ∃ y, wG.setCell ⟨b, 3, none⟩ (.int .i64 ((A.count : Int) - 1)) = y := ⟨_, rfl⟩
          have HKI := Lib.hid (HKG.out.trans (show Kept (fun g => g = b) wG wI by rw [← hwI]; exact (Kept.refl (fun g => g = b) wG).setCell ⟨b, 3, none⟩ _ rfl) (fun i _ e => e))
          have HBI := Lib.hid (show wI.heap[b]? = some (.cells #[.slice As A.store.length cst, .slice (some ⟨ga, 0, none⟩) A.all.length cl, .int .i64 ((A.used : Int) - ((x.upto : Int) - (x.fr : Int))), .int .i64 ((A.count : Int) - 1), .int .i64 A.last, .bool true] 104 (0, 0)) from by rw [← hwI]; exact mx_set HBG.out _ (j := 3))
          have hSI := HSK.out wI _ _ HKI.out HBI.out
          rw [hwI]
          refine hK.out _ _ hSI (fun _ => ?_)
          clear hK hwI p3 fp3 hS
          rename_i _
          have hS := hSI
          clear hSI
          refine wpAnyH_done (by kernel_rfl) ?_ _
          go_wp2_with fail
          go_meet
          exact ⟨A.used - (x.upto - x.fr), A.count - 1, Lib.hid (by rw [HUN.out.1, HUN.out.2]; exact HBI.out), Lib.hid rfl, Lib.hid rfl, HKI⟩
      · go_simp
        refine hK.out _ _ hS (fun _ => ?_)
        clear hK
        refine takeD 20 41 (v := ?_) rfl (by rfl) (by kernel_rfl) (by kernel_rfl) (by kernel_rfl) (fun _ _ _ h => h) (Or.inl ⟨by rfl, ?_⟩) (by assumption) ?_
        rotate_left
        · intro wq hSw
          clear hSw
          go_simp
          try with_reducible rfl
        simp only [Act.put, List.setIfInBounds_toArray, List.set_cons_zero, List.set_cons_succ]
        refine wpAnyH_ready (rs := [5]) (by kernel_rfl) (by simp) ?_
        refine (AllReadyH.cons rfl (fun K hK => ?_) AllReadyH.nil)
        · go_simp
          refine hK.out _ _ hS (fun _ => ?_)
          clear hK
          refine takeD 15 36 (v := ?_) rfl (by rfl) (by kernel_rfl) (by kernel_rfl) (by kernel_rfl) (fun _ _ _ h => h) (Or.inl ⟨by rfl, ?_⟩) (by assumption) ?_
          rotate_left
          · intro wq hSw
            clear hSw
            go_simp
            try with_reducible rfl
          simp only [Act.put, List.setIfInBounds_toArray, List.set_cons_zero, List.set_cons_succ]
          refine takeD 21 42 (v := ?_) rfl (by rfl) (by kernel_rfl) (by kernel_rfl) (by kernel_rfl) (fun _ _ _ h => h) (Or.inl ⟨by rfl, ?_⟩) (by assumption) ?_
          rotate_left
          · intro wq hSw
            clear hSw
            go_simp
            try with_reducible rfl
          simp only [Act.put, List.setIfInBounds_toArray, List.set_cons_zero, List.set_cons_succ]
          refine takeD 22 43 (v := ?_) rfl (by rfl) (by kernel_rfl) (by kernel_rfl) (by kernel_rfl) (fun _ _ _ h => h) (Or.inl ⟨by rfl, ?_⟩) (by assumption) ?_
          rotate_left
          · intro wq hSw
            clear hSw
            go_simp
            try with_reducible rfl
          simp only [Act.put, List.setIfInBounds_toArray, List.set_cons_zero, List.set_cons_succ]
          have p2 := mx_cell (j := 2) HBC.out
          have fp2 := mx_free (j := 2) HBC.out
          simp only [List.getElem?_toArray, List.getElem?_cons_zero, List.getElem?_cons_succ] at p2
          refine wpAnyH_ready (rs := [23]) (by kernel_rfl) (by simp) ?_
          refine AllReadyH.cons rfl (fun K hK => ?_) AllReadyH.nil
          go_simp
          obtain ⟨wG, hwG⟩ : ∃ y, wC.setCell ⟨b, 2, none⟩ (.int .i64 ((A.used : Int) - ((x.upto : Int) - (x.fr : Int)))) = y := ⟨_, rfl⟩
          have HKG := Lib.hid (HKC.out.trans (show Kept (fun g => g = b) wC wG by rw [← hwG]; exact (Kept.refl (fun g => g = b) wC).setCell ⟨b, 2, none⟩ _ rfl) (fun i _ e => e))
          have HBG := Lib.hid (show wG.heap[b]? = some (.cells #[.slice As A.store.length cst, .slice (some ⟨ga, 0, none⟩) A.all.length cl, .int .i64 ((A.used : Int) - ((x.upto : Int) - (x.fr : Int))), .int .i64 (A.count : Nat), .int .i64 A.last, .bool true] 104 (0, 0)) from by rw [← hwG]; exact mx_set HBC.out _ (j := 2))
          have hSG := HSK.out wG _ _ HKG.out HBG.out
          rw [hwG]
          refine hK.out _ _ hSG (fun _ => ?_)
          clear hK hwG p2 fp2 hS
          rename_i _
          have hS := hSG
          clear hSG
          refine takeD 24 44 (v := ?_) rfl (by rfl) (by kernel_rfl) (by kernel_rfl) (by kernel_rfl) (fun _ _ _ h => h) (Or.inl ⟨by rfl, ?_⟩) (by assumption) ?_
          rotate_left
          · intro wq hSw
            clear hSw
            go_simp
            try with_reducible rfl
          simp only [Act.put, List.setIfInBounds_toArray, List.set_cons_zero, List.set_cons_succ]
          refine takeD 25 45 (v := ?_) rfl (by rfl) (by kernel_rfl) (by kernel_rfl) (by kernel_rfl) (fun _ _ _ h => h) (Or.inl ⟨by rfl, ?_⟩) (by assumption) ?_
          rotate_left
          · intro wq hSw
            clear hSw
            go_simp
            try with_reducible rfl
          simp only [Act.put, List.setIfInBounds_toArray, List.set_cons_zero, List.set_cons_succ]
          have p3 := mx_cell (j := 3) HBG.out
          have fp3 := mx_free (j := 3) HBG.out
          simp only [List.getElem?_toArray, List.getElem?_cons_zero, List.getElem?_cons_succ] at p3
          refine wpAnyH_ready (rs := [26]) (by kernel_rfl) (by simp) ?_
          refine AllReadyH.cons rfl (fun K hK => ?_) AllReadyH.nil
          go_simp
          obtain ⟨wI, hwI⟩ : ∃ y, wG.setCell ⟨b, 3, none⟩ (.int .i64 ((A.count : Int) - 1)) = y := ⟨_, rfl⟩
          have HKI := Lib.hid (HKG.out.trans (show Kept (fun g => g = b) wG wI by rw [← hwI]; exact (Kept.refl (fun g => g = b) wG).setCell ⟨b, 3, none⟩ _ rfl) (fun i _ e => e))
          have HBI := Lib.hid (show wI.heap[b]? = some (.cells #[.slice As A.store.length cst, .slice (some ⟨ga, 0, none⟩) A.all.length cl, .int .i64 ((A.used : Int) - ((x.upto : Int) - (x.fr : Int))), .int .i64 ((A.count : Int) - 1), .int .i64 A.last, .bool true] 104 (0, 0)) from by rw [← hwI]; exact mx_set HBG.out _ (j := 3))
          have hSI := HSK.out wI _ _ HKI.out HBI.out
          rw [hwI]
          refine hK.out _ _ hSI (fun _ => ?_)
          clear hK hwI p3 fp3 hS
          rename_i _
          have hS := hSI
          clear hSI
          refine wpAnyH_done (by kernel_rfl) ?_ _
          go_wp2_with fail
          go_meet
          exact ⟨A.used - (x.upto - x.fr), A.count - 1, Lib.hid (by rw [HUN.out.1, HUN.out.2]; exact HBI.out), Lib.hid rfl, Lib.hid rfl, HKI⟩
    · go_simp
      refine hK.out _ _ hS (fun _ => ?_)
      clear hK
      refine takeD 20 41 (v := ?_) rfl (by rfl) (by kernel_rfl) (by kernel_rfl) (by kernel_rfl) (fun _ _ _ h => h) (Or.inl ⟨by rfl, ?_⟩) (by assumption) ?_
      rotate_left
      · intro wq hSw
        clear hSw
        go_simp
        try with_reducible rfl
      simp only [Act.put, List.setIfInBounds_toArray, List.set_cons_zero, List.set_cons_succ]
      refine wpAnyH_ready (rs := [5, 14]) (by kernel_rfl) (by simp) ?_
      refine (AllReadyH.cons rfl (fun K hK => ?_) (AllReadyH.cons rfl (fun K hK => ?_) AllReadyH.nil))
      · go_simp
        refine hK.out _ _ hS (fun _ => ?_)
        clear hK
        refine wpAnyH_ready (rs := [14]) (by kernel_rfl) (by simp) ?_
        refine (AllReadyH.cons rfl (fun K hK => ?_) AllReadyH.nil)
        · go_simp
          refine (sp_len x.fr x.upto wD hsp1 hsp2).mono ?_
          rintro e wC ⟨rfl, hbC⟩
          have HKC := Lib.hid (HKD.out.trans (Kept.of_below (O := fun g => g = b) hbC) (fun i _ e => e))
          have HBC := Lib.hid ((hbC.block b (heap_lt HBD.out)).trans HBD.out)
          have hSC := HSK.out wC _ _ HKC.out HBC.out
          try have c2 := (hbC.cell (p := ⟨b, 2, none⟩) (heap_lt HBD.out)).trans c2
          try have c3 := (hbC.cell (p := ⟨b, 3, none⟩) (heap_lt HBD.out)).trans c3
          refine hK.out _ _ hSC (fun _ => ?_)
          clear hK hbC hS
          have hS := hSC
          clear hSC
          refine takeD 15 36 (v := ?_) rfl (by rfl) (by kernel_rfl) (by kernel_rfl) (by kernel_rfl) (fun _ _ _ h => h) (Or.inl ⟨by rfl, ?_⟩) (by assumption) ?_
          rotate_left
          · intro wq hSw
            clear hSw
            go_simp
            try with_reducible rfl
          simp only [Act.put, List.setIfInBounds_toArray, List.set_cons_zero, List.set_cons_succ]
          refine takeD 21 42 (v := ?_) rfl (by rfl) (by kernel_rfl) (by kernel_rfl) (by kernel_rfl) (fun _ _ _ h => h) (Or.inl ⟨by rfl, ?_⟩) (by assumption) ?_
          rotate_left
          · intro wq hSw
            clear hSw
            go_simp
            try with_reducible rfl
          simp only [Act.put, List.setIfInBounds_toArray, List.set_cons_zero, List.set_cons_succ]
          refine takeD 22 43 (v := ?_) rfl (by rfl) (by kernel_rfl) (by kernel_rfl) (by kernel_rfl) (fun _ _ _ h => h) (Or.inl ⟨by rfl, ?_⟩) (by assumption) ?_
          rotate_left
          · intro wq hSw
            clear hSw
            go_simp
            try with_reducible rfl
          simp only [Act.put, List.setIfInBounds_toArray, List.set_cons_zero, List.set_cons_succ]
          have p2 := mx_cell (j := 2) HBC.out
          have fp2 := mx_free (j := 2) HBC.out
          simp only [List.getElem?_toArray, List.getElem?_cons_zero, List.getElem?_cons_succ] at p2
          refine wpAnyH_ready (rs := [23]) (by kernel_rfl) (by simp) ?_
          refine AllReadyH.cons rfl (fun K hK => ?_) AllReadyH.nil
          go_simp
          obtain ⟨wG, hwG⟩ : ∃ y, wC.setCell ⟨b, 2, none⟩ (.int .i64 ((A.used : Int) - ((x.upto : Int) - (x.fr : Int)))) = y := ⟨_, rfl⟩
          have HKG := Lib.hid (HKC.out.trans (show Kept (fun g => g = b) wC wG by rw [← hwG]; exact (Kept.refl (fun g => g = b) wC).setCell ⟨b, 2, none⟩ _ rfl) (fun i _ e => e))
          have HBG := Lib.hid (show wG.heap[b]? = some (.cells #[.slice As A.store.length cst, .slice (some ⟨ga, 0, none⟩) A.all.length cl, .int .i64 ((A.used : Int) - ((x.upto : Int) - (x.fr : Int))), .int .i64 (A.count : Nat), .int .i64 A.last, .bool true] 104 (0, 0)) from by rw [← hwG]; exact mx_set HBC.out _ (j := 2))
          have hSG := HSK.out wG _ _ HKG.out HBG.out
          rw [hwG]
          refine hK.out _ _ hSG (fun _ => ?_)
          clear hK hwG p2 fp2 hS
          rename_i _
          have hS := hSG
          clear hSG
          refine takeD 24 44 (v := ?_) rfl (by rfl) (by kernel_rfl) (by kernel_rfl) (by kernel_rfl) (fun _ _ _ h => h) (Or.inl ⟨by rfl, ?_⟩) (by assumption) ?_
          rotate_left
          · intro wq hSw
            clear hSw
            go_simp
            try with_reducible rfl
          simp only [Act.put, List.setIfInBounds_toArray, List.set_cons_zero, List.set_cons_succ]
          refine takeD 25 45 (v := ?_) rfl (by rfl) (by kernel_rfl) (by kernel_rfl) (by kernel_rfl) (fun _ _ _ h => h) (Or.inl ⟨by rfl, ?_⟩) (by assumption) ?_
          rotate_left
          · intro wq hSw
            clear hSw
            go_simp
            try with_reducible rfl
          simp only [Act.put, List.setIfInBounds_toArray, List.set_cons_zero, List.set_cons_succ]
          have p3 := mx_cell (j := 3) HBG.out
          have fp3 := mx_free (j := 3) HBG.out
          simp only [List.getElem?_toArray, List.getElem?_cons_zero, List.getElem?_cons_succ] at p3
          refine wpAnyH_ready (rs := [26]) (by kernel_rfl) (by simp) ?_
          refine AllReadyH.cons rfl (fun K hK => ?_) AllReadyH.nil
          go_simp
          obtain ⟨wI, hwI⟩ : ∃ y, wG.setCell ⟨b, 3, none⟩ (.int .i64 ((A.count : Int) - 1)) = y := ⟨_, rfl⟩
          have HKI := Lib.hid (HKG.out.trans (show Kept (fun g => g = b) wG wI by rw [← hwI]; exact (Kept.refl (fun g => g = b) wG).setCell ⟨b, 3, none⟩ _ rfl) (fun i _ e => e))
          have HBI := Lib.hid (show wI.heap[b]? = some (.cells #[.slice As A.store.length cst, .slice (some ⟨ga, 0, none⟩) A.all.length cl, .int .i64 ((A.used : Int) - ((x.upto : Int) - (x.fr : Int))), .int .i64 ((A.count : Int) - 1), .int .i64 A.last, .bool true] 104 (0, 0)) from by rw [← hwI]; exact mx_set HBG.out _ (j := 3))
          have hSI := HSK.out wI _ _ HKI.out HBI.out
          rw [hwI]
          refine hK.out _ _ hSI (fun _ => ?_)
          clear hK hwI p3 fp3 hS
          rename_i _
          have hS := hSI
          clear hSI
          refine wpAnyH_done (by kernel_rfl) ?_ _
          go_wp2_with fail
          go_meet
          exact ⟨A.used - (x.upto - x.fr), A.count - 1, Lib.hid (by rw [HUN.out.1, HUN.out.2]; exact HBI.out), Lib.hid rfl, Lib.hid rfl, HKI⟩
      · go_simp
        refine (sp_len x.fr x.upto wD hsp1 hsp2).mono ?_
        rintro e wC ⟨rfl, hbC⟩
        have HKC := Lib.hid (HKD.out.trans (Kept.of_below (O := fun g => g = b) hbC) (fun i _ e => e))
        have HBC := Lib.hid ((hbC.block b (heap_lt HBD.out)).trans HBD.out)
        have hSC := HSK.out wC _ _ HKC.out HBC.out
        try have c2 := (hbC.cell (p := ⟨b, 2, none⟩) (heap_lt HBD.out)).trans c2
        try have c3 := (hbC.cell (p := ⟨b, 3, none⟩) (heap_lt HBD.out)).trans c3
        refine hK.out _ _ hSC (fun _ => ?_)
        clear hK hbC hS
        have hS := hSC
        clear hSC
        refine wpAnyH_ready (rs := [5]) (by kernel_rfl) (by simp) ?_
        refine (AllReadyH.cons rfl (fun K hK => ?_) AllReadyH.nil)
        · go_simp
          refine hK.out _ _ hS (fun _ => ?_)
          clear hK
          refine takeD 15 36 (v := ?_) rfl (by rfl) (by kernel_rfl) (by kernel_rfl) (by kernel_rfl) (fun _ _ _ h => h) (Or.inl ⟨by rfl, ?_⟩) (by assumption) ?_
          rotate_left
          · intro wq hSw
            clear hSw
            go_simp
            try with_reducible rfl
          simp only [Act.put, List.setIfInBounds_toArray, List.set_cons_zero, List.set_cons_succ]
          refine takeD 21 42 (v := ?_) rfl (by rfl) (by kernel_rfl) (by kernel_rfl) (by kernel_rfl) (fun _ _ _ h => h) (Or.inl ⟨by rfl, ?_⟩) (by assumption) ?_
          rotate_left
          · intro wq hSw
            clear hSw
            go_simp
            try with_reducible rfl
          simp only [Act.put, List.setIfInBounds_toArray, List.set_cons_zero, List.set_cons_succ]
          refine takeD 22 43 (v := ?_) rfl (by rfl) (by kernel_rfl) (by kernel_rfl) (by kernel_rfl) (fun _ _ _ h => h) (Or.inl ⟨by rfl, ?_⟩) (by assumption) ?_
          rotate_left
          · intro wq hSw
            clear hSw
            go_simp
            try with_reducible rfl
          simp only [Act.put, List.setIfInBounds_toArray, List.set_cons_zero, List.set_cons_succ]
          have p2 := mx_cell (j := 2) HBC.out
          have fp2 := mx_free (j := 2) HBC.out
          simp only [List.getElem?_toArray, List.getElem?_cons_zero, List.getElem?_cons_succ] at p2
          refine wpAnyH_ready (rs := [23]) (by kernel_rfl) (by simp) ?_
          refine AllReadyH.cons rfl (fun K hK => ?_) AllReadyH.nil
          go_simp
          obtain ⟨wG, hwG⟩ : ∃ y, wC.setCell ⟨b, 2, none⟩ (.int .i64 ((A.used : Int) - ((x.upto : Int) - (x.fr : Int)))) = y := ⟨_, rfl⟩
          have HKG := Lib.hid (HKC.out.trans (show Kept (fun g => g = b) wC wG by rw [← hwG]; exact (Kept.refl (fun g => g = b) wC).setCell ⟨b, 2, none⟩ _ rfl) (fun i _ e => e))
          have HBG := Lib.hid (show wG.heap[b]? = some (.cells #[.slice As A.store.length cst, .slice (some ⟨ga, 0, none⟩) A.all.length cl, .int .i64 ((A.used : Int) - ((x.upto : Int) - (x.fr : Int))), .int .i64 (A.count : Nat), .int .i64 A.last, .bool true] 104 (0, 0)) from by rw [← hwG]; exact mx_set HBC.out _ (j := 2))
          have hSG := HSK.out wG _ _ HKG.out HBG.out
          rw [hwG]
          refine hK.out _ _ hSG (fun _ => ?_)
          clear hK hwG p2 fp2 hS
          rename_i _
          have hS := hSG
          clear hSG
          refine takeD 24 44 (v := ?_) rfl (by rfl) (by kernel_rfl) (by kernel_rfl) (by kernel_rfl) (fun _ _ _ h => h) (Or.inl ⟨by rfl, ?_⟩) (by assumption) ?_
          rotate_left
          · intro wq hSw
            clear hSw
            go_simp
            try with_reducible rfl
          simp only [Act.put, List.setIfInBounds_toArray, List.set_cons_zero, List.set_cons_succ]
          refine takeD 25 45 (v := ?_) rfl (by rfl) (by kernel_rfl) (by kernel_rfl) (by kernel_rfl) (fun _ _ _ h => h) (Or.inl ⟨by rfl, ?_⟩) (by assumption) ?_
          rotate_left
          · intro wq hSw
            clear hSw
            go_simp
            try with_reducible rfl
          simp only [Act.put, List.setIfInBounds_toArray, List.set_cons_zero, List.set_cons_succ]
          have p3 := mx_cell (j := 3) HBG.out
          have fp3 := mx_free (j := 3) HBG.out
          simp only [List.getElem?_toArray, List.getElem?_cons_zero, List.getElem?_cons_succ] at p3
          refine wpAnyH_ready (rs := [26]) (by kernel_rfl) (by simp) ?_
          refine AllReadyH.cons rfl (fun K hK => ?_) AllReadyH.nil
          go_simp
          obtain ⟨wI, hwI⟩ : ∃ y, wG.setCell ⟨b, 3, none⟩ (.int .i64 ((A.count : Int) - 1)) = y := ⟨_, rfl⟩
          have HKI := Lib.hid (HKG.out.trans (show Kept (fun g => g = b) wG wI by rw [← hwI]; exact (Kept.refl (fun g => g = b) wG).setCell ⟨b, 3, none⟩ _ rfl) (fun i _ e => e))
          have HBI := Lib.hid (show wI.heap[b]? = some (.cells #[.slice As A.store.length cst, .slice (some ⟨ga, 0, none⟩) A.all.length cl, .int .i64 ((A.used : Int) - ((x.upto : Int) - (x.fr : Int))), .int .i64 ((A.count : Int) - 1), .int .i64 A.last, .bool true] 104 (0, 0)) from by rw [← hwI]; exact mx_set HBG.out _ (j := 3))
          have hSI := HSK.out wI _ _ HKI.out HBI.out
          rw [hwI]
          refine hK.out _ _ hSI (fun _ => ?_)
          clear hK hwI p3 fp3 hS
          rename_i _
          have hS := hSI
          clear hSI
          refine wpAnyH_done (by kernel_rfl) ?_ _
          go_wp2_with fail
          go_meet
          exact ⟨A.used - (x.upto - x.fr), A.count - 1, Lib.hid (by rw [HUN.out.1, HUN.out.2]; exact HBI.out), Lib.hid rfl, Lib.hid rfl, HKI⟩
  case rest =>
    obtain ⟨U, N, HBX, HU, HN, HKX⟩ := hcut
    have hz := HKX.out.size
    have hUN : (U : Int) ≤ 1048576 ∧ (N : Int) ≤ 1073741824 ∧ (A.store.length : Int) ≤ 2 * (U : Int) + 64 ∧ (A.all.length : Int) ≤ 2 * (N : Int) + 64 := by
      have e1 := HU.out
      have e2 := HN.out
      omega
    obtain ⟨hU1, hN1, hU2, hN2⟩ := hUN
    have v1 : IntKind.i64.wrap (2 * (U : Int)) = 2 * (U : Int) := IntWalk.i64_in _ (by omega)
    have v2 : IntKind.i64.wrap (2 * (U : Int) + 64) = 2 * (U : Int) + 64 := IntWalk.i64_in _ (by omega)
    have v3 : IntKind.i64.wrap (2 * (N : Int)) = 2 * (N : Int) := IntWalk.i64_in _ (by omega)
    have v4 : IntKind.i64.wrap (2 * (N : Int) + 64) = 2 * (N : Int) + 64 := IntWalk.i64_in _ (by omega)
    have q1 : decide (2 * (U : Int) + 64 < (A.store.length : Int)) = false := by simp; omega
    have q2 : decide (2 * (N : Int) + 64 < (A.all.length : Int)) = false := by simp; omega
    have hbc := heap_lt HBX.out
    have HKF := Lib.hid (((Kept.of_below (O := O) HB1.out).trans HK2.out (fun i _ e => by rw [e]; exact HM.out.allb ga rfl)).trans HKX.out (fun i _ e => by rw [e]; exact HM.out.inb))
    clear hU1 hN1 hU2 hN2 hsp1 hsp2 w9 w14 HSK HUN E0 E1
    go_wp2_with fail
    refine wp_region_held_drew (S := fun w' => Below wc.heap.size wc w') (by kernel_rfl) (mx_drew wc) (fun hS => ?_)
    obtain ⟨wE, hwE⟩ : ∃ y, wc.drew = y := ⟨_, rfl⟩
    rw [hwE] at hS ⊢
    clear hwE
    refine takeD 0 46 (v := ?_) rfl (by rfl) (by kernel_rfl) (by kernel_rfl) (by kernel_rfl) (fun _ _ _ h => h) (Or.inl ⟨by rfl, ?_⟩) (by assumption) ?_
    rotate_left
    · intro wq hSw
      clear hSw
      go_simp
      try with_reducible rfl
    simp only [Act.put, List.setIfInBounds_toArray, List.set_cons_zero, List.set_cons_succ]
    refine takeD 1 47 (v := ?_) rfl (by rfl) (by kernel_rfl) (by kernel_rfl) (by kernel_rfl) (fun _ _ _ h => h) (Or.inl ⟨by rfl, ?_⟩) (by assumption) ?_
    rotate_left
    · intro wq hSw
      clear hSw
      go_simp
      try with_reducible rfl
    simp only [Act.put, List.setIfInBounds_toArray, List.set_cons_zero, List.set_cons_succ]
    refine takeD 2 48 (v := ?_) rfl (by rfl) (by kernel_rfl) (by kernel_rfl) (by kernel_rfl) (fun _ _ _ h => h) (Or.inl ⟨by rfl, ?_⟩) (by assumption) ?_
    rotate_left
    · intro wq hSw
      clear hSw
      go_simp
      try with_reducible rfl
    simp only [Act.put, List.setIfInBounds_toArray, List.set_cons_zero, List.set_cons_succ]
    refine takeD 3 49 (v := ?_) rfl (by rfl) (by kernel_rfl) (by kernel_rfl) (by kernel_rfl) (fun _ _ _ h => h) (Or.inl ⟨by rfl, ?_⟩) (by assumption) ?_
    rotate_left
    · intro wq hSw
      have k0 := (hSw.cell (p := ⟨b, 0, none⟩) hbc).trans (mx_cell (j := 0) HBX.out)
      clear hSw
      go_simp
      try with_reducible rfl
    simp only [Act.put, List.setIfInBounds_toArray, List.set_cons_zero, List.set_cons_succ]
    refine takeD 4 50 (v := ?_) rfl (by rfl) (by kernel_rfl) (by kernel_rfl) (by kernel_rfl) (fun _ _ _ h => h) (Or.inl ⟨by rfl, ?_⟩) (by assumption) ?_
    rotate_left
    · intro wq hSw
      clear hSw
      go_simp
      try with_reducible rfl
    simp only [Act.put, List.setIfInBounds_toArray, List.set_cons_zero, List.set_cons_succ]
    refine takeD 5 51 (v := ?_) rfl (by rfl) (by kernel_rfl) (by kernel_rfl) (by kernel_rfl) (fun _ _ _ h => h) (Or.inl ⟨by rfl, ?_⟩) (by assumption) ?_
    rotate_left
    · intro wq hSw
      clear hSw
      go_simp
      try with_reducible rfl
    simp only [Act.put, List.setIfInBounds_toArray, List.set_cons_zero, List.set_cons_succ]
    refine takeD 6 52 (v := ?_) rfl (by rfl) (by kernel_rfl) (by kernel_rfl) (by kernel_rfl) (fun _ _ _ h => h) (Or.inl ⟨by rfl, ?_⟩) (by assumption) ?_
    rotate_left
    · intro wq hSw
      clear hSw
      go_simp
      try with_reducible rfl
    simp only [Act.put, List.setIfInBounds_toArray, List.set_cons_zero, List.set_cons_succ]
    refine takeD 7 53 (v := ?_) rfl (by rfl) (by kernel_rfl) (by kernel_rfl) (by kernel_rfl) (fun _ _ _ h => h) (Or.inl ⟨by rfl, ?_⟩) (by assumption) ?_
    rotate_left
    · intro wq hSw
      clear hSw
      go_simp
      try with_reducible rfl
    simp only [Act.put, List.setIfInBounds_toArray, List.set_cons_zero, List.set_cons_succ]
    refine takeD 8 54 (v := ?_) rfl (by rfl) (by kernel_rfl) (by kernel_rfl) (by kernel_rfl) (fun _ _ _ h => h) (Or.inl ⟨by rfl, ?_⟩) (by assumption) ?_
    rotate_left
    · intro wq hSw
      have k0 := (hSw.cell (p := ⟨b, 2, none⟩) hbc).trans (mx_cell (j := 2) HBX.out)
      clear hSw
      go_simp
      try with_reducible rfl
    simp only [Act.put, List.setIfInBounds_toArray, List.set_cons_zero, List.set_cons_succ]
    refine takeD 9 55 (v := ?_) rfl (by rfl) (by kernel_rfl) (by kernel_rfl) (by kernel_rfl) (fun _ _ _ h => h) (Or.inl ⟨by rfl, ?_⟩) (by assumption) ?_
    rotate_left
    · intro wq hSw
      clear hSw
      go_simp
      try with_reducible rfl
    simp only [Act.put, List.setIfInBounds_toArray, List.set_cons_zero, List.set_cons_succ]
    refine takeD 10 56 (v := ?_) rfl (by rfl) (by kernel_rfl) (by kernel_rfl) (by kernel_rfl) (fun _ _ _ h => h) (Or.inl ⟨by rfl, ?_⟩) (by assumption) ?_
    rotate_left
    · intro wq hSw
      clear hSw
      go_simp
      try with_reducible rfl
    simp only [Act.put, List.setIfInBounds_toArray, List.set_cons_zero, List.set_cons_succ]
    refine takeD 11 57 (v := ?_) rfl (by rfl) (by kernel_rfl) (by kernel_rfl) (by kernel_rfl) (fun _ _ _ h => h) (Or.inl ⟨by rfl, ?_⟩) (by assumption) ?_
    rotate_left
    · intro wq hSw
      clear hSw
      go_simp
      try with_reducible rfl
    simp only [Act.put, List.setIfInBounds_toArray, List.set_cons_zero, List.set_cons_succ]
    refine takeD 12 58 (v := ?_) rfl (by rfl) (by kernel_rfl) (by kernel_rfl) (by kernel_rfl) (fun _ _ _ h => h) (Or.inl ⟨by rfl, ?_⟩) (by assumption) ?_
    rotate_left
    · intro wq hSw
      clear hSw
      go_simp
      try with_reducible rfl
    simp only [Act.put, List.setIfInBounds_toArray, List.set_cons_zero, List.set_cons_succ]
    refine takeD 13 59 (v := ?_) rfl (by rfl) (by kernel_rfl) (by kernel_rfl) (by kernel_rfl) (fun _ _ _ h => h) (Or.inl ⟨by rfl, ?_⟩) (by assumption) ?_
    rotate_left
    · intro wq hSw
      clear hSw
      go_simp
      try with_reducible rfl
    simp only [Act.put, List.setIfInBounds_toArray, List.set_cons_zero, List.set_cons_succ]
    refine takeD 14 60 (v := ?_) rfl (by rfl) (by kernel_rfl) (by kernel_rfl) (by kernel_rfl) (fun _ _ _ h => h) (Or.inl ⟨by rfl, ?_⟩) (by assumption) ?_
    rotate_left
    · intro wq hSw
      clear hSw
      go_simp
      try with_reducible rfl
    simp only [Act.put, List.setIfInBounds_toArray, List.set_cons_zero, List.set_cons_succ]
    refine takeD 15 61 (v := ?_) rfl (by rfl) (by kernel_rfl) (by kernel_rfl) (by kernel_rfl) (fun _ _ _ h => h) (Or.inl ⟨by rfl, ?_⟩) (by assumption) ?_
    rotate_left
    · intro wq hSw
      clear hSw
      go_simp
      try with_reducible rfl
    simp only [Act.put, List.setIfInBounds_toArray, List.set_cons_zero, List.set_cons_succ]
    refine takeD 16 62 (v := ?_) rfl (by rfl) (by kernel_rfl) (by kernel_rfl) (by kernel_rfl) (fun _ _ _ h => h) (Or.inl ⟨by rfl, ?_⟩) (by assumption) ?_
    rotate_left
    · intro wq hSw
      have k0 := (hSw.cell (p := ⟨b, 1, none⟩) hbc).trans (mx_cell (j := 1) HBX.out)
      clear hSw
      go_simp
      try with_reducible rfl
    simp only [Act.put, List.setIfInBounds_toArray, List.set_cons_zero, List.set_cons_succ]
    refine takeD 17 63 (v := ?_) rfl (by rfl) (by kernel_rfl) (by kernel_rfl) (by kernel_rfl) (fun _ _ _ h => h) (Or.inl ⟨by rfl, ?_⟩) (by assumption) ?_
    rotate_left
    · intro wq hSw
      clear hSw
      go_simp
      try with_reducible rfl
    simp only [Act.put, List.setIfInBounds_toArray, List.set_cons_zero, List.set_cons_succ]
    refine takeD 18 64 (v := ?_) rfl (by rfl) (by kernel_rfl) (by kernel_rfl) (by kernel_rfl) (fun _ _ _ h => h) (Or.inl ⟨by rfl, ?_⟩) (by assumption) ?_
    rotate_left
    · intro wq hSw
      clear hSw
      go_simp
      try with_reducible rfl
    simp only [Act.put, List.setIfInBounds_toArray, List.set_cons_zero, List.set_cons_succ]
    refine takeD 19 65 (v := ?_) rfl (by rfl) (by kernel_rfl) (by kernel_rfl) (by kernel_rfl) (fun _ _ _ h => h) (Or.inl ⟨by rfl, ?_⟩) (by assumption) ?_
    rotate_left
    · intro wq hSw
      clear hSw
      go_simp
      try with_reducible rfl
    simp only [Act.put, List.setIfInBounds_toArray, List.set_cons_zero, List.set_cons_succ]
    refine takeD 20 66 (v := ?_) rfl (by rfl) (by kernel_rfl) (by kernel_rfl) (by kernel_rfl) (fun _ _ _ h => h) (Or.inl ⟨by rfl, ?_⟩) (by assumption) ?_
    rotate_left
    · intro wq hSw
      clear hSw
      go_simp
      try with_reducible rfl
    simp only [Act.put, List.setIfInBounds_toArray, List.set_cons_zero, List.set_cons_succ]
    refine takeD 21 67 (v := ?_) rfl (by rfl) (by kernel_rfl) (by kernel_rfl) (by kernel_rfl) (fun _ _ _ h => h) (Or.inl ⟨by rfl, ?_⟩) (by assumption) ?_
    rotate_left
    · intro wq hSw
      have k0 := (hSw.cell (p := ⟨b, 3, none⟩) hbc).trans (mx_cell (j := 3) HBX.out)
      clear hSw
      go_simp
      try with_reducible rfl
    simp only [Act.put, List.setIfInBounds_toArray, List.set_cons_zero, List.set_cons_succ]
    refine takeD 22 68 (v := ?_) rfl (by rfl) (by kernel_rfl) (by kernel_rfl) (by kernel_rfl) (fun _ _ _ h => h) (Or.inl ⟨by rfl, ?_⟩) (by assumption) ?_
    rotate_left
    · intro wq hSw
      clear hSw
      go_simp
      try with_reducible rfl
    simp only [Act.put, List.setIfInBounds_toArray, List.set_cons_zero, List.set_cons_succ]
    refine takeD 23 69 (v := ?_) rfl (by rfl) (by kernel_rfl) (by kernel_rfl) (by kernel_rfl) (fun _ _ _ h => h) (Or.inl ⟨by rfl, ?_⟩) (by assumption) ?_
    rotate_left
    · intro wq hSw
      clear hSw
      go_simp
      try with_reducible rfl
    simp only [Act.put, List.setIfInBounds_toArray, List.set_cons_zero, List.set_cons_succ]
    refine takeD 24 70 (v := ?_) rfl (by rfl) (by kernel_rfl) (by kernel_rfl) (by kernel_rfl) (fun _ _ _ h => h) (Or.inl ⟨by rfl, ?_⟩) (by assumption) ?_
    rotate_left
    · intro wq hSw
      clear hSw
      go_simp
      try with_reducible rfl
    simp only [Act.put, List.setIfInBounds_toArray, List.set_cons_zero, List.set_cons_succ]
    refine takeD 25 71 (v := ?_) rfl (by rfl) (by kernel_rfl) (by kernel_rfl) (by kernel_rfl) (fun _ _ _ h => h) (Or.inl ⟨by rfl, ?_⟩) (by assumption) ?_
    rotate_left
    · intro wq hSw
      clear hSw
      go_simp
      try with_reducible rfl
    simp only [Act.put, List.setIfInBounds_toArray, List.set_cons_zero, List.set_cons_succ]
    refine wpAnyH_done (by kernel_rfl) ?_ _
    go_wp2_with fail
    go_ret
    refine ⟨rfl, ⟨⟨HK0.out.del HX.out, .slice As A.store.length cst, .slice (some ⟨ga, 0, none⟩) A.all.length cl, ⟨fun g hg => ?_, .inl HM.out.inb, ?_, ?_, fun g hg => .inl (HM.out.storeb g hg), ?_, fun g hg => .inl (HM.out.allb g hg)⟩⟩, HKF.out.trans (Kept.of_below (O := O) hS) (fun i _ e => e)⟩⟩
    · rcases hg with hg | hg
      · have h1 := HM.out.own g hg
        have h2 := HKF.out.size
        have h3 := hS.size
        omega
      · exact hg.2
    · have h1 := (hS.block b hbc).trans HBX.out
      rw [HU.out, HN.out] at h1
      exact h1
    · have h1 := own_below (own_kept (own_kept HM1.out.store HK2.out (fun g hg e => by
        rw [e] at hg
        exact mx_apart HM1.out.store HM1.out.all (by decide) hg rfl)) HKX.out (fun g hg e => by
        rw [e] at hg
        exact mx_not HM1.out.store HM1.out.block (by decide) hg)) hS
      exact h1
    · have h1 := own_below (own_kept HM2.out HKX.out (fun g hg e => by
        rw [e] at hg
        exact hgab (Option.some.inj hg))) hS
      show wE.ownsRow 0 _ 4 _ (A.all.set p _).length _
      rw [List.length_set]
      exact h1
end Go.Proofs.Ytfbiaclpopjipaa
