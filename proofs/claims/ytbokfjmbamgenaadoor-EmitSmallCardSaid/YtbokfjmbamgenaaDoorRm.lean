/- salvorlaw17.plays: the walk. -/
import Derived.Test.YtbokfjmbamgenaaDoorRl
import Derived.Test.YtbokfjmbamgenaaDoorRt
import Derived.Deep.DeepCutAuto
import Derived.Deep.CutBlock
namespace Go.Proofs.YtbokfjmbamgenaaDoor
open Go.RowKit

/-- blocks that are made behind b, not of steps -/
def MutStep (b : Nat) (w : World) (g : Nat) : Prop := b ≤ g ∧ ∃ cs t, w.heap[g]? = some (.cells cs t (0, 0)) ∧ t ≠ 57
/-- two rows may be written -/
def WriTwo (u v : Value) (n m : Nat) (w : World) : Prop := (∀ g, u.ownBlock = some g → Wri w g n) ∧ ∀ g, v.ownBlock = some g → Wri w g m
theorem WriTwo.set {u v : Value} {n m : Nat} {w : World} (h : WriTwo u v n m w) (b j : Nat) (x : Value) : WriTwo u v n m (w.setCell ⟨b, j, none⟩ x) := ⟨fun g hg => (h.1 g hg).set b j x, fun g hg => (h.2 g hg).set b j x⟩
set_option maxRecDepth 100000 in
set_option maxHeartbeats 8000000 in
theorem plays_any (n : Nat) (v : Value) (al : List Call17) (w : World) (ht : TabW w) (hn : n ≤ 1048576) (ha : ActsAt w v al) (hl : al.length ≤ 30) (hf : ∀ a ∈ al, a.Fits) :
    Calls Tryd.prog 9 #[.int .i64 (n : Int), v] w fun e w' => e = .returned (.bool true) ∧ Below w.heap.size w w' := by
  obtain ⟨A, c, rfl, hc, _, hx⟩ := ha
  have HX := Lib.hid hx
  have HF := Lib.hid hf
  have HTW := Lib.hid ht
  clear hx hf ht
  obtain ⟨B, hB⟩ : ∃ B, w.heap.size = B := ⟨_, rfl⟩
  obtain ⟨b, hb0⟩ : ∃ b, B + 1 = b := ⟨_, rfl⟩
  have HBW := Lib.hid hB
  go_enter Tryd.func9, Tryd.ntmps9
  go_wp2_with fail
  refine (new_in n w hn).mono ?_
  rintro e w1 ⟨rfl, hl1, hb1⟩
  rw [hB, hb0] at hl1
  rw [hB] at hb1
  rw [hB, hb0]
  have hz1 := hb1.size
  rw [hB] at hz1
  have HL1 := Lib.hid hl1
  have HB1 := Lib.hid hb1
  clear hl1 hb1 hB
  go_wp2_with fail
  refine (ref_new n w1 hn).mono ?_
  rintro e w2 ⟨tv, rfl, hr2, hb2⟩
  obtain ⟨At0, ct0, htv, _, _, _⟩ := hr2.1
  simp only [] at htv
  subst htv
  have hz2 := hb2.size
  have HR2 := Lib.hid hr2
  have HB2 := Lib.hid hb2
  clear hr2 hb2
  unfold rVal
  go_wp2_with fail
  obtain ⟨p7, hp7⟩ : ∃ p, w2.heap.size = p := ⟨_, rfl⟩
  obtain ⟨wb, hwb⟩ : ∃ x, w2.alloc (.cells #[.slice At0 (thereL n).length ct0, .int .i64 (n : Int), .slice none 0 0, .bool false] 62) = x := ⟨_, rfl⟩
  have hba := below_al w2 (.cells #[.slice At0 (thereL n).length ct0, .int .i64 (n : Int), .slice none 0 0, .bool false] 62)
  have hbn := World.alloc_heap_new w2 (.cells #[.slice At0 (thereL n).length ct0, .int .i64 (n : Int), .slice none 0 0, .bool false] 62)
  have hzz : (w2.alloc (.cells #[.slice At0 (thereL n).length ct0, .int .i64 (n : Int), .slice none 0 0, .bool false] 62)).heap.size = w2.heap.size + 1 := by simp
  rw [hwb] at hba hbn hzz ⊢
  rw [hp7] at hbn ⊢
  have hb12 : Below w1.heap.size w1 wb := HB2.out.trans (hba.mono hz2)
  have h0 : PlayInv B p7 b w 0 wb := by
    refine ⟨_, newLog n, ⟨thereL n, n, [], false⟩, .slice At0 (thereL n).length ct0, .slice none 0 0, HL1.out.fresh hb12, alike_new n hn, within_new n 20, .inr ⟨by omega, by omega⟩, hbn, ?_, fun g hg => ?_, ?_⟩
    · obtain ⟨t1, ms0, t2⟩ := HR2.out
      have hlt : ∀ g, w1.heap.size ≤ g ∧ g < w2.heap.size → g < B ∨ (False ∨ w1.heap.size ≤ g ∧ g < wb.heap.size) ∧ g ≠ p7 := fun g hg => .inr ⟨.inr ⟨hg.1, by omega⟩, by omega⟩
      exact RLogAt.below ⟨(ints_lt t1).mono hlt, ms0, (rsteps_lt t2).mono hlt⟩ hba
    · have := HL1.out.size
      rcases hg with hg | hg
      · exact hg.elim
      · omega
    · exact HB1.out.trans (hb12.mono hz1)
  have H0 := Lib.hid h0
  clear h0 hb12 hzz hbn hba hwb hp7 HR2 HB2 HL1 HB1 hz1 hz2 hb0
  go_loopw [51] (fun i wr => ∃ k : Nat, k ≤ al.length ∧ i = .int .i64 k ∧ Hid (PlayInv B p7 b w k wr)) (fun i _ => al.length - (intOf i).toNat)
  case atStart => exact ⟨0, Nat.zero_le _, rfl, H0⟩
  case round =>
    obtain ⟨k, hk, rfl, HP⟩ := hrel
    obtain ⟨X, L, R, tv, stv, hP⟩ := HP.out
    clear HP
    have hBr := hP.log.size
    obtain ⟨⟨At, ct, htv, _, _, _⟩, ms, hms⟩ := hP.ref
    obtain ⟨As, cs, hsv, y1, y2⟩ := hms.form
    clear y1 y2
    obtain ⟨Z, hZ⟩ : ∃ Z, ms.length = Z := ⟨_, rfl⟩
    rw [hZ] at hsv
    subst htv
    subst hsv
    clear hms hZ ms
    have HP := Lib.hid hP
    have hp7r := (hP.lim p7 hP.inx).2
    by_cases hlt : k < al.length
    · obtain ⟨a, hak⟩ := getElem_of hlt
      obtain ⟨g, o, lv, iv, rfl, hg, e0, e1, e2, hlv, hiv⟩ := HX.out k a hak
      have hfit := HF.out a (List.mem_of_getElem? hak)
      have hbr := hP.below
      rw [← HBW.out] at hbr
      have d0 := (hbr.cell (p := ⟨g, o + k * 3, none⟩) hg).trans e0
      have d1 := (hbr.cell (p := ⟨g, o + k * 3 + 1, none⟩) hg).trans e1
      have d2 := (hbr.cell (p := ⟨g, o + k * 3 + 2, none⟩) hg).trans e2
      obtain ⟨fg, lits, ids⟩ := a
      simp only [Call17.Fits] at hfit d0 d1 d2 hlv hiv
      have HLV := Lib.hid hlv
      have HIV := Lib.hid hiv
      obtain ⟨Al, cl, rfl, _, _⟩ := hlv
      obtain ⟨Ai, ci, rfl, _, _⟩ := hiv
      obtain ⟨hf1, hf2⟩ := hfit
      clear hP hbr e0 e1 e2 hak
      go_upto_region 10 with fail
      obtain ⟨a9, ha9⟩ : ∃ p, wr.heap.size = p := ⟨_, rfl⟩
      obtain ⟨wa, hwa⟩ : ∃ x, wr.alloc (.cells #[.bool fg, .slice Al lits.length cl, .slice Ai ids.length ci] 28) = x := ⟨_, rfl⟩
      have hba : Below wr.heap.size wr wa := by rw [← hwa]; exact below_al _ _
      have hsa : wa.heap[a9]? = some (.cells #[.bool fg, .slice Al lits.length cl, .slice Ai ids.length ci] 28 (0, 0)) := by rw [← hwa, ← ha9]; exact World.alloc_heap_new _ _
      have hza : wa.heap.size = a9 + 1 := by rw [← hwa, ← ha9]; simp
      rw [hwa, ha9]
      have q0 : wa.cell? ⟨a9, 0, none⟩ = some (.bool fg) := cell_of_block (j := 0) hsa
      have q1 : wa.cell? ⟨a9, 1, none⟩ = some (.slice Al lits.length cl) := cell_of_block (j := 1) hsa
      have q2 : wa.cell? ⟨a9, 2, none⟩ = some (.slice Ai ids.length ci) := cell_of_block (j := 2) hsa
      have HBA := Lib.hid hba
      clear hwa hba hsa d0 d1 d2
      refine wp_region_held_drew (S := fun w' => w'.cell? ⟨a9, 0, none⟩ = some (.bool fg) ∧ w'.cell? ⟨a9, 1, none⟩ = some (.slice Al lits.length cl) ∧ w'.cell? ⟨a9, 2, none⟩ = some (.slice Ai ids.length ci)) (by kernel_rfl) ⟨q0, q1, q2⟩ (fun hHeld => ?_)
      obtain ⟨wD, hwD⟩ : ∃ x, wa.drew = x := ⟨_, rfl⟩
      have hbD : Below wa.heap.size wa wD := by rw [← hwD]; exact below_drew' wa
      rw [hwD] at hHeld ⊢
      have hzD : wD.heap.size = a9 + 1 := by rw [← hwD]; exact hza
      have HBD := Lib.hid (HBA.out.trans (hbD.mono HBA.out.size))
      clear hwD hbD q0 q1 q2
      refine takeD 0 55 (v := ?_) rfl (by rfl) (by kernel_rfl) (by kernel_rfl) (by kernel_rfl) (fun _ _ _ h => h) (Or.inl ⟨by rfl, ?_⟩) (by assumption) ?_
      rotate_left
      · intro w hSw
        obtain ⟨_, _, _⟩ := hSw
        go_simp
        try with_reducible rfl
      simp only [Act.put, List.setIfInBounds_toArray, List.set_cons_zero, List.set_cons_succ]
      refine takeD 1 56 (v := ?_) rfl (by rfl) (by kernel_rfl) (by kernel_rfl) (by kernel_rfl) (fun _ _ _ h => h) (Or.inl ⟨by rfl, ?_⟩) (by assumption) ?_
      rotate_left
      · intro w hSw
        obtain ⟨_, _, _⟩ := hSw
        go_simp
        try with_reducible rfl
      simp only [Act.put, List.setIfInBounds_toArray, List.set_cons_zero, List.set_cons_succ]
      refine takeD 3 58 (v := ?_) rfl (by rfl) (by kernel_rfl) (by kernel_rfl) (by kernel_rfl) (fun _ _ _ h => h) (Or.inl ⟨by rfl, ?_⟩) (by assumption) ?_
      rotate_left
      · intro w hSw
        obtain ⟨_, _, _⟩ := hSw
        go_simp
        try with_reducible rfl
      simp only [Act.put, List.setIfInBounds_toArray, List.set_cons_zero, List.set_cons_succ]
      refine takeD 4 59 (v := ?_) rfl (by rfl) (by kernel_rfl) (by kernel_rfl) (by kernel_rfl) (fun _ _ _ h => h) (Or.inl ⟨by rfl, ?_⟩) (by assumption) ?_
      rotate_left
      · intro w hSw
        obtain ⟨_, _, _⟩ := hSw
        go_simp
        try with_reducible rfl
      simp only [Act.put, List.setIfInBounds_toArray, List.set_cons_zero, List.set_cons_succ]
      refine wpAnyH_ready (rs := [2]) (by kernel_rfl) (by simp) ?_
      refine AllReadyH.cons rfl (fun K hK => ?_) AllReadyH.nil
      go_simp
      have hin : ∀ W, Below wr.heap.size wr W → Below w.heap.size w W := fun W h => by rw [HBW.out]; exact HP.out.below.trans (h.mono hBr)
      refine (clone_c _ lits wD ((HLV.out.below (hin wD HBD.out)).ints) (by omega)).mono ?_
      rintro e wE ⟨cv, rfl, hoc, hbE⟩
      obtain ⟨Ac, cc, hcv, _⟩ := own_slice hoc
      subst hcv
      have hzE := hbE.size
      have HOC := Lib.hid hoc
      have HBE := Lib.hid (HBD.out.trans (hbE.mono HBD.out.size))
      refine hK.out _ _ ⟨(hbE.cell (p := ⟨a9, 0, none⟩) (by show a9 < _; omega)).trans hHeld.1, (hbE.cell (p := ⟨a9, 1, none⟩) (by show a9 < _; omega)).trans hHeld.2.1, (hbE.cell (p := ⟨a9, 2, none⟩) (by show a9 < _; omega)).trans hHeld.2.2⟩ (fun hHeld1 => ?_)
      clear hK hHeld hoc hbE
      have hHeld := hHeld1
      clear hHeld1
      refine wpAnyH_ready (rs := [5]) (by kernel_rfl) (by simp) ?_
      refine AllReadyH.cons rfl (fun K hK => ?_) AllReadyH.nil
      go_simp
      refine (clone_i _ ids wE ((HIV.out.below (hin wE HBE.out)).ints) (by omega)).mono ?_
      rintro e wF ⟨iv, rfl, hoi, hbF⟩
      obtain ⟨Aj, cj, hiv, _⟩ := own_slice hoi
      subst hiv
      have hzF := hbF.size
      have HOI := Lib.hid hoi
      have HBF := Lib.hid (HBE.out.trans (hbF.mono HBE.out.size))
      have HOC := Lib.hid (own_below HOC.out hbF)
      refine hK.out _ _ ⟨(hbF.cell (p := ⟨a9, 0, none⟩) (by show a9 < _; omega)).trans hHeld.1, (hbF.cell (p := ⟨a9, 1, none⟩) (by show a9 < _; omega)).trans hHeld.2.1, (hbF.cell (p := ⟨a9, 2, none⟩) (by show a9 < _; omega)).trans hHeld.2.2⟩ (fun hHeld1 => ?_)
      clear hK hHeld hoi hbF
      have hHeld := hHeld1
      clear hHeld1
      refine takeD 6 10 (v := ?_) rfl (by rfl) (by kernel_rfl) (by kernel_rfl) (by kernel_rfl) (fun _ _ _ h => h) (Or.inl ⟨by rfl, ?_⟩) (by assumption) ?_
      rotate_left
      · intro w hSw
        obtain ⟨_, _, _⟩ := hSw
        go_simp
        try with_reducible rfl
      simp only [Act.put, List.setIfInBounds_toArray, List.set_cons_zero, List.set_cons_succ]
      refine takeD 7 11 (v := ?_) rfl (by rfl) (by kernel_rfl) (by kernel_rfl) (by kernel_rfl) (fun _ _ _ h => h) (Or.inl ⟨by rfl, ?_⟩) (by assumption) ?_
      rotate_left
      · intro w hSw
        obtain ⟨_, _, _⟩ := hSw
        go_simp
        try with_reducible rfl
      simp only [Act.put, List.setIfInBounds_toArray, List.set_cons_zero, List.set_cons_succ]
      refine wpAnyH_done (by kernel_rfl) ?_ _
      have hPF := HP.out.next HBF.out
      have HPF := Lib.hid hPF
      obtain ⟨h90, h91, h92⟩ := hHeld
      have ha9F : a9 < wF.heap.size := by omega
      clear hPF
      go_upto_if 62 with fail
      go_cut [6, 12, 13, 14] (fun s6 s12 s13 s14 wx => ∃ (num : Int) (err : Nat), s6 = .int .i64 err ∧ s12 = .int .i64 num ∧ s13 = .int .i64 num ∧ s14 = .int .i64 err ∧ Hid (∃ (X2 : Nat → Prop) (L2 : ELog) (R2 : RLog) (tv2 stv2 : Value), Play B p7 b w (k + 1) X2 L2 R2 tv2 stv2 wx ∧ RLogAt (fun g => g < B ∨ X2 g ∧ g ≠ p7 ∧ ¬ (a9 ≤ g ∧ g < wF.heap.size)) wx tv2 stv2 R2 ∧ (∀ g, a9 ≤ g → g < wF.heap.size → X2 g) ∧ Kept (fun g => B ≤ g ∧ g < a9) wF wx))
      case first =>
        rcases fg with _ | _
        · -- Learn
          have hXF : ∀ g, X g ∨ wr.heap.size ≤ g ∧ g < wF.heap.size → g < wF.heap.size := fun g h => (HPF.out.lim g h).2
          have hwf : ∀ x ∈ ids, (Lit.int .i64 x).wf = true := by
            obtain ⟨_, _, _, _, _, _, hw, _⟩ := HIV.out
            exact hw
          have hII : IntsIn (fun g => wF.heap.size ≤ g ∨ g < B ∨ (X g ∨ wr.heap.size ≤ g ∧ g < wF.heap.size)) wF (.slice Aj ids.length cj) ids := (ints_lt (IntsIn.of_own HOI.out)).mono (fun g hg => .inr (.inr (.inr ⟨by have := hg.1.1; omega, hg.2⟩)))
          have hIC : IntsIn (fun g => wF.heap.size ≤ g ∨ g < B ∨ (X g ∨ wr.heap.size ≤ g ∧ g < wF.heap.size)) wF (.slice Ac lits.length cc) lits := (ints_lt (IntsIn.of_own HOC.out)).mono (fun g hg => .inr (.inr (.inr ⟨by have := hg.1.1; omega, hg.2⟩)))
          have HCL := Lib.hid (learn_in B b L _ _ lits ids wF wF HPF.out.log (Below.refl _ _) hXF hIC hII (by omega) (by omega) hwf)
          clear hII hIC hwf hXF
          go_wp2_with fail
          refine HCL.out.mono ?_
          rintro e wG ⟨rfl, hlG, hkG⟩
          clear HCL
          have hzG := hkG.size
          have hbG := (hkG.block p7 (by omega) (fun hh => hh.2.2 (.inl HP.out.inx))).trans HPF.out.block
          have hn9 : ¬ (B ≤ a9 ∧ a9 < wF.heap.size ∧ ¬ (X a9 ∨ wr.heap.size ≤ a9 ∧ a9 < wF.heap.size)) := fun hh => hh.2.2 (.inr ⟨by omega, ha9F⟩)
          have k1 := (hkG.cell (p := ⟨a9, 1, none⟩) ha9F hn9).trans h91
          have k2 := (hkG.cell (p := ⟨a9, 2, none⟩) ha9F hn9).trans h92
          have k0 := (hkG.cell (p := ⟨a9, 0, none⟩) ha9F hn9).trans h90
          have hRG : RLogAt (fun g => g < B ∨ X g ∧ g ≠ p7) wG (.slice At R.there.length ct) (.slice As Z cs) R := (HP.out.ref.below HBF.out).kept hkG (fun g hg hh => hg.elim (fun h => by omega) (fun h => hh.2.2 (.inl h.1)))
          have hwG : Below w.heap.size w wG := (hin wF HBF.out).trans (by rw [HBW.out]; exact hkG.below (fun g hg => hg.1) (by omega))
          have HLG := Lib.hid hlG
          have HKG := Lib.hid hkG
          have HRG := Lib.hid hRG
          have HBG := Lib.hid hbG
          have HWG := Lib.hid hwG
          clear hlG hkG hRG hbG hwG hn9 h90 h91 h92
          go_wp2_with fail
          refine wp_region_held_drew (S := fun w' => w'.cell? ⟨a9, 0, none⟩ = some (.bool false) ∧ w'.cell? ⟨a9, 1, none⟩ = some (.slice Al lits.length cl) ∧ w'.cell? ⟨a9, 2, none⟩ = some (.slice Ai ids.length ci)) (by kernel_rfl) ⟨k0, k1, k2⟩ (fun hHeld => ?_)
          obtain ⟨wJ, hwJ⟩ : ∃ x, wG.drew = x := ⟨_, rfl⟩
          have hbJ : Below wG.heap.size wG wJ := by rw [← hwJ]; exact below_drew' wG
          rw [hwJ] at hHeld ⊢
          have hzJ : wJ.heap.size = wG.heap.size := by rw [← hwJ]; rfl
          have HBwJ := Lib.hid hbJ
          clear hwJ hbJ k0 k1 k2
          refine takeD 1 86 (v := ?_) rfl (by rfl) (by kernel_rfl) (by kernel_rfl) (by kernel_rfl) (fun _ _ _ h => h) (Or.inl ⟨by rfl, ?_⟩) (by assumption) ?_
          rotate_left
          · intro w hSw
            obtain ⟨_, _, _⟩ := hSw
            go_simp
            try with_reducible rfl
          simp only [Act.put, List.setIfInBounds_toArray, List.set_cons_zero, List.set_cons_succ]
          refine takeD 2 87 (v := ?_) rfl (by rfl) (by kernel_rfl) (by kernel_rfl) (by kernel_rfl) (fun _ _ _ h => h) (Or.inl ⟨by rfl, ?_⟩) (by assumption) ?_
          rotate_left
          · intro w hSw
            obtain ⟨_, _, _⟩ := hSw
            go_simp
            try with_reducible rfl
          simp only [Act.put, List.setIfInBounds_toArray, List.set_cons_zero, List.set_cons_succ]
          refine takeD 4 89 (v := ?_) rfl (by rfl) (by kernel_rfl) (by kernel_rfl) (by kernel_rfl) (fun _ _ _ h => h) (Or.inl ⟨by rfl, ?_⟩) (by assumption) ?_
          rotate_left
          · intro w hSw
            obtain ⟨_, _, _⟩ := hSw
            go_simp
            try with_reducible rfl
          simp only [Act.put, List.setIfInBounds_toArray, List.set_cons_zero, List.set_cons_succ]
          refine takeD 5 90 (v := ?_) rfl (by rfl) (by kernel_rfl) (by kernel_rfl) (by kernel_rfl) (fun _ _ _ h => h) (Or.inl ⟨by rfl, ?_⟩) (by assumption) ?_
          rotate_left
          · intro w hSw
            obtain ⟨_, _, _⟩ := hSw
            go_simp
            try with_reducible rfl
          simp only [Act.put, List.setIfInBounds_toArray, List.set_cons_zero, List.set_cons_succ]
          refine wpAnyH_ready (rs := [0, 3]) (by kernel_rfl) (by simp) ?_
          refine AllReadyH.cons rfl (fun K hK => ?_) (AllReadyH.cons rfl (fun K hK => ?_) AllReadyH.nil)
          · -- the load first
            have hbq := (HBwJ.out.block p7 (by omega)).trans HBG.out
            have p0 : wJ.cell? ⟨p7, 0, none⟩ = some (.slice At R.there.length ct) := cell_of_block (j := 0) hbq
            have fp0 := free_of_block (j := 0) hbq
            have p1 : wJ.cell? ⟨p7, 1, none⟩ = some (.int .i64 R.last) := cell_of_block (j := 1) hbq
            have fp1 := free_of_block (j := 1) hbq
            have p2 : wJ.cell? ⟨p7, 2, none⟩ = some (.slice As Z cs) := cell_of_block (j := 2) hbq
            have fp2 := free_of_block (j := 2) hbq
            have p3 : wJ.cell? ⟨p7, 3, none⟩ = some (.bool R.done) := cell_of_block (j := 3) hbq
            have fp3 := free_of_block (j := 3) hbq
            go_simp
            refine hK.out _ _ hHeld (fun hHeld1 => ?_)
            clear hK hHeld1 hbq p0 p1 p2 p3 fp0 fp1 fp2 fp3
            refine wpAnyH_ready (rs := [3]) (by kernel_rfl) (by simp) ?_
            refine AllReadyH.cons rfl (fun K hK => ?_) AllReadyH.nil
            go_simp
            refine (ints08 _ lits wJ ((HLV.out.ints.below HWG.out).below HBwJ.out) (by omega)).mono ?_
            rintro e x1 ⟨vI, rfl, hoI, hbn⟩
            obtain ⟨AI, cI, hvI, _⟩ := own_slice hoI
            subst hvI
            have hzx1 := hbn.size
            have HOI2 := Lib.hid ((IntsIn.of_own hoI).mono (O' := fun g => wG.heap.size ≤ g) (fun g hg => by have := hg.1; have := HBwJ.out.size; omega))
            have HBx1 := Lib.hid (HBwJ.out.trans (hbn.mono HBwJ.out.size))
            refine hK.out _ _ ⟨(hbn.cell (p := ⟨a9, 0, none⟩) (by show a9 < _; omega)).trans hHeld.1, (hbn.cell (p := ⟨a9, 1, none⟩) (by show a9 < _; omega)).trans hHeld.2.1, (hbn.cell (p := ⟨a9, 2, none⟩) (by show a9 < _; omega)).trans hHeld.2.2⟩ (fun hHeld1 => ?_)
            clear hK hHeld hoI hbn
            have hHeld := hHeld1
            clear hHeld1
            refine wpAnyH_ready (rs := [6]) (by kernel_rfl) (by simp) ?_
            refine AllReadyH.cons rfl (fun K hK => ?_) AllReadyH.nil
            go_simp
            refine (clone_i _ ids x1 ((HIV.out.ints.below HWG.out).below HBx1.out) (by omega)).mono ?_
            rintro e x2 ⟨vJ, rfl, hoJ, hbn⟩
            obtain ⟨AJ, cJ, hvJ, _⟩ := own_slice hoJ
            subst hvJ
            have hzx2 := hbn.size
            have HOJ2 := Lib.hid ((IntsIn.of_own hoJ).mono (O' := fun g => wG.heap.size ≤ g) (fun g hg => by have := hg.1; have := HBx1.out.size; omega))
            have HOI2 := Lib.hid (HOI2.out.below hbn)
            have HBx2 := Lib.hid (HBx1.out.trans (hbn.mono HBx1.out.size))
            refine hK.out _ _ ⟨(hbn.cell (p := ⟨a9, 0, none⟩) (by show a9 < _; omega)).trans hHeld.1, (hbn.cell (p := ⟨a9, 1, none⟩) (by show a9 < _; omega)).trans hHeld.2.1, (hbn.cell (p := ⟨a9, 2, none⟩) (by show a9 < _; omega)).trans hHeld.2.2⟩ (fun hHeld1 => ?_)
            clear hK hHeld hoJ hbn
            have hHeld := hHeld1
            clear hHeld1
            refine wpAnyH_ready (rs := [7]) (by kernel_rfl) (by simp) ?_
            refine AllReadyH.cons rfl (fun K hK => ?_) AllReadyH.nil
            go_simp
            have hrl := ref_learn (O := fun g => g < B ∨ X g ∧ g ≠ p7) (Oc := fun g => wG.heap.size ≤ g) (Oh := fun g => wG.heap.size ≤ g) (.slice At R.there.length ct) (.slice As Z cs) (.slice AI lits.length cI) (.slice AJ ids.length cJ) R lits ids x2 (HRG.out.below HBx2.out) HOI2.out HOJ2.out (by omega) (by omega) (by rw [HP.out.alike.last]; omega) (by rw [HP.out.alike.last]; have := HP.out.alike.inv.last; omega) (by have h1 := HP.out.alike.cnt; have h2 := HP.out.alike.inv.cnt; have h3 := HP.out.alike.inv.last; omega) (by rw [HP.out.alike.steps]; have := HP.out.within.steps; omega)
            unfold rVal at hrl
            refine hrl.mono ?_
            rintro e wH ⟨tv2, stv2, rfl, hr2, hbn⟩
            clear hrl
            rw [alike_learnNum HP.out.alike lits ids, alike_learnErr HP.out.alike lits ids]
            have hal2 := alike_learn HP.out.alike lits ids
            obtain ⟨R2, hR2⟩ : ∃ x, refLog R lits ids = x := ⟨_, rfl⟩
            rw [hR2] at hr2 hal2 ⊢
            have hzH := hbn.size
            have hzW := HBx2.out.size
            have hrH : RLogAt (fun g => g < B ∨ X g ∧ g ≠ p7 ∨ wG.heap.size ≤ g) wH tv2 stv2 R2 := hr2.mono (fun g hg => by
              rcases hg with (h | h) | h | h | h
              · exact .inl h
              · exact .inr (.inl h)
              · exact .inr (.inr h)
              · exact .inr (.inr h)
              · exact .inr (.inr (by omega)))
            have HAL := Lib.hid hal2
            have HBH := Lib.hid (HBx2.out.trans (hbn.mono HBx2.out.size))
            have hbP := (HBH.out.block p7 (by omega)).trans HBG.out
            clear hR2 hal2
            obtain ⟨⟨At2, ct2, htv2, _, _, _⟩, ms2, hms2⟩ := hr2
            obtain ⟨As2, cs2, hsv2, y1, y2⟩ := hms2.form
            clear y1 y2
            obtain ⟨Z2, hZ2⟩ : ∃ Z, ms2.length = Z := ⟨_, rfl⟩
            rw [hZ2] at hsv2
            subst htv2
            subst hsv2
            clear hms2 hZ2 ms2
            have HRH := Lib.hid hrH
            clear hrH
            have HBP := Lib.hid hbP
            clear hbP
            unfold rVal
            refine hK.out _ _ ⟨(hbn.cell (p := ⟨a9, 0, none⟩) (by show a9 < _; omega)).trans hHeld.1, (hbn.cell (p := ⟨a9, 1, none⟩) (by show a9 < _; omega)).trans hHeld.2.1, (hbn.cell (p := ⟨a9, 2, none⟩) (by show a9 < _; omega)).trans hHeld.2.2⟩ (fun hHeld1 => ?_)
            clear hK hHeld hbn
            have hHeld := hHeld1
            clear hHeld1
            refine takeD 8 84 (v := ?_) rfl (by rfl) (by kernel_rfl) (by kernel_rfl) (by kernel_rfl) (fun _ _ _ h => h) (Or.inl ⟨by rfl, ?_⟩) (by assumption) ?_
            rotate_left
            · intro w hSw
              obtain ⟨_, _, _⟩ := hSw
              go_simp
              try with_reducible rfl
            simp only [Act.put, List.setIfInBounds_toArray, List.set_cons_zero, List.set_cons_succ]
            refine takeD 9 93 (v := ?_) rfl (by rfl) (by kernel_rfl) (by kernel_rfl) (by kernel_rfl) (fun _ _ _ h => h) (Or.inl ⟨by rfl, ?_⟩) (by assumption) ?_
            rotate_left
            · intro w hSw
              obtain ⟨_, _, _⟩ := hSw
              go_simp
              try with_reducible rfl
            simp only [Act.put, List.setIfInBounds_toArray, List.set_cons_zero, List.set_cons_succ]
            refine takeD 10 94 (v := ?_) rfl (by rfl) (by kernel_rfl) (by kernel_rfl) (by kernel_rfl) (fun _ _ _ h => h) (Or.inl ⟨by rfl, ?_⟩) (by assumption) ?_
            rotate_left
            · intro w hSw
              obtain ⟨_, _, _⟩ := hSw
              go_simp
              try with_reducible rfl
            simp only [Act.put, List.setIfInBounds_toArray, List.set_cons_zero, List.set_cons_succ]
            refine takeD 11 95 (v := ?_) rfl (by rfl) (by kernel_rfl) (by kernel_rfl) (by kernel_rfl) (fun _ _ _ h => h) (Or.inl ⟨by rfl, ?_⟩) (by assumption) ?_
            rotate_left
            · intro w hSw
              obtain ⟨_, _, _⟩ := hSw
              go_simp
              try with_reducible rfl
            simp only [Act.put, List.setIfInBounds_toArray, List.set_cons_zero, List.set_cons_succ]
            have p0 : wH.cell? ⟨p7, 0, none⟩ = some (.slice At R.there.length ct) := cell_of_block (j := 0) HBP.out
            have fp0 := free_of_block (j := 0) HBP.out
            have p1 : wH.cell? ⟨p7, 1, none⟩ = some (.int .i64 R.last) := cell_of_block (j := 1) HBP.out
            have fp1 := free_of_block (j := 1) HBP.out
            have p2 : wH.cell? ⟨p7, 2, none⟩ = some (.slice As Z cs) := cell_of_block (j := 2) HBP.out
            have fp2 := free_of_block (j := 2) HBP.out
            have p3 : wH.cell? ⟨p7, 3, none⟩ = some (.bool R.done) := cell_of_block (j := 3) HBP.out
            have fp3 := free_of_block (j := 3) HBP.out
            refine wpAnyH_ready (rs := [12]) (by kernel_rfl) (by simp) ?_
            refine AllReadyH.cons rfl (fun K hK => ?_) AllReadyH.nil
            go_simp
            obtain ⟨wI, hwI⟩ : ∃ x, ((((wH.setCell ⟨p7, 0, none⟩ (.slice At2 R2.there.length ct2)).setCell ⟨p7, 1, none⟩ (.int .i64 R2.last)).setCell ⟨p7, 2, none⟩ (.slice As2 Z2 cs2)).setCell ⟨p7, 3, none⟩ (.bool R2.done)) = x := ⟨_, rfl⟩
            have hki : Kept (fun g => g = p7) wH wI := by rw [← hwI]; exact ((((Kept.refl (fun g => g = p7) wH).setCell ⟨p7, 0, none⟩ _ rfl).setCell ⟨p7, 1, none⟩ _ rfl).setCell ⟨p7, 2, none⟩ _ rfl).setCell ⟨p7, 3, none⟩ _ rfl
            rw [hwI]
            have HWI := Lib.hid hwI
            refine hK.out _ _ ⟨(hki.cell (p := ⟨a9, 0, none⟩) (by show a9 < _; omega) (by show ¬ a9 = p7; omega)).trans hHeld.1, (hki.cell (p := ⟨a9, 1, none⟩) (by show a9 < _; omega) (by show ¬ a9 = p7; omega)).trans hHeld.2.1, (hki.cell (p := ⟨a9, 2, none⟩) (by show a9 < _; omega) (by show ¬ a9 = p7; omega)).trans hHeld.2.2⟩ (fun hHeld1 => ?_)
            clear hK hHeld p0 p1 p2 p3 fp0 fp1 fp2 fp3 hki hwI
            have hHeld := hHeld1
            clear hHeld1
            refine takeD 13 13 (v := ?_) rfl (by rfl) (by kernel_rfl) (by kernel_rfl) (by kernel_rfl) (fun _ _ _ h => h) (Or.inl ⟨by rfl, ?_⟩) (by assumption) ?_
            rotate_left
            · intro w hSw
              obtain ⟨_, _, _⟩ := hSw
              go_simp
              try with_reducible rfl
            simp only [Act.put, List.setIfInBounds_toArray, List.set_cons_zero, List.set_cons_succ]
            refine takeD 14 14 (v := ?_) rfl (by rfl) (by kernel_rfl) (by kernel_rfl) (by kernel_rfl) (fun _ _ _ h => h) (Or.inl ⟨by rfl, ?_⟩) (by assumption) ?_
            rotate_left
            · intro w hSw
              obtain ⟨_, _, _⟩ := hSw
              go_simp
              try with_reducible rfl
            simp only [Act.put, List.setIfInBounds_toArray, List.set_cons_zero, List.set_cons_succ]
            refine wpAnyH_done (by kernel_rfl) ?_ _
            clear hHeld
            go_wp2_with fail
            rw [← HWI.out]
            go_meet
            have hm := play_mid HPF.out (fun g h1 h2 => .inr ⟨h1, h2⟩) (fun g h => .inl h) (fun g h => (HP.out.lim g h).2) hp7r HBF.out.size (fun g h1 h2 h3 => Nat.lt_of_not_le (fun h4 => h3 (.inr ⟨h4, h2⟩))) HLG.out HKG.out HBH.out HRH.out HAL.out (within_learn HP.out.within lits ids hf2)
            obtain ⟨X2, m1, m2, m3, m4⟩ := hm
            rw [ha9] at m2 m3 m4
            exact ⟨learnNum L lits ids, learnErr L lits ids, rfl, rfl, rfl, rfl, Lib.hid ⟨X2, _, _, _, _, m1, m2, m3, m4⟩⟩
          · -- the numbers first
            go_simp
            refine (ints08 _ lits wJ ((HLV.out.ints.below HWG.out).below HBwJ.out) (by omega)).mono ?_
            rintro e x1 ⟨vI, rfl, hoI, hbn⟩
            obtain ⟨AI, cI, hvI, _⟩ := own_slice hoI
            subst hvI
            have hzx1 := hbn.size
            have HOI2 := Lib.hid ((IntsIn.of_own hoI).mono (O' := fun g => wG.heap.size ≤ g) (fun g hg => by have := hg.1; have := HBwJ.out.size; omega))
            have HBx1 := Lib.hid (HBwJ.out.trans (hbn.mono HBwJ.out.size))
            refine hK.out _ _ ⟨(hbn.cell (p := ⟨a9, 0, none⟩) (by show a9 < _; omega)).trans hHeld.1, (hbn.cell (p := ⟨a9, 1, none⟩) (by show a9 < _; omega)).trans hHeld.2.1, (hbn.cell (p := ⟨a9, 2, none⟩) (by show a9 < _; omega)).trans hHeld.2.2⟩ (fun hHeld1 => ?_)
            clear hK hHeld hoI hbn
            have hHeld := hHeld1
            clear hHeld1
            refine wpAnyH_ready (rs := [0, 6]) (by kernel_rfl) (by simp) ?_
            refine AllReadyH.cons rfl (fun K hK => ?_) (AllReadyH.cons rfl (fun K hK => ?_) AllReadyH.nil)
            · -- then the load
              have hbq := (HBx1.out.block p7 (by omega)).trans HBG.out
              have p0 : x1.cell? ⟨p7, 0, none⟩ = some (.slice At R.there.length ct) := cell_of_block (j := 0) hbq
              have fp0 := free_of_block (j := 0) hbq
              have p1 : x1.cell? ⟨p7, 1, none⟩ = some (.int .i64 R.last) := cell_of_block (j := 1) hbq
              have fp1 := free_of_block (j := 1) hbq
              have p2 : x1.cell? ⟨p7, 2, none⟩ = some (.slice As Z cs) := cell_of_block (j := 2) hbq
              have fp2 := free_of_block (j := 2) hbq
              have p3 : x1.cell? ⟨p7, 3, none⟩ = some (.bool R.done) := cell_of_block (j := 3) hbq
              have fp3 := free_of_block (j := 3) hbq
              go_simp
              refine hK.out _ _ hHeld (fun hHeld1 => ?_)
              clear hK hHeld1 hbq p0 p1 p2 p3 fp0 fp1 fp2 fp3
              refine wpAnyH_ready (rs := [6]) (by kernel_rfl) (by simp) ?_
              refine AllReadyH.cons rfl (fun K hK => ?_) AllReadyH.nil
              go_simp
              refine (clone_i _ ids x1 ((HIV.out.ints.below HWG.out).below HBx1.out) (by omega)).mono ?_
              rintro e x2 ⟨vJ, rfl, hoJ, hbn⟩
              obtain ⟨AJ, cJ, hvJ, _⟩ := own_slice hoJ
              subst hvJ
              have hzx2 := hbn.size
              have HOJ2 := Lib.hid ((IntsIn.of_own hoJ).mono (O' := fun g => wG.heap.size ≤ g) (fun g hg => by have := hg.1; have := HBx1.out.size; omega))
              have HOI2 := Lib.hid (HOI2.out.below hbn)
              have HBx2 := Lib.hid (HBx1.out.trans (hbn.mono HBx1.out.size))
              refine hK.out _ _ ⟨(hbn.cell (p := ⟨a9, 0, none⟩) (by show a9 < _; omega)).trans hHeld.1, (hbn.cell (p := ⟨a9, 1, none⟩) (by show a9 < _; omega)).trans hHeld.2.1, (hbn.cell (p := ⟨a9, 2, none⟩) (by show a9 < _; omega)).trans hHeld.2.2⟩ (fun hHeld1 => ?_)
              clear hK hHeld hoJ hbn
              have hHeld := hHeld1
              clear hHeld1
              refine wpAnyH_ready (rs := [7]) (by kernel_rfl) (by simp) ?_
              refine AllReadyH.cons rfl (fun K hK => ?_) AllReadyH.nil
              go_simp
              have hrl := ref_learn (O := fun g => g < B ∨ X g ∧ g ≠ p7) (Oc := fun g => wG.heap.size ≤ g) (Oh := fun g => wG.heap.size ≤ g) (.slice At R.there.length ct) (.slice As Z cs) (.slice AI lits.length cI) (.slice AJ ids.length cJ) R lits ids x2 (HRG.out.below HBx2.out) HOI2.out HOJ2.out (by omega) (by omega) (by rw [HP.out.alike.last]; omega) (by rw [HP.out.alike.last]; have := HP.out.alike.inv.last; omega) (by have h1 := HP.out.alike.cnt; have h2 := HP.out.alike.inv.cnt; have h3 := HP.out.alike.inv.last; omega) (by rw [HP.out.alike.steps]; have := HP.out.within.steps; omega)
              unfold rVal at hrl
              refine hrl.mono ?_
              rintro e wH ⟨tv2, stv2, rfl, hr2, hbn⟩
              clear hrl
              rw [alike_learnNum HP.out.alike lits ids, alike_learnErr HP.out.alike lits ids]
              have hal2 := alike_learn HP.out.alike lits ids
              obtain ⟨R2, hR2⟩ : ∃ x, refLog R lits ids = x := ⟨_, rfl⟩
              rw [hR2] at hr2 hal2 ⊢
              have hzH := hbn.size
              have hzW := HBx2.out.size
              have hrH : RLogAt (fun g => g < B ∨ X g ∧ g ≠ p7 ∨ wG.heap.size ≤ g) wH tv2 stv2 R2 := hr2.mono (fun g hg => by
                rcases hg with (h | h) | h | h | h
                · exact .inl h
                · exact .inr (.inl h)
                · exact .inr (.inr h)
                · exact .inr (.inr h)
                · exact .inr (.inr (by omega)))
              have HAL := Lib.hid hal2
              have HBH := Lib.hid (HBx2.out.trans (hbn.mono HBx2.out.size))
              have hbP := (HBH.out.block p7 (by omega)).trans HBG.out
              clear hR2 hal2
              obtain ⟨⟨At2, ct2, htv2, _, _, _⟩, ms2, hms2⟩ := hr2
              obtain ⟨As2, cs2, hsv2, y1, y2⟩ := hms2.form
              clear y1 y2
              obtain ⟨Z2, hZ2⟩ : ∃ Z, ms2.length = Z := ⟨_, rfl⟩
              rw [hZ2] at hsv2
              subst htv2
              subst hsv2
              clear hms2 hZ2 ms2
              have HRH := Lib.hid hrH
              clear hrH
              have HBP := Lib.hid hbP
              clear hbP
              unfold rVal
              refine hK.out _ _ ⟨(hbn.cell (p := ⟨a9, 0, none⟩) (by show a9 < _; omega)).trans hHeld.1, (hbn.cell (p := ⟨a9, 1, none⟩) (by show a9 < _; omega)).trans hHeld.2.1, (hbn.cell (p := ⟨a9, 2, none⟩) (by show a9 < _; omega)).trans hHeld.2.2⟩ (fun hHeld1 => ?_)
              clear hK hHeld hbn
              have hHeld := hHeld1
              clear hHeld1
              refine takeD 8 84 (v := ?_) rfl (by rfl) (by kernel_rfl) (by kernel_rfl) (by kernel_rfl) (fun _ _ _ h => h) (Or.inl ⟨by rfl, ?_⟩) (by assumption) ?_
              rotate_left
              · intro w hSw
                obtain ⟨_, _, _⟩ := hSw
                go_simp
                try with_reducible rfl
              simp only [Act.put, List.setIfInBounds_toArray, List.set_cons_zero, List.set_cons_succ]
              refine takeD 9 93 (v := ?_) rfl (by rfl) (by kernel_rfl) (by kernel_rfl) (by kernel_rfl) (fun _ _ _ h => h) (Or.inl ⟨by rfl, ?_⟩) (by assumption) ?_
              rotate_left
              · intro w hSw
                obtain ⟨_, _, _⟩ := hSw
                go_simp
                try with_reducible rfl
              simp only [Act.put, List.setIfInBounds_toArray, List.set_cons_zero, List.set_cons_succ]
              refine takeD 10 94 (v := ?_) rfl (by rfl) (by kernel_rfl) (by kernel_rfl) (by kernel_rfl) (fun _ _ _ h => h) (Or.inl ⟨by rfl, ?_⟩) (by assumption) ?_
              rotate_left
              · intro w hSw
                obtain ⟨_, _, _⟩ := hSw
                go_simp
                try with_reducible rfl
              simp only [Act.put, List.setIfInBounds_toArray, List.set_cons_zero, List.set_cons_succ]
              refine takeD 11 95 (v := ?_) rfl (by rfl) (by kernel_rfl) (by kernel_rfl) (by kernel_rfl) (fun _ _ _ h => h) (Or.inl ⟨by rfl, ?_⟩) (by assumption) ?_
              rotate_left
              · intro w hSw
                obtain ⟨_, _, _⟩ := hSw
                go_simp
                try with_reducible rfl
              simp only [Act.put, List.setIfInBounds_toArray, List.set_cons_zero, List.set_cons_succ]
              have p0 : wH.cell? ⟨p7, 0, none⟩ = some (.slice At R.there.length ct) := cell_of_block (j := 0) HBP.out
              have fp0 := free_of_block (j := 0) HBP.out
              have p1 : wH.cell? ⟨p7, 1, none⟩ = some (.int .i64 R.last) := cell_of_block (j := 1) HBP.out
              have fp1 := free_of_block (j := 1) HBP.out
              have p2 : wH.cell? ⟨p7, 2, none⟩ = some (.slice As Z cs) := cell_of_block (j := 2) HBP.out
              have fp2 := free_of_block (j := 2) HBP.out
              have p3 : wH.cell? ⟨p7, 3, none⟩ = some (.bool R.done) := cell_of_block (j := 3) HBP.out
              have fp3 := free_of_block (j := 3) HBP.out
              refine wpAnyH_ready (rs := [12]) (by kernel_rfl) (by simp) ?_
              refine AllReadyH.cons rfl (fun K hK => ?_) AllReadyH.nil
              go_simp
              obtain ⟨wI, hwI⟩ : ∃ x, ((((wH.setCell ⟨p7, 0, none⟩ (.slice At2 R2.there.length ct2)).setCell ⟨p7, 1, none⟩ (.int .i64 R2.last)).setCell ⟨p7, 2, none⟩ (.slice As2 Z2 cs2)).setCell ⟨p7, 3, none⟩ (.bool R2.done)) = x := ⟨_, rfl⟩
              have hki : Kept (fun g => g = p7) wH wI := by rw [← hwI]; exact ((((Kept.refl (fun g => g = p7) wH).setCell ⟨p7, 0, none⟩ _ rfl).setCell ⟨p7, 1, none⟩ _ rfl).setCell ⟨p7, 2, none⟩ _ rfl).setCell ⟨p7, 3, none⟩ _ rfl
              rw [hwI]
              have HWI := Lib.hid hwI
              refine hK.out _ _ ⟨(hki.cell (p := ⟨a9, 0, none⟩) (by show a9 < _; omega) (by show ¬ a9 = p7; omega)).trans hHeld.1, (hki.cell (p := ⟨a9, 1, none⟩) (by show a9 < _; omega) (by show ¬ a9 = p7; omega)).trans hHeld.2.1, (hki.cell (p := ⟨a9, 2, none⟩) (by show a9 < _; omega) (by show ¬ a9 = p7; omega)).trans hHeld.2.2⟩ (fun hHeld1 => ?_)
              clear hK hHeld p0 p1 p2 p3 fp0 fp1 fp2 fp3 hki hwI
              have hHeld := hHeld1
              clear hHeld1
              refine takeD 13 13 (v := ?_) rfl (by rfl) (by kernel_rfl) (by kernel_rfl) (by kernel_rfl) (fun _ _ _ h => h) (Or.inl ⟨by rfl, ?_⟩) (by assumption) ?_
              rotate_left
              · intro w hSw
                obtain ⟨_, _, _⟩ := hSw
                go_simp
                try with_reducible rfl
              simp only [Act.put, List.setIfInBounds_toArray, List.set_cons_zero, List.set_cons_succ]
              refine takeD 14 14 (v := ?_) rfl (by rfl) (by kernel_rfl) (by kernel_rfl) (by kernel_rfl) (fun _ _ _ h => h) (Or.inl ⟨by rfl, ?_⟩) (by assumption) ?_
              rotate_left
              · intro w hSw
                obtain ⟨_, _, _⟩ := hSw
                go_simp
                try with_reducible rfl
              simp only [Act.put, List.setIfInBounds_toArray, List.set_cons_zero, List.set_cons_succ]
              refine wpAnyH_done (by kernel_rfl) ?_ _
              clear hHeld
              go_wp2_with fail
              rw [← HWI.out]
              go_meet
              have hm := play_mid HPF.out (fun g h1 h2 => .inr ⟨h1, h2⟩) (fun g h => .inl h) (fun g h => (HP.out.lim g h).2) hp7r HBF.out.size (fun g h1 h2 h3 => Nat.lt_of_not_le (fun h4 => h3 (.inr ⟨h4, h2⟩))) HLG.out HKG.out HBH.out HRH.out HAL.out (within_learn HP.out.within lits ids hf2)
              obtain ⟨X2, m1, m2, m3, m4⟩ := hm
              rw [ha9] at m2 m3 m4
              exact ⟨learnNum L lits ids, learnErr L lits ids, rfl, rfl, rfl, rfl, Lib.hid ⟨X2, _, _, _, _, m1, m2, m3, m4⟩⟩
            · -- then the clone
              go_simp
              refine (clone_i _ ids x1 ((HIV.out.ints.below HWG.out).below HBx1.out) (by omega)).mono ?_
              rintro e x2 ⟨vJ, rfl, hoJ, hbn⟩
              obtain ⟨AJ, cJ, hvJ, _⟩ := own_slice hoJ
              subst hvJ
              have hzx2 := hbn.size
              have HOJ2 := Lib.hid ((IntsIn.of_own hoJ).mono (O' := fun g => wG.heap.size ≤ g) (fun g hg => by have := hg.1; have := HBx1.out.size; omega))
              have HOI2 := Lib.hid (HOI2.out.below hbn)
              have HBx2 := Lib.hid (HBx1.out.trans (hbn.mono HBx1.out.size))
              refine hK.out _ _ ⟨(hbn.cell (p := ⟨a9, 0, none⟩) (by show a9 < _; omega)).trans hHeld.1, (hbn.cell (p := ⟨a9, 1, none⟩) (by show a9 < _; omega)).trans hHeld.2.1, (hbn.cell (p := ⟨a9, 2, none⟩) (by show a9 < _; omega)).trans hHeld.2.2⟩ (fun hHeld1 => ?_)
              clear hK hHeld hoJ hbn
              have hHeld := hHeld1
              clear hHeld1
              refine wpAnyH_ready (rs := [0]) (by kernel_rfl) (by simp) ?_
              refine AllReadyH.cons rfl (fun K hK => ?_) AllReadyH.nil
              have hbq := (HBx2.out.block p7 (by omega)).trans HBG.out
              have p0 : x2.cell? ⟨p7, 0, none⟩ = some (.slice At R.there.length ct) := cell_of_block (j := 0) hbq
              have fp0 := free_of_block (j := 0) hbq
              have p1 : x2.cell? ⟨p7, 1, none⟩ = some (.int .i64 R.last) := cell_of_block (j := 1) hbq
              have fp1 := free_of_block (j := 1) hbq
              have p2 : x2.cell? ⟨p7, 2, none⟩ = some (.slice As Z cs) := cell_of_block (j := 2) hbq
              have fp2 := free_of_block (j := 2) hbq
              have p3 : x2.cell? ⟨p7, 3, none⟩ = some (.bool R.done) := cell_of_block (j := 3) hbq
              have fp3 := free_of_block (j := 3) hbq
              go_simp
              refine hK.out _ _ hHeld (fun hHeld1 => ?_)
              clear hK hHeld1 hbq p0 p1 p2 p3 fp0 fp1 fp2 fp3
              refine wpAnyH_ready (rs := [7]) (by kernel_rfl) (by simp) ?_
              refine AllReadyH.cons rfl (fun K hK => ?_) AllReadyH.nil
              go_simp
              have hrl := ref_learn (O := fun g => g < B ∨ X g ∧ g ≠ p7) (Oc := fun g => wG.heap.size ≤ g) (Oh := fun g => wG.heap.size ≤ g) (.slice At R.there.length ct) (.slice As Z cs) (.slice AI lits.length cI) (.slice AJ ids.length cJ) R lits ids x2 (HRG.out.below HBx2.out) HOI2.out HOJ2.out (by omega) (by omega) (by rw [HP.out.alike.last]; omega) (by rw [HP.out.alike.last]; have := HP.out.alike.inv.last; omega) (by have h1 := HP.out.alike.cnt; have h2 := HP.out.alike.inv.cnt; have h3 := HP.out.alike.inv.last; omega) (by rw [HP.out.alike.steps]; have := HP.out.within.steps; omega)
              unfold rVal at hrl
              refine hrl.mono ?_
              rintro e wH ⟨tv2, stv2, rfl, hr2, hbn⟩
              clear hrl
              rw [alike_learnNum HP.out.alike lits ids, alike_learnErr HP.out.alike lits ids]
              have hal2 := alike_learn HP.out.alike lits ids
              obtain ⟨R2, hR2⟩ : ∃ x, refLog R lits ids = x := ⟨_, rfl⟩
              rw [hR2] at hr2 hal2 ⊢
              have hzH := hbn.size
              have hzW := HBx2.out.size
              have hrH : RLogAt (fun g => g < B ∨ X g ∧ g ≠ p7 ∨ wG.heap.size ≤ g) wH tv2 stv2 R2 := hr2.mono (fun g hg => by
                rcases hg with (h | h) | h | h | h
                · exact .inl h
                · exact .inr (.inl h)
                · exact .inr (.inr h)
                · exact .inr (.inr h)
                · exact .inr (.inr (by omega)))
              have HAL := Lib.hid hal2
              have HBH := Lib.hid (HBx2.out.trans (hbn.mono HBx2.out.size))
              have hbP := (HBH.out.block p7 (by omega)).trans HBG.out
              clear hR2 hal2
              obtain ⟨⟨At2, ct2, htv2, _, _, _⟩, ms2, hms2⟩ := hr2
              obtain ⟨As2, cs2, hsv2, y1, y2⟩ := hms2.form
              clear y1 y2
              obtain ⟨Z2, hZ2⟩ : ∃ Z, ms2.length = Z := ⟨_, rfl⟩
              rw [hZ2] at hsv2
              subst htv2
              subst hsv2
              clear hms2 hZ2 ms2
              have HRH := Lib.hid hrH
              clear hrH
              have HBP := Lib.hid hbP
              clear hbP
              unfold rVal
              refine hK.out _ _ ⟨(hbn.cell (p := ⟨a9, 0, none⟩) (by show a9 < _; omega)).trans hHeld.1, (hbn.cell (p := ⟨a9, 1, none⟩) (by show a9 < _; omega)).trans hHeld.2.1, (hbn.cell (p := ⟨a9, 2, none⟩) (by show a9 < _; omega)).trans hHeld.2.2⟩ (fun hHeld1 => ?_)
              clear hK hHeld hbn
              have hHeld := hHeld1
              clear hHeld1
              refine takeD 8 84 (v := ?_) rfl (by rfl) (by kernel_rfl) (by kernel_rfl) (by kernel_rfl) (fun _ _ _ h => h) (Or.inl ⟨by rfl, ?_⟩) (by assumption) ?_
              rotate_left
              · intro w hSw
                obtain ⟨_, _, _⟩ := hSw
                go_simp
                try with_reducible rfl
              simp only [Act.put, List.setIfInBounds_toArray, List.set_cons_zero, List.set_cons_succ]
              refine takeD 9 93 (v := ?_) rfl (by rfl) (by kernel_rfl) (by kernel_rfl) (by kernel_rfl) (fun _ _ _ h => h) (Or.inl ⟨by rfl, ?_⟩) (by assumption) ?_
              rotate_left
              · intro w hSw
                obtain ⟨_, _, _⟩ := hSw
                go_simp
                try with_reducible rfl
              simp only [Act.put, List.setIfInBounds_toArray, List.set_cons_zero, List.set_cons_succ]
              refine takeD 10 94 (v := ?_) rfl (by rfl) (by kernel_rfl) (by kernel_rfl) (by kernel_rfl) (fun _ _ _ h => h) (Or.inl ⟨by rfl, ?_⟩) (by assumption) ?_
              rotate_left
              · intro w hSw
                obtain ⟨_, _, _⟩ := hSw
                go_simp
                try with_reducible rfl
              simp only [Act.put, List.setIfInBounds_toArray, List.set_cons_zero, List.set_cons_succ]
              refine takeD 11 95 (v := ?_) rfl (by rfl) (by kernel_rfl) (by kernel_rfl) (by kernel_rfl) (fun _ _ _ h => h) (Or.inl ⟨by rfl, ?_⟩) (by assumption) ?_
              rotate_left
              · intro w hSw
                obtain ⟨_, _, _⟩ := hSw
                go_simp
                try with_reducible rfl
              simp only [Act.put, List.setIfInBounds_toArray, List.set_cons_zero, List.set_cons_succ]
              have p0 : wH.cell? ⟨p7, 0, none⟩ = some (.slice At R.there.length ct) := cell_of_block (j := 0) HBP.out
              have fp0 := free_of_block (j := 0) HBP.out
              have p1 : wH.cell? ⟨p7, 1, none⟩ = some (.int .i64 R.last) := cell_of_block (j := 1) HBP.out
              have fp1 := free_of_block (j := 1) HBP.out
              have p2 : wH.cell? ⟨p7, 2, none⟩ = some (.slice As Z cs) := cell_of_block (j := 2) HBP.out
              have fp2 := free_of_block (j := 2) HBP.out
              have p3 : wH.cell? ⟨p7, 3, none⟩ = some (.bool R.done) := cell_of_block (j := 3) HBP.out
              have fp3 := free_of_block (j := 3) HBP.out
              refine wpAnyH_ready (rs := [12]) (by kernel_rfl) (by simp) ?_
              refine AllReadyH.cons rfl (fun K hK => ?_) AllReadyH.nil
              go_simp
              obtain ⟨wI, hwI⟩ : ∃ x, ((((wH.setCell ⟨p7, 0, none⟩ (.slice At2 R2.there.length ct2)).setCell ⟨p7, 1, none⟩ (.int .i64 R2.last)).setCell ⟨p7, 2, none⟩ (.slice As2 Z2 cs2)).setCell ⟨p7, 3, none⟩ (.bool R2.done)) = x := ⟨_, rfl⟩
              have hki : Kept (fun g => g = p7) wH wI := by rw [← hwI]; exact ((((Kept.refl (fun g => g = p7) wH).setCell ⟨p7, 0, none⟩ _ rfl).setCell ⟨p7, 1, none⟩ _ rfl).setCell ⟨p7, 2, none⟩ _ rfl).setCell ⟨p7, 3, none⟩ _ rfl
              rw [hwI]
              have HWI := Lib.hid hwI
              refine hK.out _ _ ⟨(hki.cell (p := ⟨a9, 0, none⟩) (by show a9 < _; omega) (by show ¬ a9 = p7; omega)).trans hHeld.1, (hki.cell (p := ⟨a9, 1, none⟩) (by show a9 < _; omega) (by show ¬ a9 = p7; omega)).trans hHeld.2.1, (hki.cell (p := ⟨a9, 2, none⟩) (by show a9 < _; omega) (by show ¬ a9 = p7; omega)).trans hHeld.2.2⟩ (fun hHeld1 => ?_)
              clear hK hHeld p0 p1 p2 p3 fp0 fp1 fp2 fp3 hki hwI
              have hHeld := hHeld1
              clear hHeld1
              refine takeD 13 13 (v := ?_) rfl (by rfl) (by kernel_rfl) (by kernel_rfl) (by kernel_rfl) (fun _ _ _ h => h) (Or.inl ⟨by rfl, ?_⟩) (by assumption) ?_
              rotate_left
              · intro w hSw
                obtain ⟨_, _, _⟩ := hSw
                go_simp
                try with_reducible rfl
              simp only [Act.put, List.setIfInBounds_toArray, List.set_cons_zero, List.set_cons_succ]
              refine takeD 14 14 (v := ?_) rfl (by rfl) (by kernel_rfl) (by kernel_rfl) (by kernel_rfl) (fun _ _ _ h => h) (Or.inl ⟨by rfl, ?_⟩) (by assumption) ?_
              rotate_left
              · intro w hSw
                obtain ⟨_, _, _⟩ := hSw
                go_simp
                try with_reducible rfl
              simp only [Act.put, List.setIfInBounds_toArray, List.set_cons_zero, List.set_cons_succ]
              refine wpAnyH_done (by kernel_rfl) ?_ _
              clear hHeld
              go_wp2_with fail
              rw [← HWI.out]
              go_meet
              have hm := play_mid HPF.out (fun g h1 h2 => .inr ⟨h1, h2⟩) (fun g h => .inl h) (fun g h => (HP.out.lim g h).2) hp7r HBF.out.size (fun g h1 h2 h3 => Nat.lt_of_not_le (fun h4 => h3 (.inr ⟨h4, h2⟩))) HLG.out HKG.out HBH.out HRH.out HAL.out (within_learn HP.out.within lits ids hf2)
              obtain ⟨X2, m1, m2, m3, m4⟩ := hm
              rw [ha9] at m2 m3 m4
              exact ⟨learnNum L lits ids, learnErr L lits ids, rfl, rfl, rfl, rfl, Lib.hid ⟨X2, _, _, _, _, m1, m2, m3, m4⟩⟩
        · -- Forget
          have hXF : ∀ g, X g ∨ wr.heap.size ≤ g ∧ g < wF.heap.size → g < wF.heap.size := fun g h => (HPF.out.lim g h).2
          have hwf : ∀ x ∈ ids, (Lit.int .i64 x).wf = true := by
            obtain ⟨_, _, _, _, _, _, hw, _⟩ := HIV.out
            exact hw
          have hII : IntsIn (fun g => wF.heap.size ≤ g ∨ g < B ∨ (X g ∨ wr.heap.size ≤ g ∧ g < wF.heap.size)) wF (.slice Aj ids.length cj) ids := (ints_lt (IntsIn.of_own HOI.out)).mono (fun g hg => .inr (.inr (.inr ⟨by have := hg.1.1; omega, hg.2⟩)))
          have HCL := Lib.hid (forget_in B b L _ ids wF wF HPF.out.log (Below.refl _ _) hXF hII (by omega) hwf)
          clear hII hwf hXF
          go_wp2_with fail
          refine HCL.out.mono ?_
          rintro e wG ⟨rfl, hlG, hkG⟩
          clear HCL
          have hzG := hkG.size
          have hbG := (hkG.block p7 (by omega) (fun hh => hh.2.2 (.inl HP.out.inx))).trans HPF.out.block
          have hn9 : ¬ (B ≤ a9 ∧ a9 < wF.heap.size ∧ ¬ (X a9 ∨ wr.heap.size ≤ a9 ∧ a9 < wF.heap.size)) := fun hh => hh.2.2 (.inr ⟨by omega, ha9F⟩)
          have k1 := (hkG.cell (p := ⟨a9, 1, none⟩) ha9F hn9).trans h91
          have k2 := (hkG.cell (p := ⟨a9, 2, none⟩) ha9F hn9).trans h92
          have k0 := (hkG.cell (p := ⟨a9, 0, none⟩) ha9F hn9).trans h90
          have hRG : RLogAt (fun g => g < B ∨ X g ∧ g ≠ p7) wG (.slice At R.there.length ct) (.slice As Z cs) R := (HP.out.ref.below HBF.out).kept hkG (fun g hg hh => hg.elim (fun h => by omega) (fun h => hh.2.2 (.inl h.1)))
          have hwG : Below w.heap.size w wG := (hin wF HBF.out).trans (by rw [HBW.out]; exact hkG.below (fun g hg => hg.1) (by omega))
          have HLG := Lib.hid hlG
          have HKG := Lib.hid hkG
          have HRG := Lib.hid hRG
          have HBG := Lib.hid hbG
          have HWG := Lib.hid hwG
          clear hlG hkG hRG hbG hwG hn9 h90 h91 h92
          have p0 : wG.cell? ⟨p7, 0, none⟩ = some (.slice At R.there.length ct) := cell_of_block (j := 0) HBG.out
          have fp0 := free_of_block (j := 0) HBG.out
          have p1 : wG.cell? ⟨p7, 1, none⟩ = some (.int .i64 R.last) := cell_of_block (j := 1) HBG.out
          have fp1 := free_of_block (j := 1) HBG.out
          have p2 : wG.cell? ⟨p7, 2, none⟩ = some (.slice As Z cs) := cell_of_block (j := 2) HBG.out
          have fp2 := free_of_block (j := 2) HBG.out
          have p3 : wG.cell? ⟨p7, 3, none⟩ = some (.bool R.done) := cell_of_block (j := 3) HBG.out
          have fp3 := free_of_block (j := 3) HBG.out
          have hsm : Small L ids.length := HP.out.within.small (by omega) hf2 (by omega)
          have hrf := ref_forget (O := fun g => g < B ∨ X g ∧ g ≠ p7) (Oi := fun g => g < B) (.slice At R.there.length ct) (.slice As Z cs) (.slice Ai ids.length ci) R ids wG HRG.out ((((HIV.out.ints).below HWG.out)).mono (fun g hg => by have := HBW.out; omega)) (by omega) (by have h1 := HP.out.alike.cnt; have h2 := HP.out.alike.inv.cnt; have h3 := HP.out.alike.inv.last; omega) (by rw [HP.out.alike.steps]; exact hsm.steps) (by rw [HP.out.alike.steps]; exact hsm.hints)
          unfold rVal at hrf
          have HRF := Lib.hid hrf
          have HSM := Lib.hid hsm
          clear hrf hsm
          go_wp2_with fail
          refine HRF.out.mono ?_
          rintro e wH ⟨tv2, stv2, rfl, hr2, hbH⟩
          rw [alike_forgetNum HP.out.alike ids HSM.out, alike_forgetErr HP.out.alike ids HSM.out]
          have hal2 := alike_forget HP.out.alike ids HSM.out
          obtain ⟨R2, hR2⟩ : ∃ x, refForgetLog R ids = x := ⟨_, rfl⟩
          rw [hR2] at hr2 hal2 ⊢
          have hrH : RLogAt (fun g => g < B ∨ X g ∧ g ≠ p7 ∨ wG.heap.size ≤ g) wH tv2 stv2 R2 := hr2.mono (fun g hg => by
            rcases hg with (h | h) | h | h
            · exact .inl h
            · exact .inr (.inl h)
            · exact .inl h
            · exact .inr (.inr h))
          have HAL := Lib.hid hal2
          have HBH := Lib.hid hbH
          have hbP := (hbH.block p7 (by omega)).trans HBG.out
          clear hR2 hal2 hbH HRF p0 p1 p2 p3 fp0 fp1 fp2 fp3 k0 k1 k2
          obtain ⟨⟨At2, ct2, htv2, _, _, _⟩, ms2, hms2⟩ := hr2
          obtain ⟨As2, cs2, hsv2, y1, y2⟩ := hms2.form
          clear y1 y2
          obtain ⟨Z2, hZ2⟩ : ∃ Z, ms2.length = Z := ⟨_, rfl⟩
          rw [hZ2] at hsv2
          subst htv2
          subst hsv2
          clear hms2 hZ2 ms2
          have HRH := Lib.hid hrH
          clear hrH
          have p0 : wH.cell? ⟨p7, 0, none⟩ = some (.slice At R.there.length ct) := cell_of_block (j := 0) hbP
          have fp0 := free_of_block (j := 0) hbP
          have p1 : wH.cell? ⟨p7, 1, none⟩ = some (.int .i64 R.last) := cell_of_block (j := 1) hbP
          have fp1 := free_of_block (j := 1) hbP
          have p2 : wH.cell? ⟨p7, 2, none⟩ = some (.slice As Z cs) := cell_of_block (j := 2) hbP
          have fp2 := free_of_block (j := 2) hbP
          have p3 : wH.cell? ⟨p7, 3, none⟩ = some (.bool R.done) := cell_of_block (j := 3) hbP
          have fp3 := free_of_block (j := 3) hbP
          have HBP := Lib.hid hbP
          clear hbP
          unfold rVal
          go_wp2_with fail
          go_meet
          have hm := play_mid HPF.out (fun g h1 h2 => .inr ⟨h1, h2⟩) (fun g h => .inl h) (fun g h => (HP.out.lim g h).2) hp7r HBF.out.size (fun g h1 h2 h3 => Nat.lt_of_not_le (fun h4 => h3 (.inr ⟨h4, h2⟩))) HLG.out HKG.out HBH.out HRH.out HAL.out (within_forget HP.out.within ids hf2)
          obtain ⟨X2, m1, m2, m3, m4⟩ := hm
          rw [ha9] at m2 m3 m4
          exact ⟨forgetNum L ids, forgetErr L ids, rfl, rfl, rfl, rfl, Lib.hid ⟨X2, _, _, _, _, m1, m2, m3, m4⟩⟩
      case rest =>
        obtain ⟨num, err, rfl, rfl, rfl, rfl, HMID⟩ := hcut
        obtain ⟨wo, rfl⟩ : ∃ x : World, x = wr := ⟨_, rfl⟩
        obtain ⟨X2, L2, ⟨there, last2, steps2, done2⟩, tv2, stv2, hP2, hR2, hX2, hK2⟩ := HMID.out
        clear HMID
        obtain rfl : last2 = (L2.last : Int) := hP2.alike.last
        obtain rfl : steps2 = L2.steps := hP2.alike.steps
        obtain rfl : done2 = L2.done := hP2.alike.done
        have hp7a : p7 < a9 := by omega
        clear HP HPF hp7r
        obtain ⟨⟨Ax, cx, htv, _, _, _⟩, msx, hmsx⟩ := hP2.ref
        obtain ⟨Ay, cy, hsv, y1, y2⟩ := hmsx.form
        clear y1 y2
        obtain ⟨Zy, hZy⟩ : ∃ Z, msx.length = Z := ⟨_, rfl⟩
        rw [hZy] at hsv
        subst htv
        subst hsv
        clear hmsx hZy msx
        have hzC := hK2.size
        have k0 := (hK2.cell (p := ⟨a9, 0, none⟩) ha9F (by show ¬ (B ≤ a9 ∧ a9 < a9); omega)).trans h90
        have k1 := (hK2.cell (p := ⟨a9, 1, none⟩) ha9F (by show ¬ (B ≤ a9 ∧ a9 < a9); omega)).trans h91
        have k2 := (hK2.cell (p := ⟨a9, 2, none⟩) ha9F (by show ¬ (B ≤ a9 ∧ a9 < a9); omega)).trans h92
        have hoc := own_kept HOC.out hK2 (fun g hg hh => by have := (own_lt HOC.out g hg).1; omega)
        have hoi := own_kept HOI.out hK2 (fun g hg hh => by have := (own_lt HOI.out g hg).1; omega)
        have hbW : Below w.heap.size w wc := by rw [HBW.out]; exact hP2.below
        have hp7c := (hP2.lim p7 hP2.inx).2
        have HOCC := Lib.hid hoc
        have HOIC := Lib.hid hoi
        have HP2 := Lib.hid hP2
        have HR2 := Lib.hid hR2
        have HX2 := Lib.hid hX2
        have HBWC := Lib.hid hbW
        clear hoc hoi hP2 hR2 hX2 hK2 hbW h90 h91 h92
        go_wp2_with fail
        have he := eq_c (.slice Ac lits.length cc) (.slice Al lits.length cl) lits lits wc (IntsIn.of_own HOCC.out) (HLV.out.ints.below HBWC.out) (by omega)
        rw [beq_self_eq_true] at he
        refine he.mono ?_
        rintro e wq ⟨rfl, nq, hnq⟩
        have hbq : Below wc.heap.size wc wq := by rw [hnq]; exact below_drewN1 wc nq
        have l1 := (hbq.cell (p := ⟨a9, 1, none⟩) (by show a9 < _; omega)).trans k1
        have l2 := (hbq.cell (p := ⟨a9, 2, none⟩) (by show a9 < _; omega)).trans k2
        have hzq := hbq.size
        have HBQ := Lib.hid hbq
        clear he hnq hbq k0 k1 k2
        go_wp2_with fail
        have he := eq_i (.slice Aj ids.length cj) (.slice Ai ids.length ci) ids ids wq ((IntsIn.of_own HOIC.out).below HBQ.out) ((HIV.out.ints.below HBWC.out).below HBQ.out) (by omega)
        rw [beq_self_eq_true] at he
        refine he.mono ?_
        rintro e wp ⟨rfl, np, hnp⟩
        have hbp : Below wc.heap.size wc wp := HBQ.out.trans (by rw [hnp]; exact (below_drewN1 wq np).mono hzq)
        have hbl := (hbp.block p7 hp7c).trans HP2.out.block
        have hzp := hbp.size
        have HBP := Lib.hid hbp
        clear he hnp hbp l1 l2 HBQ hzq
        have p0 : wp.cell? ⟨p7, 0, none⟩ = some (.slice Ax there.length cx) := cell_of_block (j := 0) hbl
        have p1 : wp.cell? ⟨p7, 1, none⟩ = some (.int .i64 (L2.last : Int)) := cell_of_block (j := 1) hbl
        have p2 : wp.cell? ⟨p7, 2, none⟩ = some (.slice Ay Zy cy) := cell_of_block (j := 2) hbl
        have p3 : wp.cell? ⟨p7, 3, none⟩ = some (.bool L2.done) := cell_of_block (j := 3) hbl
        have HSM := Lib.hid (same_any b L2 _ _ there wp (HP2.out.log.1.below HBP.out) HP2.out.alike.inv (HP2.out.ref.below HBP.out) HP2.out.alike.cnt HP2.out.alike.mem)
        clear hbl
        unfold rVal at HSM
        go_wp2_with fail
        refine HSM.out.mono ?_
        rintro e wS ⟨rfl, hbs⟩
        have hbS : Below wc.heap.size wc wS := HBP.out.trans (hbs.mono HBP.out.size)
        have hzS := hbS.size
        have HBS := Lib.hid hbS
        have HOCS := Lib.hid (own_below HOCC.out hbS)
        have HOIS := Lib.hid (own_below HOIC.out hbS)
        clear HSM HBP hzp hbs hbS p0 p1 p2 p3 HOCC HOIC
        go_wp2_with fail
        go_loopw [126] (fun i wr => ∃ j : Nat, j ≤ lits.length ∧ i = .int .i64 j ∧ Hid (Kept (fun g => a9 < g ∧ g < wF.heap.size) wS wr) ∧ Hid (WriTwo (.slice Ac lits.length cc) (.slice Aj ids.length cj) lits.length ids.length wr)) (fun i _ => lits.length - (intOf i).toNat)
        case atStart => exact ⟨0, Nat.zero_le _, rfl, Lib.hid (Kept.refl _ _), Lib.hid ⟨fun g hg => wri_own_block HOCS.out g hg, fun g hg => wri_own_block HOIS.out g hg⟩⟩
        case round =>
          obtain ⟨j, hj, rfl, HK, HW⟩ := hrel
          by_cases hjl : j < lits.length
          · obtain ⟨gc, cc', hcv, _, hgb, hgs, _⟩ := own_some HOCS.out (by omega)
            simp only [Value.slice.injEq] at hcv
            obtain ⟨rfl, _, rfl⟩ := hcv
            obtain ⟨⟨vv, q0⟩, f0⟩ := (HW.out.1 gc rfl).cell hjl
            have hgF := (own_lt HOC.out gc rfl).2
            go_wp2_with fail
            go_roundw
            case rel => exact ⟨j + 1, by omega, by go_num, Lib.hid (HK.out.setCell ⟨gc, j, none⟩ _ ⟨by show a9 < gc; omega, by show gc < wF.heap.size; omega⟩), Lib.hid (HW.out.set gc j _)⟩
            case measure => simp [intOf]; omega
          · obtain rfl : j = lits.length := by omega
            go_wp2_with fail
            obtain ⟨wm, rfl⟩ : ∃ x : World, x = wr := ⟨_, rfl⟩
            have HK2 := HK
            have HW2 := HW
            clear HK HW
            go_loopw [135] (fun i wr => ∃ j : Nat, j ≤ ids.length ∧ i = .int .i64 j ∧ Hid (Kept (fun g => a9 < g ∧ g < wF.heap.size) wS wr) ∧ Hid (WriTwo (.slice Ac lits.length cc) (.slice Aj ids.length cj) lits.length ids.length wr)) (fun i _ => ids.length - (intOf i).toNat)
            case atStart => exact ⟨0, Nat.zero_le _, rfl, HK2, HW2⟩
            case round =>
              obtain ⟨j, hj, rfl, HK, HW⟩ := hrel
              by_cases hjl : j < ids.length
              · obtain ⟨gc, cc', hcv, _, hgb, hgs, _⟩ := own_some HOIS.out (by omega)
                simp only [Value.slice.injEq] at hcv
                obtain ⟨rfl, _, rfl⟩ := hcv
                obtain ⟨⟨vv, q0⟩, f0⟩ := (HW.out.2 gc rfl).cell hjl
                have hgF := (own_lt HOI.out gc rfl).2
                go_wp2_with fail
                go_roundw
                case rel => exact ⟨j + 1, by omega, by go_num, Lib.hid (HK.out.setCell ⟨gc, j, none⟩ _ ⟨by show a9 < gc; omega, by show gc < wF.heap.size; omega⟩), Lib.hid (HW.out.set gc j _)⟩
                case measure => simp [intOf]; omega
              · obtain rfl : j = ids.length := by omega
                go_wp2_with fail
                obtain ⟨wn, rfl⟩ : ∃ x : World, x = wr := ⟨_, rfl⟩
                have hPn := (HP2.out.next HBS.out).mut HK.out (fun g hg hl => ⟨.inl (HX2.out g (by omega) hg.2), by omega, by omega⟩) ((HR2.out.below HBS.out).mono (fun g hg => hg.imp id (fun h => ⟨.inl h.1, h.2.1, fun hh => h.2.2 ⟨by omega, hh.2⟩⟩)))
                have HPN := Lib.hid hPn
                clear hPn HK HW HP2 HR2 HX2 HBS HOCS HOIS hzS
                refine (log_steps b L2 wn HPN.out.log.1 HPN.out.alike.inv.ok).mono ?_
                rintro e wT ⟨vT, msT, rfl, hsT, hoT, hbT⟩
                obtain ⟨AT, cT, hvT, hcT⟩ := own_slice hoT
                subst hvT
                obtain ⟨ZT, hZT⟩ : ∃ Z, msT.length = Z := ⟨_, rfl⟩
                have HST := Lib.hid hsT
                have HOT := Lib.hid hoT
                rw [hZT] at hcT ⊢
                have HZT := Lib.hid hZT
                have hzT := hbT.size
                have hlT : ZT ≤ 262144 := by rw [← hZT]; have h1 := hsT.steps; have h2 := HPN.out.alike.inv.proof.len; rw [← h1, List.length_map] at h2; exact h2
                have HBT := Lib.hid hbT
                have HWT := Lib.hid (wriAll_of hsT)
                clear hsT hoT hbT hZT
                go_wp2_with fail
                go_loopw [145] (fun i wr => ∃ j : Nat, j ≤ ZT ∧ i = .int .i64 j ∧ Hid (Kept (MutStep wn.heap.size wT) wT wr) ∧ Hid (WriAll msT wr)) (fun i _ => ZT - (intOf i).toNat)
                case atStart => exact ⟨0, Nat.zero_le _, rfl, Lib.hid (Kept.refl _ _), HWT⟩
                case round =>
                  obtain ⟨j, hj, rfl, HK, HW⟩ := hrel
                  by_cases hjl : j < ZT
                  · obtain ⟨m, gs, hm, _, hat, ⟨cg, hvg⟩, hgs, c0, c1, c2, c3⟩ := step_cells HST.out (by rw [HZT.out]; exact hjl)
                    rw [HZT.out] at hvg
                    simp only [Value.slice.injEq] at hvg
                    obtain ⟨rfl, _, rfl⟩ := hvg
                    have hng : ¬ MutStep wn.heap.size wT gs := by
                      rintro ⟨_, cs', t', h1, h2⟩
                      obtain ⟨cs'', h3⟩ := own_type HOT.out gs rfl
                      rw [h3] at h1
                      cases h1
                      exact h2 rfl
                    have hsz := HK.out.size
                    have d0 := (HK.out.cell (p := ⟨gs, j * 4, none⟩) hgs hng).trans c0
                    have d1 := (HK.out.cell (p := ⟨gs, j * 4 + 1, none⟩) hgs hng).trans c1
                    have d2 := (HK.out.cell (p := ⟨gs, j * 4 + 2, none⟩) hgs hng).trans c2
                    have d3 := (HK.out.cell (p := ⟨gs, j * 4 + 3, none⟩) hgs hng).trans c3
                    obtain ⟨lv, hv, sm⟩ := m
                    simp only [] at d0 d1 d2 d3
                    have HAT := Lib.hid hat
                    obtain ⟨A1, k1, hlv, _⟩ := own_slice hat.lits
                    obtain ⟨A2, k2, hhv, _⟩ := own_slice hat.hints
                    simp only [] at hlv hhv
                    subst hlv
                    subst hhv
                    have HMM := Lib.hid (List.mem_of_getElem? hm)
                    have hok := HPN.out.alike.inv.proof.each sm (by rw [← HST.out.steps]; exact List.mem_map.2 ⟨_, HMM.out, rfl⟩)
                    have hl1 := (stepOk_rng hok).2.2.2
                    have hl2 := hok.len
                    obtain ⟨dm, im, lm, hm'⟩ := sm
                    simp only [] at d0 d1 d2 d3 hl1 hl2 HAT HMM
                    clear hat hm c0 c1 c2 c3 hng hok
                    obtain ⟨a18, ha18⟩ : ∃ p, wr.heap.size = p := ⟨_, rfl⟩
                    obtain ⟨wy, hwy⟩ : ∃ x, wr.alloc (.cells #[.bool dm, .int .i64 im, .slice A1 lm.length k1, .slice A2 hm'.length k2] 57) = x := ⟨_, rfl⟩
                    have hby : Below wr.heap.size wr wy := by rw [← hwy]; exact below_al _ _
                    have hsy : wy.heap[a18]? = some (.cells #[.bool dm, .int .i64 im, .slice A1 lm.length k1, .slice A2 hm'.length k2] 57 (0, 0)) := by rw [← hwy, ← ha18]; exact World.alloc_heap_new _ _
                    have hzy : wy.heap.size = a18 + 1 := by rw [← hwy, ← ha18]; simp
                    have HWY := Lib.hid hwy
                    go_upto_region 32 with fail
                    have q2 : wy.cell? ⟨a18, 2, none⟩ = some (.slice A1 lm.length k1) := cell_of_block (j := 2) hsy
                    have q3 : wy.cell? ⟨a18, 3, none⟩ = some (.slice A2 hm'.length k2) := cell_of_block (j := 3) hsy
                    have HQ2 := Lib.hid q2
                    have HQ3 := Lib.hid q3
                    have HBY := Lib.hid hby
                    have HWW := Lib.hid (HW.out.below hby)
                    have HK4 := HK
                    clear hwy hby hsy d0 d1 d2 d3 HWY HK HW q3
                    obtain ⟨w4, rfl⟩ : ∃ x : World, x = wr := ⟨_, rfl⟩
                    go_wp2_with fail
                    go_loopw [152] (fun i wr => ∃ i' : Nat, i' ≤ lm.length ∧ i = .int .i64 i' ∧ Hid (Kept (fun g => (Value.slice A1 lm.length k1).ownBlock = some g) wy wr) ∧ Hid (WriAll msT wr)) (fun i _ => lm.length - (intOf i).toNat)
                    case atStart => exact ⟨0, Nat.zero_le _, rfl, Lib.hid (Kept.refl _ _), HWW⟩
                    case round =>
                      obtain ⟨i', hi', rfl, HK, HW⟩ := hrel
                      have hzr := HK.out.size
                      clear q2
                      by_cases hil : i' < lm.length
                      · obtain ⟨gc, cc', hcv, _, _, hgs', _⟩ := own_some HAT.out.lits (by simpa using (show 0 < lm.length by omega))
                        simp only [Value.slice.injEq] at hcv
                        obtain ⟨rfl, _, rfl⟩ := hcv
                        obtain ⟨⟨vv, q0⟩, f0⟩ := ((HW.out _ HMM.out).1 gc rfl).cell hil
                        have q2 := (HK.out.cell (p := ⟨a18, 2, none⟩) (by show a18 < _; omega) (by intro hh; have hh' : gc = a18 := Option.some.inj hh; omega)).trans HQ2.out
                        go_wp2_with fail
                        go_roundw
                        case rel => exact ⟨i' + 1, by omega, by go_num, Lib.hid (HK.out.setCell ⟨gc, i', none⟩ _ rfl), Lib.hid (HW.out.set gc i' _)⟩
                        case measure => simp [intOf]; omega
                      · obtain rfl : i' = lm.length := by omega
                        have q2 : wr.cell? ⟨a18, 2, none⟩ = some (.slice A1 lm.length k1) := (HK.out.cell (p := ⟨a18, 2, none⟩) (by show a18 < _; omega) (by intro hh; have := (own_lt HAT.out.lits a18 hh).2; omega)).trans HQ2.out
                        have q3 : wr.cell? ⟨a18, 3, none⟩ = some (.slice A2 hm'.length k2) := (HK.out.cell (p := ⟨a18, 3, none⟩) (by show a18 < _; omega) (by intro hh; have := (own_lt HAT.out.lits a18 hh).2; omega)).trans HQ3.out
                        have HK5 := Lib.hid (HK.out.mono (O' := fun g => (Value.slice A1 lm.length k1).ownBlock = some g ∨ (Value.slice A2 hm'.length k2).ownBlock = some g) (fun g _ h => .inl h))
                        have HW5 := HW
                        clear HK HW
                        obtain ⟨w5, rfl⟩ : ∃ x : World, x = wr := ⟨_, rfl⟩
                        go_wp2_with fail
                        go_loopw [163] (fun i wr => ∃ i' : Nat, i' ≤ hm'.length ∧ i = .int .i64 i' ∧ Hid (Kept (fun g => (Value.slice A1 lm.length k1).ownBlock = some g ∨ (Value.slice A2 hm'.length k2).ownBlock = some g) wy wr) ∧ Hid (WriAll msT wr)) (fun i _ => hm'.length - (intOf i).toNat)
                        case atStart => exact ⟨0, Nat.zero_le _, rfl, HK5, HW5⟩
                        case round =>
                          obtain ⟨i', hi', rfl, HK, HW⟩ := hrel
                          have hzr' := HK.out.size
                          clear q2 q3
                          by_cases hil : i' < hm'.length
                          · have q3 : wr.cell? ⟨a18, 3, none⟩ = some (.slice A2 hm'.length k2) := (HK.out.cell (p := ⟨a18, 3, none⟩) (by show a18 < _; omega) (fun hh => hh.elim (fun h => by have := (own_lt HAT.out.lits a18 h).2; omega) (fun h => by have := (own_lt HAT.out.hints a18 h).2; omega))).trans HQ3.out
                            obtain ⟨gc, cc', hcv, _, _, hgs', _⟩ := own_some HAT.out.hints (by simpa using (show 0 < hm'.length by omega))
                            simp only [Value.slice.injEq] at hcv
                            obtain ⟨rfl, _, rfl⟩ := hcv
                            obtain ⟨⟨vv, q0⟩, f0⟩ := ((HW.out _ HMM.out).2 gc rfl).cell hil
                            go_wp2_with fail
                            go_roundw
                            case rel => exact ⟨i' + 1, by omega, by go_num, Lib.hid (HK.out.setCell ⟨gc, i', none⟩ _ (.inr rfl)), Lib.hid (HW.out.set gc i' _)⟩
                            case measure => simp [intOf]; omega
                          · obtain rfl : i' = hm'.length := by omega
                            go_wp2_with fail
                            have hkf : Kept (MutStep wn.heap.size wT) wT wr := (HK4.out.trans (Kept.of_below (O := fun _ => False) HBY.out) (fun _ _ h => h.elim)).trans HK.out (fun g hg hh => by
                              rcases hh with hh | hh
                              · obtain ⟨cs', h3⟩ := own_type HAT.out.lits g hh
                                exact ⟨HAT.out.litb g hh, cs', _, h3, by decide⟩
                              · obtain ⟨cs', h3⟩ := own_type HAT.out.hints g hh
                                exact ⟨HAT.out.block g hh, cs', _, h3, by decide⟩)
                            go_roundw
                            case rel => exact ⟨j + 1, by omega, by go_num, Lib.hid hkf, HW⟩
                            case measure => simp [intOf]; omega
                  · obtain rfl : j = ZT := by omega
                    have hbn : Below wn.heap.size wn wr := HBT.out.trans (HK.out.below (fun g hg => hg.1) hzT)
                    have HNX := Lib.hid (HPN.out.next hbn)
                    clear HK HW HPN hbn
                    go_wp2_with fail
                    go_roundw
                    case rel => exact ⟨k + 1, by omega, by go_num, Lib.hid ⟨_, _, _, _, _, HNX.out⟩⟩
                    case measure => simp [intOf]; omega
    · obtain rfl : k = al.length := by omega
      clear hlt hk hp7r
      obtain ⟨there, last2, steps2, done2⟩ := R
      obtain rfl : last2 = (L.last : Int) := HP.out.alike.last
      obtain rfl : steps2 = L.steps := HP.out.alike.steps
      obtain rfl : done2 = L.done := HP.out.alike.done
      have hbW : Below w.heap.size w wr := by rw [HBW.out]; exact HP.out.below
      have hpt := play_text HP.out.alike.inv HP.out.within hl
      have HTX := Lib.hid (log_text b L wr HP.out.log.1 HP.out.alike.inv.proof (HTW.out.next hbW) hpt)
      have hp7c := (HP.out.lim p7 HP.out.inx).2
      have HPT := Lib.hid hpt
      have HBWR := Lib.hid hbW
      clear hpt hbW
      go_wp2_with fail
      refine HTX.out.mono ?_
      rintro e wX ⟨rfl, hbX⟩
      have hbl := (hbX.block p7 hp7c).trans HP.out.block
      have hzX := hbX.size
      have HBX := Lib.hid hbX
      clear HTX hbX
      have p0 : wX.cell? ⟨p7, 0, none⟩ = some (.slice At there.length ct) := cell_of_block (j := 0) hbl
      have p1 : wX.cell? ⟨p7, 1, none⟩ = some (.int .i64 (L.last : Int)) := cell_of_block (j := 1) hbl
      have p2 : wX.cell? ⟨p7, 2, none⟩ = some (.slice As Z cs) := cell_of_block (j := 2) hbl
      have p3 : wX.cell? ⟨p7, 3, none⟩ = some (.bool L.done) := cell_of_block (j := 3) hbl
      have HRT := Lib.hid (ref_text _ _ ⟨there, L.last, L.steps, L.done⟩ wX (HP.out.ref.below HBX.out) HP.out.alike.inv.proof.each HP.out.alike.inv.proof.len HPT.out)
      unfold rVal at HRT
      clear hbl
      go_wp2_with fail
      refine HRT.out.mono ?_
      rintro e wY ⟨rfl, hbY⟩
      have HBY := Lib.hid (HBX.out.trans (hbY.mono hzX))
      have hbl := (HBY.out.block p7 hp7c).trans HP.out.block
      clear HRT hbY p0 p1 p2 p3
      have p0 : wY.cell? ⟨p7, 0, none⟩ = some (.slice At there.length ct) := cell_of_block (j := 0) hbl
      have p1 : wY.cell? ⟨p7, 1, none⟩ = some (.int .i64 (L.last : Int)) := cell_of_block (j := 1) hbl
      have p2 : wY.cell? ⟨p7, 2, none⟩ = some (.slice As Z cs) := cell_of_block (j := 2) hbl
      have p3 : wY.cell? ⟨p7, 3, none⟩ = some (.bool L.done) := cell_of_block (j := 3) hbl
      have HSM := Lib.hid (same_any b L _ _ there wY (HP.out.log.1.below HBY.out) HP.out.alike.inv (HP.out.ref.below HBY.out) HP.out.alike.cnt HP.out.alike.mem)
      unfold rVal at HSM
      clear hbl
      go_wp2_with fail
      refine HSM.out.mono ?_
      rintro e wZ ⟨rfl, hbZ⟩
      have HBZ := Lib.hid (HBY.out.trans (hbZ.mono HBY.out.size))
      clear HSM hbZ p0 p1 p2 p3
      simp only [] at *
      go_wp2_with fail
      go_ret
      exact ⟨rfl, by rw [HBW.out]; exact HP.out.below.trans (HBZ.out.mono hBr)⟩
end Go.Proofs.YtbokfjmbamgenaaDoor
