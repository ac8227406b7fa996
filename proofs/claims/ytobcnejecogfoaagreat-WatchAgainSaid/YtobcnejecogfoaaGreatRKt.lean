/- package salvorlaw13: WatchAgain. -/
import Derived.Test.YtobcnejecogfoaaGreatRKs
import Derived.Deep.DeepCutAuto
namespace Go.Proofs.YtobcnejecogfoaaGreat
open Go.RowKit

set_option maxRecDepth 100000 in
set_option maxHeartbeats 16000000 in
theorem again_walk (A1 : Option Addr) (c1 m : Nat) (ux : Value) (xss : List (List Int)) (l : List Int) (x y : Int) (w : World) (hx : RowsAt .i8 w ux xss) (hwx : (Lit.int .i8 x).wf = true) (hwy : (Lit.int .i8 y).wf = true) (hl : RowAt .i8 w (.slice A1 l.length c1) l) (hN : min (l.length : Int) 6 = (m : Int)) (hm6 : m ≤ 6) (hml : m ≤ l.length) :
    Calls Tryz.prog 6 #[ux, .int .i8 x, .int .i8 y, .slice A1 l.length c1] w fun e w' => e = .returned (.bool true) ∧ Below w.heap.size w w' := by
  obtain ⟨Av, cv, hA, hlc, hmx, _, hwf, hlx⟩ := hl
  cases hA
  have HX := Lib.hid hx
  have HLX0 := Lib.hid hlx
  have HWF := Lib.hid hwf
  have HWX := Lib.hid hwx
  have HWY := Lib.hid hwy
  obtain ⟨Ax, cx, rfl, _⟩ := hx
  have hmc : m ≤ c1 := by omega
  unfold maxLen at hmx
  obtain ⟨cs, hcs⟩ : ∃ cs, (xss.take 14).map madeL = cs := ⟨_, rfl⟩
  have h6 : Six cs := by rw [← hcs]; exact six_made xss 14 (by omega)
  have HCS := Lib.hid hcs
  have HMX := Lib.hid (madeLit_six x)
  have HMY := Lib.hid (madeLit_six y)
  clear hlx hwf hcs hwx hwy
  go_enter Tryz.func6, Tryz.ntmps6
  go_wp2_with fail
  refine (awake13 w).mono ?_
  rintro e w1 ⟨rfl, hb1⟩
  have HAL := Lib.hid (all_any _ xss 14 w1 (HX.out.below hb1) (by decide))
  have HB1 := Lib.hid hb1
  clear hb1
  go_wp2_with fail
  refine HAL.out.mono ?_
  rintro e w2 ⟨vc, rfl, hoc, hb2⟩
  rw [HCS.out] at hoc
  have hcat := hoc.cls
  obtain ⟨Ac, cc, rfl, _⟩ := id hcat
  have HST := Lib.hid (law_started Ac cc cs w2 hcat h6)
  have HB2 := Lib.hid (HB1.out.trans (hb2.mono HB1.out.size))
  clear hoc hb2 hcat HAL HB1
  go_wp2_with fail
  refine HST.out.mono ?_
  rintro e w3 ⟨b, a, t, lab, T, its, S, fl, rfl, hsd⟩
  have HSD := Lib.hid hsd
  clear hsd HST
  cases fl with
  | true =>
    go_wp2_with fail
    go_ret
    exact ⟨rfl, HB2.out.trans (HSD.out.lw.hb.mono HB2.out.size)⟩
  | false =>
    have HL3 := Lib.hid HSD.out.lw
    have HR0 := Lib.hid (HSD.out.ok rfl)
    have HN0 := Lib.hid HSD.out.now
    have HP0 := Lib.hid (PL.of_pz HSD.out.pz)
    clear HSD
    go_upto_region 7 with fail
    go_cut [15, 16] (fun p q wx => p = .int .i64 (madeLit x) ∧ q = .int .i64 (madeLit y) ∧ Hid (Lw w2 wx lab b a t (addAll arn0 0 cs) T S))
    case first =>
      obtain ⟨x0, hx0⟩ : ∃ x, w3.drew = x := ⟨_, rfl⟩
      have hS0 := mx_drew w3
      rw [hx0] at hS0
      refine wp_region_held_drew (S := fun w' => Below w3.heap.size w3 w') (by kernel_rfl) (by rw [hx0]; exact hS0) (fun hS => ?_)
      rw [hx0] at hS ⊢
      clear hS0 hx0
      refine takeE 0 44 ?_
      refine takeE 5 49 ?_
      refine wpAnyH_ready (rs := [1, 6]) (by kernel_rfl) (by simp) ?_
      refine AllReadyH.cons rfl (fun K hK => ?_) (AllReadyH.cons rfl (fun K hK => ?_) AllReadyH.nil)
      · go_simp
        obtain ⟨x1, hwn⟩ : ∃ z, x0.alloc (.cells #[.int .i8 x] 33) = z := ⟨_, rfl⟩
        rw [hwn]
        have hbn : Below x0.heap.size x0 x1 := by rw [← hwn]; exact mx_al _ _
        have hfa : x1.cell? ⟨x0.heap.size, 0, none⟩ = some (.int .i8 x) := by rw [← hwn]; exact cell_new _ _ _ 0
        have FA := Lib.hid hfa
        have hSN := hS.trans (hbn.mono hS.size)
        clear hbn hwn hfa
        refine hK.out _ _ hSN (fun _ => ?_)
        clear hK hS
        have hS := hSN
        clear hSN
        refine wpAnyH_ready (rs := [2, 6]) (by kernel_rfl) (by simp) ?_
        refine AllReadyH.cons rfl (fun K hK => ?_) (AllReadyH.cons rfl (fun K hK => ?_) AllReadyH.nil)
        · go_simp
          refine (made_row x _ x1 FA.out HWX.out).mono ?_
          rintro e x2 ⟨yA, cA, rfl, hcA, hfa, hbn⟩
          clear FA
          have FA := Lib.hid hfa
          have hSN := hS.trans (hbn.mono hS.size)
          clear hbn hfa
          refine hK.out _ _ hSN (fun _ => ?_)
          clear hK hS
          have hS := hSN
          clear hSN
          refine takeE 3 47 ?_
          refine wpAnyH_ready (rs := [4, 6]) (by kernel_rfl) (by simp) ?_
          refine AllReadyH.cons rfl (fun K hK => ?_) (AllReadyH.cons rfl (fun K hK => ?_) AllReadyH.nil)
          · have fa := FA.out
            go_simp
            refine hK.out _ _ hS (fun _ => ?_)
            clear hK fa FA
            refine ready1 6 (fun K hK => ?_)
            go_simp
            obtain ⟨x4, hwn⟩ : ∃ z, x2.alloc (.cells #[.int .i8 y] 33) = z := ⟨_, rfl⟩
            rw [hwn]
            have hbn : Below x2.heap.size x2 x4 := by rw [← hwn]; exact mx_al _ _
            have hfa : x4.cell? ⟨x2.heap.size, 0, none⟩ = some (.int .i8 y) := by rw [← hwn]; exact cell_new _ _ _ 0
            have FB := Lib.hid hfa
            have hSN := hS.trans (hbn.mono hS.size)
            clear hbn hwn hfa
            refine hK.out _ _ hSN (fun _ => ?_)
            clear hK hS
            have hS := hSN
            clear hSN
            refine ready1 7 (fun K hK => ?_)
            go_simp
            refine (made_row y _ x4 FB.out HWY.out).mono ?_
            rintro e x5 ⟨yB, cB, rfl, hcB, hfa, hbn⟩
            clear FB
            have FB := Lib.hid hfa
            have hSN := hS.trans (hbn.mono hS.size)
            clear hbn hfa
            refine hK.out _ _ hSN (fun _ => ?_)
            clear hK hS
            have hS := hSN
            clear hSN
            refine takeE 8 52 ?_
            refine takeE 10 15 ?_
            refine ready1 9 (fun K hK => ?_)
            have fa := FB.out
            go_simp
            refine hK.out _ _ hS (fun _ => ?_)
            clear hK fa FB
            refine takeE 11 16 ?_
            refine wpAnyH_done (by kernel_rfl) ?_ _
            have HLX := Lib.hid (HL3.out.below hS)
            clear hS
            go_wp2_with fail
            go_meet
            exact ⟨rfl, rfl, HLX⟩
          · go_simp
            obtain ⟨x3, hwn⟩ : ∃ z, x2.alloc (.cells #[.int .i8 y] 33) = z := ⟨_, rfl⟩
            rw [hwn]
            have hbn : Below x2.heap.size x2 x3 := by rw [← hwn]; exact mx_al _ _
            have hfa : x3.cell? ⟨x2.heap.size, 0, none⟩ = some (.int .i8 y) := by rw [← hwn]; exact cell_new _ _ _ 0
            have FA2 := Lib.hid ((hbn.cell (World.block_lt_of_cell? _ _ FA.out)).trans FA.out)
            clear FA
            have FA := FA2
            clear FA2
            have FB := Lib.hid hfa
            have hSN := hS.trans (hbn.mono hS.size)
            clear hbn hwn hfa
            refine hK.out _ _ hSN (fun _ => ?_)
            clear hK hS
            have hS := hSN
            clear hSN
            refine wpAnyH_ready (rs := [4, 7]) (by kernel_rfl) (by simp) ?_
            refine AllReadyH.cons rfl (fun K hK => ?_) (AllReadyH.cons rfl (fun K hK => ?_) AllReadyH.nil)
            · have fa := FA.out
              go_simp
              refine hK.out _ _ hS (fun _ => ?_)
              clear hK fa FA
              refine ready1 7 (fun K hK => ?_)
              go_simp
              refine (made_row y _ x3 FB.out HWY.out).mono ?_
              rintro e x5 ⟨yB, cB, rfl, hcB, hfa, hbn⟩
              clear FB
              have FB := Lib.hid hfa
              have hSN := hS.trans (hbn.mono hS.size)
              clear hbn hfa
              refine hK.out _ _ hSN (fun _ => ?_)
              clear hK hS
              have hS := hSN
              clear hSN
              refine takeE 8 52 ?_
              refine takeE 10 15 ?_
              refine ready1 9 (fun K hK => ?_)
              have fa := FB.out
              go_simp
              refine hK.out _ _ hS (fun _ => ?_)
              clear hK fa FB
              refine takeE 11 16 ?_
              refine wpAnyH_done (by kernel_rfl) ?_ _
              have HLX := Lib.hid (HL3.out.below hS)
              clear hS
              go_wp2_with fail
              go_meet
              exact ⟨rfl, rfl, HLX⟩
            · go_simp
              refine (made_row y _ x3 FB.out HWY.out).mono ?_
              rintro e x4 ⟨yB, cB, rfl, hcB, hfa, hbn⟩
              have FA2 := Lib.hid ((hbn.cell (World.block_lt_of_cell? _ _ FA.out)).trans FA.out)
              clear FA
              have FA := FA2
              clear FA2
              clear FB
              have FB := Lib.hid hfa
              have hSN := hS.trans (hbn.mono hS.size)
              clear hbn hfa
              refine hK.out _ _ hSN (fun _ => ?_)
              clear hK hS
              have hS := hSN
              clear hSN
              refine takeE 8 52 ?_
              refine wpAnyH_ready (rs := [4, 9]) (by kernel_rfl) (by simp) ?_
              refine AllReadyH.cons rfl (fun K hK => ?_) (AllReadyH.cons rfl (fun K hK => ?_) AllReadyH.nil)
              · have fa := FA.out
                go_simp
                refine hK.out _ _ hS (fun _ => ?_)
                clear hK fa FA
                refine takeE 10 15 ?_
                refine ready1 9 (fun K hK => ?_)
                have fa := FB.out
                go_simp
                refine hK.out _ _ hS (fun _ => ?_)
                clear hK fa FB
                refine takeE 11 16 ?_
                refine wpAnyH_done (by kernel_rfl) ?_ _
                have HLX := Lib.hid (HL3.out.below hS)
                clear hS
                go_wp2_with fail
                go_meet
                exact ⟨rfl, rfl, HLX⟩
              · have fa := FB.out
                go_simp
                refine hK.out _ _ hS (fun _ => ?_)
                clear hK fa FB
                refine ready1 4 (fun K hK => ?_)
                have fa := FA.out
                go_simp
                refine hK.out _ _ hS (fun _ => ?_)
                clear hK fa FA
                refine takeE 10 15 ?_
                refine takeE 11 16 ?_
                refine wpAnyH_done (by kernel_rfl) ?_ _
                have HLX := Lib.hid (HL3.out.below hS)
                clear hS
                go_wp2_with fail
                go_meet
                exact ⟨rfl, rfl, HLX⟩
        · go_simp
          obtain ⟨x2, hwn⟩ : ∃ z, x1.alloc (.cells #[.int .i8 y] 33) = z := ⟨_, rfl⟩
          rw [hwn]
          have hbn : Below x1.heap.size x1 x2 := by rw [← hwn]; exact mx_al _ _
          have hfa : x2.cell? ⟨x1.heap.size, 0, none⟩ = some (.int .i8 y) := by rw [← hwn]; exact cell_new _ _ _ 0
          have FA2 := Lib.hid ((hbn.cell (World.block_lt_of_cell? _ _ FA.out)).trans FA.out)
          clear FA
          have FA := FA2
          clear FA2
          have FB := Lib.hid hfa
          have hSN := hS.trans (hbn.mono hS.size)
          clear hbn hwn hfa
          refine hK.out _ _ hSN (fun _ => ?_)
          clear hK hS
          have hS := hSN
          clear hSN
          refine ready1 2 (fun K hK => ?_)
          go_simp
          refine (made_row x _ x2 FA.out HWX.out).mono ?_
          rintro e x3 ⟨yA, cA, rfl, hcA, hfa, hbn⟩
          have FB2 := Lib.hid ((hbn.cell (World.block_lt_of_cell? _ _ FB.out)).trans FB.out)
          clear FB
          have FB := FB2
          clear FB2
          clear FA
          have FA := Lib.hid hfa
          have hSN := hS.trans (hbn.mono hS.size)
          clear hbn hfa
          refine hK.out _ _ hSN (fun _ => ?_)
          clear hK hS
          have hS := hSN
          clear hSN
          refine takeE 3 47 ?_
          refine wpAnyH_ready (rs := [4, 7]) (by kernel_rfl) (by simp) ?_
          refine AllReadyH.cons rfl (fun K hK => ?_) (AllReadyH.cons rfl (fun K hK => ?_) AllReadyH.nil)
          · have fa := FA.out
            go_simp
            refine hK.out _ _ hS (fun _ => ?_)
            clear hK fa FA
            refine ready1 7 (fun K hK => ?_)
            go_simp
            refine (made_row y _ x3 FB.out HWY.out).mono ?_
            rintro e x5 ⟨yB, cB, rfl, hcB, hfa, hbn⟩
            clear FB
            have FB := Lib.hid hfa
            have hSN := hS.trans (hbn.mono hS.size)
            clear hbn hfa
            refine hK.out _ _ hSN (fun _ => ?_)
            clear hK hS
            have hS := hSN
            clear hSN
            refine takeE 8 52 ?_
            refine takeE 10 15 ?_
            refine ready1 9 (fun K hK => ?_)
            have fa := FB.out
            go_simp
            refine hK.out _ _ hS (fun _ => ?_)
            clear hK fa FB
            refine takeE 11 16 ?_
            refine wpAnyH_done (by kernel_rfl) ?_ _
            have HLX := Lib.hid (HL3.out.below hS)
            clear hS
            go_wp2_with fail
            go_meet
            exact ⟨rfl, rfl, HLX⟩
          · go_simp
            refine (made_row y _ x3 FB.out HWY.out).mono ?_
            rintro e x4 ⟨yB, cB, rfl, hcB, hfa, hbn⟩
            have FA2 := Lib.hid ((hbn.cell (World.block_lt_of_cell? _ _ FA.out)).trans FA.out)
            clear FA
            have FA := FA2
            clear FA2
            clear FB
            have FB := Lib.hid hfa
            have hSN := hS.trans (hbn.mono hS.size)
            clear hbn hfa
            refine hK.out _ _ hSN (fun _ => ?_)
            clear hK hS
            have hS := hSN
            clear hSN
            refine takeE 8 52 ?_
            refine wpAnyH_ready (rs := [4, 9]) (by kernel_rfl) (by simp) ?_
            refine AllReadyH.cons rfl (fun K hK => ?_) (AllReadyH.cons rfl (fun K hK => ?_) AllReadyH.nil)
            · have fa := FA.out
              go_simp
              refine hK.out _ _ hS (fun _ => ?_)
              clear hK fa FA
              refine takeE 10 15 ?_
              refine ready1 9 (fun K hK => ?_)
              have fa := FB.out
              go_simp
              refine hK.out _ _ hS (fun _ => ?_)
              clear hK fa FB
              refine takeE 11 16 ?_
              refine wpAnyH_done (by kernel_rfl) ?_ _
              have HLX := Lib.hid (HL3.out.below hS)
              clear hS
              go_wp2_with fail
              go_meet
              exact ⟨rfl, rfl, HLX⟩
            · have fa := FB.out
              go_simp
              refine hK.out _ _ hS (fun _ => ?_)
              clear hK fa FB
              refine ready1 4 (fun K hK => ?_)
              have fa := FA.out
              go_simp
              refine hK.out _ _ hS (fun _ => ?_)
              clear hK fa FA
              refine takeE 10 15 ?_
              refine takeE 11 16 ?_
              refine wpAnyH_done (by kernel_rfl) ?_ _
              have HLX := Lib.hid (HL3.out.below hS)
              clear hS
              go_wp2_with fail
              go_meet
              exact ⟨rfl, rfl, HLX⟩
      · go_simp
        obtain ⟨x1, hwn⟩ : ∃ z, x0.alloc (.cells #[.int .i8 y] 33) = z := ⟨_, rfl⟩
        rw [hwn]
        have hbn : Below x0.heap.size x0 x1 := by rw [← hwn]; exact mx_al _ _
        have hfa : x1.cell? ⟨x0.heap.size, 0, none⟩ = some (.int .i8 y) := by rw [← hwn]; exact cell_new _ _ _ 0
        have FB := Lib.hid hfa
        have hSN := hS.trans (hbn.mono hS.size)
        clear hbn hwn hfa
        refine hK.out _ _ hSN (fun _ => ?_)
        clear hK hS
        have hS := hSN
        clear hSN
        refine ready1 1 (fun K hK => ?_)
        go_simp
        obtain ⟨x2, hwn⟩ : ∃ z, x1.alloc (.cells #[.int .i8 x] 33) = z := ⟨_, rfl⟩
        rw [hwn]
        have hbn : Below x1.heap.size x1 x2 := by rw [← hwn]; exact mx_al _ _
        have hfa : x2.cell? ⟨x1.heap.size, 0, none⟩ = some (.int .i8 x) := by rw [← hwn]; exact cell_new _ _ _ 0
        have FB2 := Lib.hid ((hbn.cell (World.block_lt_of_cell? _ _ FB.out)).trans FB.out)
        clear FB
        have FB := FB2
        clear FB2
        have FA := Lib.hid hfa
        have hSN := hS.trans (hbn.mono hS.size)
        clear hbn hwn hfa
        refine hK.out _ _ hSN (fun _ => ?_)
        clear hK hS
        have hS := hSN
        clear hSN
        refine ready1 2 (fun K hK => ?_)
        go_simp
        refine (made_row x _ x2 FA.out HWX.out).mono ?_
        rintro e x3 ⟨yA, cA, rfl, hcA, hfa, hbn⟩
        have FB2 := Lib.hid ((hbn.cell (World.block_lt_of_cell? _ _ FB.out)).trans FB.out)
        clear FB
        have FB := FB2
        clear FB2
        clear FA
        have FA := Lib.hid hfa
        have hSN := hS.trans (hbn.mono hS.size)
        clear hbn hfa
        refine hK.out _ _ hSN (fun _ => ?_)
        clear hK hS
        have hS := hSN
        clear hSN
        refine takeE 3 47 ?_
        refine wpAnyH_ready (rs := [4, 7]) (by kernel_rfl) (by simp) ?_
        refine AllReadyH.cons rfl (fun K hK => ?_) (AllReadyH.cons rfl (fun K hK => ?_) AllReadyH.nil)
        · have fa := FA.out
          go_simp
          refine hK.out _ _ hS (fun _ => ?_)
          clear hK fa FA
          refine ready1 7 (fun K hK => ?_)
          go_simp
          refine (made_row y _ x3 FB.out HWY.out).mono ?_
          rintro e x5 ⟨yB, cB, rfl, hcB, hfa, hbn⟩
          clear FB
          have FB := Lib.hid hfa
          have hSN := hS.trans (hbn.mono hS.size)
          clear hbn hfa
          refine hK.out _ _ hSN (fun _ => ?_)
          clear hK hS
          have hS := hSN
          clear hSN
          refine takeE 8 52 ?_
          refine takeE 10 15 ?_
          refine ready1 9 (fun K hK => ?_)
          have fa := FB.out
          go_simp
          refine hK.out _ _ hS (fun _ => ?_)
          clear hK fa FB
          refine takeE 11 16 ?_
          refine wpAnyH_done (by kernel_rfl) ?_ _
          have HLX := Lib.hid (HL3.out.below hS)
          clear hS
          go_wp2_with fail
          go_meet
          exact ⟨rfl, rfl, HLX⟩
        · go_simp
          refine (made_row y _ x3 FB.out HWY.out).mono ?_
          rintro e x4 ⟨yB, cB, rfl, hcB, hfa, hbn⟩
          have FA2 := Lib.hid ((hbn.cell (World.block_lt_of_cell? _ _ FA.out)).trans FA.out)
          clear FA
          have FA := FA2
          clear FA2
          clear FB
          have FB := Lib.hid hfa
          have hSN := hS.trans (hbn.mono hS.size)
          clear hbn hfa
          refine hK.out _ _ hSN (fun _ => ?_)
          clear hK hS
          have hS := hSN
          clear hSN
          refine takeE 8 52 ?_
          refine wpAnyH_ready (rs := [4, 9]) (by kernel_rfl) (by simp) ?_
          refine AllReadyH.cons rfl (fun K hK => ?_) (AllReadyH.cons rfl (fun K hK => ?_) AllReadyH.nil)
          · have fa := FA.out
            go_simp
            refine hK.out _ _ hS (fun _ => ?_)
            clear hK fa FA
            refine takeE 10 15 ?_
            refine ready1 9 (fun K hK => ?_)
            have fa := FB.out
            go_simp
            refine hK.out _ _ hS (fun _ => ?_)
            clear hK fa FB
            refine takeE 11 16 ?_
            refine wpAnyH_done (by kernel_rfl) ?_ _
            have HLX := Lib.hid (HL3.out.below hS)
            clear hS
            go_wp2_with fail
            go_meet
            exact ⟨rfl, rfl, HLX⟩
          · have fa := FB.out
            go_simp
            refine hK.out _ _ hS (fun _ => ?_)
            clear hK fa FB
            refine ready1 4 (fun K hK => ?_)
            have fa := FA.out
            go_simp
            refine hK.out _ _ hS (fun _ => ?_)
            clear hK fa FA
            refine takeE 10 15 ?_
            refine takeE 11 16 ?_
            refine wpAnyH_done (by kernel_rfl) ?_ _
            have HLX := Lib.hid (HL3.out.below hS)
            clear hS
            go_wp2_with fail
            go_meet
            exact ⟨rfl, rfl, HLX⟩
    case rest =>
      obtain ⟨rfl, rfl, HLX⟩ := hcut
      obtain ⟨p, hp⟩ : ∃ p, madeLit x = p := ⟨_, rfl⟩
      obtain ⟨q, hq⟩ : ∃ q, madeLit y = q := ⟨_, rfl⟩
      rw [hp] at HMX
      rw [hq] at HMY
      rw [hp, hq]
      have HD1 := Lib.hid (run_dec2 HLX.out HR0.out h6 HMX.out (by rw [HN0.out]; decide))
      clear hp hq HL3
      go_wp2_with fail
      refine HD1.out.mono ?_
      rintro e w4 ⟨R1, i1, rfl, hd1, hp1, hne1, lab4, hl4, _⟩
      have HDE1 := Lib.hid hd1
      have HP1 := Lib.hid (hp1 HP0.out)
      have HL4 := Lib.hid hl4
      have HNE1 := Lib.hid hne1
      clear hd1 hp1 hl4 hne1 HD1 HLX
      obtain ⟨r1, hr1⟩ : ∃ r, R1.2.2 = r := ⟨_, rfl⟩
      rw [hr1]
      have HRR1 := Lib.hid hr1
      clear hr1
      cases r1 with
      | some id =>
        rw [show (some id : Option Int).getD 0 = id from rfl]
        have hz : (id != 0) = true := by simpa using HNE1.out id HRR1.out
        have HFB := Lib.hid (HB2.out.trans (HL4.out.hb.mono HB2.out.size))
        go_wp2_with fail
        go_ret
        exact ⟨rfl, HFB.out⟩
      | none =>
        rw [show (none : Option Int).getD 0 = 0 from rfl]
        have HR1 := Lib.hid (HDE1.out.ok HRR1.out)
        have HN1 := Lib.hid (HDE1.out.now.trans (by rw [HN0.out]; rfl : T.now + 1 = 1))
        have HAS1 := Lib.hid (law_assigned t R1.1 w4 HL4.out.sys.tr (by have := HR1.out.st.sim.few HR1.out.st.vars; omega))
        clear HNE1
        go_wp2_with fail
        refine HAS1.out.mono ?_
        rintro e w5 ⟨v1, rfl, hra, hb5⟩
        have HI1 := Lib.hid (HL4.out.ints hra)
        obtain ⟨Aa, ca, rfl, _⟩ := mx_slice hra
        have HL5 := Lib.hid (HL4.out.below hb5)
        have HD2 := Lib.hid (run_dec2 HL5.out HR1.out h6 HMY.out (by rw [HN1.out]; decide))
        clear hra hb5 HAS1 HL4
        go_wp2_with fail
        refine HD2.out.mono ?_
        rintro e w6 ⟨R2, i2, rfl, hd2, hp2, hne2, lab6, hl6, hk6⟩
        have HDE2 := Lib.hid hd2
        have HP2 := Lib.hid (hp2 HP1.out)
        have HNE2 := Lib.hid hne2
        have HL6 := Lib.hid hl6
        have HI6 := Lib.hid (HI1.out.next hk6)
        have HN2 := Lib.hid (hd2.now.trans (by rw [HN1.out]; rfl : R1.1.now + 1 = 2))
        have hz2 : (R2.2.2.getD 0 != 0) = R2.2.2.isSome := by
          cases hr : R2.2.2 with
          | none => rfl
          | some id =>
            have := hne2 id hr
            show (id != 0) = true
            simpa using this
        obtain ⟨g2, hg2⟩ : ∃ g, R2.2.2.getD 0 = g := ⟨_, rfl⟩
        rw [hg2] at hz2 ⊢
        have HZ2 := Lib.hid hz2
        have HAS2 := Lib.hid (law_assigned t R2.1 w6 hl6.sys.tr (by have := hd2.st.sim.few hd2.st.vars; omega))
        clear hd2 hp2 hne2 hl6 hk6 hz2 hg2 HNE2 HD2 HL5 HI1
        go_wp2_with fail
        refine HAS2.out.mono ?_
        rintro e w7 ⟨v2, rfl, hra, hb7⟩
        have HI2 := Lib.hid (HL6.out.ints hra)
        obtain ⟨Ab, cb, rfl, _⟩ := mx_slice hra
        have HL7 := Lib.hid (HL6.out.below hb7)
        have HI7 := Lib.hid (HI6.out.frb hb7)
        have HBK := Lib.hid (run_back HL7.out HDE2.out.st HDE2.out.kn HDE2.out.one (j := 0) (Int.le_refl 0) (.inl (by rw [HN2.out]; decide)))
        clear hra hb7 HAS2 HL6 HI6
        go_wp2_with fail
        refine HBK.out.mono ?_
        rintro e w8 ⟨rfl, T0, j0, S0, hr8, hn8, hpre8, _, lab8, hl8, hk8⟩
        have HR8 := Lib.hid hr8
        have HN8 := Lib.hid hn8
        have HP8 := Lib.hid (HP2.out.pre HDE2.out.st.sim hr8.st.sim hpre8)
        have HL8 := Lib.hid hl8
        have HI8 := Lib.hid (HI7.out.next hk8)
        have HJ8 := Lib.hid (HI2.out.next hk8)
        clear hr8 hn8 hpre8 hl8 hk8 HBK HL7 HI7 HI2
        go_wp2_with fail
        go_loopw [92] (fun i wr => ∃ (k : Nat) (labr : Nat → Nat) (T : Trl) (its : List RIt) (S : Wst), k ≤ m ∧ i = .int .i64 k ∧ Hid (Lw w2 wr labr b a t (addAll arn0 0 cs) T S) ∧ Hid (Run cs T its S) ∧ Hid (PL T ∧ T.now ≤ (k : Int)) ∧ Hid (IntsIn (Fr wr labr) wr (.slice Aa R1.1.order.length ca) R1.1.order ∧ IntsIn (Fr wr labr) wr (.slice Ab R2.1.order.length cb) R2.1.order)) (fun i _ => m - (intOf i).toNat)
        case atStart => exact ⟨0, lab8, T0, j0, S0, Nat.zero_le _, rfl, HL8, HR8, Lib.hid ⟨HP8.out, by rw [HN8.out]; exact Int.le_refl 0⟩, Lib.hid ⟨HI8.out, HJ8.out⟩⟩
        case round =>
          obtain ⟨k, labr, T', its', S', hk, rfl, HL, HR, HK, HI⟩ := hrel
          by_cases hlt : k < m
          · obtain ⟨n, hnk⟩ := getElem_of (show k < l.length by omega)
            obtain ⟨g, o, rfl, hg, d0⟩ := HLX0.out k n hnk
            have d1 := (HL.out.hb.cell (p := ⟨g, o + k, none⟩) (Nat.lt_of_lt_of_le hg HB2.out.size)).trans ((HB2.out.cell (p := ⟨g, o + k, none⟩) hg).trans d0)
            have hkl : k < l.length := by omega
            have HMO := Lib.hid (made_one n wr (HWF.out n (List.mem_of_getElem? hnk)))
            have HYN := Lib.hid (madeLit_six n)
            clear hnk d0
            go_wp2_with fail
            refine HMO.out.mono ?_
            rintro e w9 ⟨gy, cy, rfl, hcy, hy, hb9⟩
            have HL9 := Lib.hid (HL.out.below hb9)
            have HI9 := Lib.hid (And.intro (HI.out.1.frb hb9) (HI.out.2.frb hb9))
            have HDE := Lib.hid (run_dec2 HL9.out HR.out h6 HYN.out (by have := HK.out.2; omega))
            clear hb9 HMO d1
            go_wp2_with fail
            refine HDE.out.mono ?_
            rintro e w10 ⟨R, i10, rfl, hd, hp, hne, lab10, hl10, hk10⟩
            have HD := Lib.hid hd
            have HPN := Lib.hid (hp HK.out.1)
            have HNE := Lib.hid hne
            have HL10 := Lib.hid hl10
            have HI10 := Lib.hid (And.intro (HI9.out.1.next hk10) (HI9.out.2.next hk10))
            obtain ⟨r, hr⟩ : ∃ r, R.2.2 = r := ⟨_, rfl⟩
            rw [hr]
            have HRR := Lib.hid hr
            have HND := Lib.hid hd.now
            clear hd hp hne hl10 hk10 hr HDE HL9 HI9 hy
            cases r with
            | none =>
              rw [show (none : Option Int).getD 0 = 0 from rfl]
              have HRN := Lib.hid (HD.out.ok HRR.out)
              have HKN := Lib.hid (show R.1.now ≤ ((k + 1 : Nat) : Int) by have := HND.out; have := HK.out.2; omega)
              clear HD HRR HNE
              go_wp2_with fail
              go_roundw
              case rel => exact ⟨k + 1, lab10, R.1, i10, R.2.1, by omega, by go_num, HL10, HRN, Lib.hid ⟨HPN.out, HKN.out⟩, HI10⟩
              case measure => simp [intOf]; omega
            | some id =>
              rw [show (some id : Option Int).getD 0 = id from rfl]
              have hz : (id != 0) = true := by simpa using HNE.out id HRR.out
              have hnow0 := HR.out.st.sim.now
              have HBK := Lib.hid (run_back HL10.out HD.out.st HD.out.kn HD.out.one (j := 0) (Int.le_refl 0) (.inl (by have := HND.out; omega)))
              have HSIM := Lib.hid HD.out.st.sim
              clear HRR HNE hnow0
              go_wp2_with fail
              refine HBK.out.mono ?_
              rintro e w11 ⟨rfl, T11, i11, S11, hr11, hn11, hpre11, _, lab11, hl11, hk11⟩
              have HR11 := Lib.hid hr11
              have HN11 := Lib.hid hn11
              have HP11 := Lib.hid (HPN.out.pre HSIM.out hr11.st.sim hpre11)
              have HL11 := Lib.hid hl11
              have HI11 := Lib.hid (And.intro (HI10.out.1.next hk11) (HI10.out.2.next hk11))
              clear hr11 hn11 hpre11 hl11 hk11 HBK HL10 HI10 HD HSIM HL HR HK HI HL8 HR8 HN8 HP8 HI8 HJ8
              have HSAME := Lib.hid (run0_same HR0.out HR11.out h6 HN0.out HP0.out HN11.out HP11.out)
              have HD3 := Lib.hid (run_dec2 HL11.out HR11.out h6 HMX.out (by rw [HN11.out]; decide))
              go_wp2_with fail
              refine HD3.out.mono ?_
              rintro e w12 ⟨R3, i3, rfl, hd3, _, _, lab12, hl12, hk12⟩
              obtain ⟨hs1, hs2⟩ := dec_same h6 HSAME.out HMX.out.1 HDE1.out hd3
              have hr3 := hs1.1 HRR1.out
              rw [hr3, show (none : Option Int).getD 0 = 0 from rfl]
              have HSAM3 := Lib.hid (hs2 HRR1.out)
              have HR3 := Lib.hid (hd3.ok hr3)
              have HN3 := Lib.hid (hd3.now.trans (by rw [HN11.out]; rfl : T11.now + 1 = 1))
              have HL12 := Lib.hid hl12
              have HI12 := Lib.hid (And.intro (HI11.out.1.next hk12) (HI11.out.2.next hk12))
              have HAS3 := Lib.hid (law_assigned t R3.1 w12 hl12.sys.tr (by have := hd3.st.sim.few hd3.st.vars; omega))
              clear hd3 hl12 hk12 hs1 hs2 hr3 HD3 HL11 HI11 HSAME
              go_wp2_with fail
              refine HAS3.out.mono ?_
              rintro e w13 ⟨v3, rfl, hra, hb13⟩
              have HI13 := Lib.hid (And.intro (HI12.out.1.frb hb13) (HI12.out.2.frb hb13))
              have hal := law_alike _ _ _ _ w13 HI13.out.1 (HL12.out.ints hra) (by have := HR1.out.st.sim.few HR1.out.st.vars; omega) (by have := HR3.out.st.sim.few HR3.out.st.vars; omega)
              rw [sort_same HR1.out.st.sim HR3.out.st.sim HSAM3.out] at hal
              obtain ⟨A3, c3, rfl, _⟩ := mx_slice hra
              have HAL := Lib.hid hal
              have HL13 := Lib.hid (HL12.out.below hb13)
              clear hra hb13 hal HAS3 HL12 HI12
              go_wp2_with fail
              refine HAL.out.mono ?_
              rintro e w14 ⟨rfl, hb14⟩
              have HL14 := Lib.hid (HL13.out.below hb14)
              have HJ14 := Lib.hid (HI13.out.2.frb hb14)
              have HD4 := Lib.hid (run_dec2 HL14.out HR3.out h6 HMY.out (by rw [HN3.out]; decide))
              clear hb14 HAL HL13 HI13
              go_wp2_with fail
              refine HD4.out.mono ?_
              rintro e w15 ⟨R4, i4, rfl, hd4, _, hne4, lab15, hl15, hk15⟩
              obtain ⟨hs1, hs2⟩ := dec_same h6 HSAM3.out HMY.out.1 HDE2.out hd4
              have hz4 : (R4.2.2.getD 0 != 0) = R2.2.2.isSome := by
                cases hr : R4.2.2 with
                | none =>
                  rw [hs1.2 hr]
                  rfl
                | some id =>
                  have h1 := hne4 id hr
                  cases hr2 : R2.2.2 with
                  | none =>
                    have := hs1.1 hr2
                    rw [hr] at this
                    cases this
                  | some id2 =>
                    show (id != 0) = true
                    simpa using h1
              obtain ⟨g4, hg4⟩ : ∃ g, R4.2.2.getD 0 = g := ⟨_, rfl⟩
              rw [hg4] at hz4 ⊢
              obtain ⟨ri, hri⟩ : ∃ ri, R2.2.2.isSome = ri := ⟨_, rfl⟩
              have hz2 := HZ2.out
              rw [hri] at hz2 hz4
              have HS4 := Lib.hid (show ri = false → ∀ y, Has i2 y ↔ Has i4 y from fun h => hs2 (by
                cases hr2 : R2.2.2 with
                | none => rfl
                | some id2 =>
                  rw [hr2] at hri
                  rw [← hri] at h
                  cases h))
              have HL15 := Lib.hid hl15
              have HJ15 := Lib.hid (HJ14.out.next hk15)
              have HS15 := Lib.hid hd4.st
              clear hd4 hne4 hl15 hk15 hs1 hs2 hg4 hri HD4 HL14 HJ14
              cases ri with
              | true =>
                go_wp2_with fail
                go_ret
                exact ⟨rfl, HB2.out.trans (HL15.out.hb.mono HB2.out.size)⟩
              | false =>
                have HAS4 := Lib.hid (law_assigned t R4.1 w15 HL15.out.sys.tr (by have := HS15.out.sim.few HS15.out.vars; omega))
                go_wp2_with fail
                refine HAS4.out.mono ?_
                rintro e w16 ⟨v4, rfl, hra, hb16⟩
                have hal := law_alike _ _ _ _ w16 (HJ15.out.frb hb16) (HL15.out.ints hra) (by have := HDE2.out.st.sim.few HDE2.out.st.vars; omega) (by have := HS15.out.sim.few HS15.out.vars; omega)
                rw [sort_same HDE2.out.st.sim HS15.out.sim (HS4.out (by trivial))] at hal
                obtain ⟨A4, c4, rfl, _⟩ := mx_slice hra
                have HAL := Lib.hid hal
                have HL16 := Lib.hid (HL15.out.below hb16)
                clear hra hb16 hal HAS4 HL15 HJ15
                go_wp2_with fail
                refine HAL.out.mono ?_
                rintro e w17 ⟨rfl, hb17⟩
                have HFB := Lib.hid (HB2.out.trans ((HL16.out.below hb17).hb.mono HB2.out.size))
                clear hb17 HAL HL16
                go_wp2_with fail
                go_ret
                exact ⟨rfl, HFB.out⟩
          · obtain rfl : k = m := by omega
            have hnow0 := HR.out.st.sim.now
            have HBK := Lib.hid (run_back HL.out HR.out.st HR.out.kn HR.out.one (j := 0) (Int.le_refl 0) (by
              by_cases h : 0 < T'.now
              · exact .inl h
              · exact .inr ⟨by omega, HR.out.lk⟩))
            clear hnow0
            go_wp2_with fail
            refine HBK.out.mono ?_
            rintro e w11 ⟨rfl, T11, i11, S11, hr11, hn11, hpre11, _, lab11, hl11, hk11⟩
            have HR11 := Lib.hid hr11
            have HN11 := Lib.hid hn11
            have HP11 := Lib.hid (HK.out.1.pre HR.out.st.sim hr11.st.sim hpre11)
            have HL11 := Lib.hid hl11
            have HI11 := Lib.hid (And.intro (HI.out.1.next hk11) (HI.out.2.next hk11))
            clear hr11 hn11 hpre11 hl11 hk11 HBK HL HR HK HI HL8 HR8 HN8 HP8 HI8 HJ8
            have HSAME := Lib.hid (run0_same HR0.out HR11.out h6 HN0.out HP0.out HN11.out HP11.out)
            have HD3 := Lib.hid (run_dec2 HL11.out HR11.out h6 HMX.out (by rw [HN11.out]; decide))
            go_wp2_with fail
            refine HD3.out.mono ?_
            rintro e w12 ⟨R3, i3, rfl, hd3, _, _, lab12, hl12, hk12⟩
            obtain ⟨hs1, hs2⟩ := dec_same h6 HSAME.out HMX.out.1 HDE1.out hd3
            have hr3 := hs1.1 HRR1.out
            rw [hr3, show (none : Option Int).getD 0 = 0 from rfl]
            have HSAM3 := Lib.hid (hs2 HRR1.out)
            have HR3 := Lib.hid (hd3.ok hr3)
            have HN3 := Lib.hid (hd3.now.trans (by rw [HN11.out]; rfl : T11.now + 1 = 1))
            have HL12 := Lib.hid hl12
            have HI12 := Lib.hid (And.intro (HI11.out.1.next hk12) (HI11.out.2.next hk12))
            have HAS3 := Lib.hid (law_assigned t R3.1 w12 hl12.sys.tr (by have := hd3.st.sim.few hd3.st.vars; omega))
            clear hd3 hl12 hk12 hs1 hs2 hr3 HD3 HL11 HI11 HSAME
            go_wp2_with fail
            refine HAS3.out.mono ?_
            rintro e w13 ⟨v3, rfl, hra, hb13⟩
            have HI13 := Lib.hid (And.intro (HI12.out.1.frb hb13) (HI12.out.2.frb hb13))
            have hal := law_alike _ _ _ _ w13 HI13.out.1 (HL12.out.ints hra) (by have := HR1.out.st.sim.few HR1.out.st.vars; omega) (by have := HR3.out.st.sim.few HR3.out.st.vars; omega)
            rw [sort_same HR1.out.st.sim HR3.out.st.sim HSAM3.out] at hal
            obtain ⟨A3, c3, rfl, _⟩ := mx_slice hra
            have HAL := Lib.hid hal
            have HL13 := Lib.hid (HL12.out.below hb13)
            clear hra hb13 hal HAS3 HL12 HI12
            go_wp2_with fail
            refine HAL.out.mono ?_
            rintro e w14 ⟨rfl, hb14⟩
            have HL14 := Lib.hid (HL13.out.below hb14)
            have HJ14 := Lib.hid (HI13.out.2.frb hb14)
            have HD4 := Lib.hid (run_dec2 HL14.out HR3.out h6 HMY.out (by rw [HN3.out]; decide))
            clear hb14 HAL HL13 HI13
            go_wp2_with fail
            refine HD4.out.mono ?_
            rintro e w15 ⟨R4, i4, rfl, hd4, _, hne4, lab15, hl15, hk15⟩
            obtain ⟨hs1, hs2⟩ := dec_same h6 HSAM3.out HMY.out.1 HDE2.out hd4
            have hz4 : (R4.2.2.getD 0 != 0) = R2.2.2.isSome := by
              cases hr : R4.2.2 with
              | none =>
                rw [hs1.2 hr]
                rfl
              | some id =>
                have h1 := hne4 id hr
                cases hr2 : R2.2.2 with
                | none =>
                  have := hs1.1 hr2
                  rw [hr] at this
                  cases this
                | some id2 =>
                  show (id != 0) = true
                  simpa using h1
            obtain ⟨g4, hg4⟩ : ∃ g, R4.2.2.getD 0 = g := ⟨_, rfl⟩
            rw [hg4] at hz4 ⊢
            obtain ⟨ri, hri⟩ : ∃ ri, R2.2.2.isSome = ri := ⟨_, rfl⟩
            have hz2 := HZ2.out
            rw [hri] at hz2 hz4
            have HS4 := Lib.hid (show ri = false → ∀ y, Has i2 y ↔ Has i4 y from fun h => hs2 (by
              cases hr2 : R2.2.2 with
              | none => rfl
              | some id2 =>
                rw [hr2] at hri
                rw [← hri] at h
                cases h))
            have HL15 := Lib.hid hl15
            have HJ15 := Lib.hid (HJ14.out.next hk15)
            have HS15 := Lib.hid hd4.st
            clear hd4 hne4 hl15 hk15 hs1 hs2 hg4 hri HD4 HL14 HJ14
            cases ri with
            | true =>
              go_wp2_with fail
              go_ret
              exact ⟨rfl, HB2.out.trans (HL15.out.hb.mono HB2.out.size)⟩
            | false =>
              have HAS4 := Lib.hid (law_assigned t R4.1 w15 HL15.out.sys.tr (by have := HS15.out.sim.few HS15.out.vars; omega))
              go_wp2_with fail
              refine HAS4.out.mono ?_
              rintro e w16 ⟨v4, rfl, hra, hb16⟩
              have hal := law_alike _ _ _ _ w16 (HJ15.out.frb hb16) (HL15.out.ints hra) (by have := HDE2.out.st.sim.few HDE2.out.st.vars; omega) (by have := HS15.out.sim.few HS15.out.vars; omega)
              rw [sort_same HDE2.out.st.sim HS15.out.sim (HS4.out (by trivial))] at hal
              obtain ⟨A4, c4, rfl, _⟩ := mx_slice hra
              have HAL := Lib.hid hal
              have HL16 := Lib.hid (HL15.out.below hb16)
              clear hra hb16 hal HAS4 HL15 HJ15
              go_wp2_with fail
              refine HAL.out.mono ?_
              rintro e w17 ⟨rfl, hb17⟩
              have HFB := Lib.hid (HB2.out.trans ((HL16.out.below hb17).hb.mono HB2.out.size))
              clear hb17 HAL HL16
              go_wp2_with fail
              go_ret
              exact ⟨rfl, HFB.out⟩
theorem again_any (ux ul : Value) (xss : List (List Int)) (l : List Int) (x y : Int) (w : World) (hx : RowsAt .i8 w ux xss) (hwx : (Lit.int .i8 x).wf = true) (hwy : (Lit.int .i8 y).wf = true) (hl : RowAt .i8 w ul l) :
    Calls Tryz.prog 6 #[ux, .int .i8 x, .int .i8 y, ul] w fun e w' => e = .returned (.bool true) ∧ Below w.heap.size w w' := by
  obtain ⟨A1, c1, rfl, _⟩ := id hl
  exact again_walk A1 c1 (min l.length 6) ux xss l x y w hx hwx hwy hl (by omega) (by omega) (by omega)
end Go.Proofs.YtobcnejecogfoaaGreat
