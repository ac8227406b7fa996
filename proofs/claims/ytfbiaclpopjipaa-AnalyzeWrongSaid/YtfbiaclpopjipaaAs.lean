/- awake (package salvorlaw14). -/
import Derived.Test.YtfbiaclpopjipaaAr
namespace Go.Proofs.Ytfbiaclpopjipaa
open Go.RowKit

theorem put_conf {n : Nat} {w : World} {a b : Nat} {A : Arn} {T : Trl} (id : Int) (h : PutAt n w a b A T) :
    Calls Try.prog 18 #[.pointer (some ⟨a, 0, none⟩), .pointer (some ⟨b, 0, none⟩), .int .i64 id] w fun e w' => (∃ v, e = .returned (.tuple #[v, .int .i64 ((confP A T id).2 : Nat)]) ∧ LrnAt w.heap.size w' v (confP A T id).1) ∧ Below w.heap.size w w' := by
  obtain ⟨_, OA, OT, h1, h2, _⟩ := h
  exact an_conflict a b A T id w h1 h2
theorem put_right {n : Nat} {w : World} {a b : Nat} {A : Arn} {T : Trl} (v : Int) (h : PutAt n w a b A T) :
    Calls Try.prog 20 #[.pointer (some ⟨a, 0, none⟩), .pointer (some ⟨b, 0, none⟩), .int .i64 v] w fun e w' => e = .returned (.tuple #[.bool (rightB A T v), .int .i64 0]) ∧ Below w.heap.size w w' := by
  obtain ⟨_, OA, OT, h1, h2, _⟩ := h
  exact an_right a b A T v w h1 h2
theorem put_level {n : Nat} {w : World} {a b : Nat} {A : Arn} {T : Trl} (id : Int) (c : List Int) (hg : A.get id = some c) (h : PutAt n w a b A T) :
    Calls Try.prog 19 #[.pointer (some ⟨a, 0, none⟩), .pointer (some ⟨b, 0, none⟩), .int .i64 id] w fun e w' => e = .returned (levelVal (T.failMax c 0)) ∧ Below w.heap.size w w' := by
  obtain ⟨_, OA, OT, h1, h2, _⟩ := h
  exact an_level a b A T id c w h1 h2 hg
/-- what Conflict returns, its slices named -/
theorem LrnAt.parts {n : Nat} {w : World} {v : Value} {r : Lrn} (h : LrnAt n w v r) : ∃ Ax cx Ay cy Az cz, v = .agg #[.slice Ax r.lits.length cx, .int .i64 r.back, .int .i64 r.levels, .slice Ay r.hints.length cy, .slice Az r.met.length cz] ∧
    (∀ w', Below w.heap.size w w' → IntsIn (fun g => n ≤ g) w' (.slice Ax r.lits.length cx) r.lits) ∧ (∀ w', Below w.heap.size w w' → IntsIn (fun g => n ≤ g) w' (.slice Ay r.hints.length cy) r.hints) ∧ (∀ w', Below w.heap.size w w' → IntsIn (fun g => n ≤ g) w' (.slice Az r.met.length cz) r.met) := by
  obtain ⟨x, y, z, rfl, hx, hy, hz⟩ := h
  obtain ⟨Ax, cx, rfl, _⟩ := mx_slice hx
  obtain ⟨Ay, cy, rfl, _⟩ := mx_slice hy
  obtain ⟨Az, cz, rfl, _⟩ := mx_slice hz
  exact ⟨Ax, cx, Ay, cy, Az, cz, rfl, fun w' hb => ((IntsIn.of_own hx).below hb).mono (fun g hg => hg.1), fun w' hb => ((IntsIn.of_own hy).below hb).mono (fun g hg => hg.1), fun w' hb => ((IntsIn.of_own hz).below hb).mono (fun g hg => hg.1)⟩
theorem eqc_lit {O : Nat → Prop} (W : World) (u : Value) (xs ys : List Int) (h : ∀ w', Below W.heap.size W w' → IntsIn O w' u xs) (hs : xs.length ≤ 1000) :
    Calls Try.prog 23 #[u, .slice (some ⟨W.heap.size, 0, none⟩) ys.length ys.length] (W.alloc (.cells (ys.map (Value.int .i64)).toArray 33)) fun e w' => e = .returned (.bool (xs == ys)) ∧ Below W.heap.size W w' := by
  have hb := mx_al W (.cells (ys.map (Value.int .i64)).toArray 33)
  refine (eq_c u _ xs ys _ (h _ hb) (mx_ints W ys _) (by omega)).mono ?_
  rintro e w' ⟨rfl, n, rfl⟩
  exact ⟨rfl, hb.trans ((mx_drewN _ n).mono hb.size)⟩
theorem eqi_lit {O : Nat → Prop} (W : World) (u : Value) (xs ys : List Int) (h : ∀ w', Below W.heap.size W w' → IntsIn O w' u xs) (hs : xs.length ≤ 1000) :
    Calls Try.prog 26 #[u, .slice (some ⟨W.heap.size, 0, none⟩) ys.length ys.length] (W.alloc (.cells (ys.map (Value.int .i64)).toArray 3)) fun e w' => e = .returned (.bool (xs == ys)) ∧ Below W.heap.size W w' := by
  have hb := mx_al W (.cells (ys.map (Value.int .i64)).toArray 3)
  refine (eq_i u _ xs ys _ (h _ hb) (mx_ints W ys _) (by omega)).mono ?_
  rintro e w' ⟨rfl, n, rfl⟩
  exact ⟨rfl, hb.trans ((mx_drewN _ n).mono hb.size)⟩
def exD : List ActP := [⟨false, 3, 5⟩, ⟨true, 0, 0⟩, ⟨true, 0, 0⟩, ⟨false, 1, 0⟩, ⟨false, 2, 1⟩, ⟨false, 4, 2⟩, ⟨false, 5, 3⟩]
theorem exL_len : ∀ c ∈ exL, c.length ≤ 1000 := by decide
set_option maxRecDepth 100000 in
set_option maxHeartbeats 4000000 in
theorem awake_any (w : World) : Calls Try.prog 5 #[] w fun e w' => e = .returned (.bool true) ∧ Below w.heap.size w w' := by
  have HEX := Lib.hid (example_any w)
  go_enter Try.func5, Try.ntmps5
  go_wp2_with fail
  refine HEX.out.mono ?_
  rintro e w1 ⟨cv, g, W6, rfl, hc, hz6, hb6, hg, hwg, hb1⟩
  have HC := Lib.hid hc
  have HG := Lib.hid hg
  have H6 := Lib.hid hb6
  have HB1 := Lib.hid hb1
  have HZ6 := Lib.hid hz6
  have hg1 := heap_lt hg
  obtain ⟨Ac, cc, rfl, _⟩ := hc
  rw [show exL.length = 5 from rfl] at HC
  have ha1 : ActsIn w1 (.slice (some ⟨g, 0, none⟩) 7 7) exA := acts_of_block (l := exA) hg rfl (by rw [List.toList_toArray]; exact List.take_of_length_le (by decide))
  have hp := put_any 5 _ _ exL exA w1 (by decide) ((HC.out).below (by rw [hz6]; exact hb6)) ha1 (by decide) exL_len (by decide)
  have HP := Lib.hid hp
  clear hg hb6 hb1 hz6 ha1 hp HEX
  rw [show exL.length = 5 from rfl]
  go_wp2_with fail
  refine HP.out.mono ?_
  rintro e w2 ⟨a, b, rfl, hpa, hb2⟩
  have HPA := Lib.hid hpa
  have hz2 := hb2.size
  have HB2 := Lib.hid hb2
  clear HP hpa hb2
  have hcf := put_conf 4 HPA.out
  rw [show addAll arn0 0 exL = exAr from rfl, show playAll (trl0 5) exA = exT from rfl, ex_conf1] at hcf
  have HCF := Lib.hid hcf
  clear hcf
  go_wp2_with fail
  refine HCF.out.mono ?_
  rintro e w3 ⟨⟨v, rfl, hv⟩, hb3⟩
  obtain ⟨Ax, cx, Ay, cy, Az, cz, rfl, hx, hy, hz⟩ := hv.parts
  have HX := Lib.hid hx
  have HY := Lib.hid hy
  have HZ := Lib.hid hz
  have HB3 := Lib.hid hb3
  clear hx hy hz hv HCF hb3
  go_wp2_with fail
  obtain ⟨Wa, hWa⟩ : ∃ x, w3.alloc (.cells #[.slice Ax 2 cx, .int .i64 1, .int .i64 2, .slice Ay 3 cy, .slice Az 4 cz] 51) = x := ⟨_, rfl⟩
  have hbA : Below w3.heap.size w3 Wa := by rw [← hWa]; exact mx_al _ _
  have hbx : Wa.heap[w3.heap.size]? = some (.cells #[.slice Ax 2 cx, .int .i64 1, .int .i64 2, .slice Ay 3 cy, .slice Az 4 cz] 51 (0, 0)) := by rw [← hWa]; exact World.alloc_heap_new _ _
  have hzA : Wa.heap.size = w3.heap.size + 1 := by rw [← hWa]; simp
  rw [hWa]
  have HA1 := Lib.hid hbA
  have HBX1 := Lib.hid hbx
  have HZA1 := Lib.hid hzA
  clear hbA hbx hzA hWa
  have hq := eqc_lit Wa (.slice Ax 2 cx) [-2, -3] [-2, -3] (fun w' hb => HX.out w' (HA1.out.trans (hb.mono HA1.out.size))) (by decide)
  rw [HZA1.out] at hq
  rw [show (([-2, -3] : List Int) == [-2, -3]) = true from rfl] at hq
  have HQ := Lib.hid hq
  clear hq
  refine HQ.out.mono ?_
  rintro e w4 ⟨rfl, hbq⟩
  clear HQ
  rw [← HZA1.out] at hbq
  have HB4 := Lib.hid (HA1.out.trans (hbq.mono HA1.out.size))
  obtain ⟨⟨o0, o1, o2, o3, o4⟩, _⟩ := cells5 ((hbq.block _ (heap_lt HBX1.out)).trans HBX1.out)
  have HBX4 := Lib.hid ((hbq.block _ (heap_lt HBX1.out)).trans HBX1.out)
  clear hbq
  go_wp2_with fail
  have hq := eqi_lit w4 (.slice Ay 3 cy) [2, 3, 4] [2, 3, 4] (fun w' hb => HY.out w' (HB4.out.trans (hb.mono HB4.out.size))) (by decide)
  skip
  rw [show (([2, 3, 4] : List Int) == [2, 3, 4]) = true from rfl] at hq
  have HQ := Lib.hid hq
  clear hq
  refine HQ.out.mono ?_
  rintro e w5 ⟨rfl, hbq⟩
  clear HQ
  have HB5 := Lib.hid (HB4.out.trans (hbq.mono HB4.out.size))
  clear o0 o1 o2 o3 o4
  obtain ⟨⟨o0, o1, o2, o3, o4⟩, _⟩ := cells5 ((hbq.block _ (heap_lt HBX4.out)).trans HBX4.out)
  clear hbq
  go_wp2_with fail
  have hq := eqi_lit w5 (.slice Az 4 cz) [2, 3, 4, 5] [2, 3, 4, 5] (fun w' hb => HZ.out w' (HB5.out.trans (hb.mono HB5.out.size))) (by decide)
  skip
  rw [show (([2, 3, 4, 5] : List Int) == [2, 3, 4, 5]) = true from rfl] at hq
  have HQ := Lib.hid hq
  clear hq
  refine HQ.out.mono ?_
  rintro e w6 ⟨rfl, hbq⟩
  clear HQ
  have HB6 := Lib.hid (HB3.out.trans ((HB5.out.trans (hbq.mono HB5.out.size)).mono HB3.out.size))
  clear o0 o1 o2 o3 o4 hbq
  have hr4 := put_right 4 (HPA.out.below HB6.out)
  rw [show addAll arn0 0 exL = exAr from rfl, show playAll (trl0 5) exA = exT from rfl, ex_right4] at hr4
  have HR4 := Lib.hid hr4
  clear hr4
  go_wp2_with fail
  refine HR4.out.mono ?_
  rintro e w7 ⟨rfl, hb⟩
  have HB7 := Lib.hid (HB6.out.trans (hb.mono HB6.out.size))
  clear hb HR4
  have hr1 := put_right 1 (HPA.out.below HB7.out)
  rw [show addAll arn0 0 exL = exAr from rfl, show playAll (trl0 5) exA = exT from rfl, ex_right1] at hr1
  have HR1 := Lib.hid hr1
  clear hr1
  go_wp2_with fail
  refine HR1.out.mono ?_
  rintro e w8 ⟨rfl, hb⟩
  have HB8 := Lib.hid (HB7.out.trans (hb.mono HB7.out.size))
  clear hb HR1
  have hl4 := put_level (A := exAr) (T := exT) 4 [-5, -4, -2] ex_get4 (HPA.out.below HB8.out)
  rw [ex_f4] at hl4
  have HL4 := Lib.hid hl4
  clear hl4
  go_wp2_with fail
  refine HL4.out.mono ?_
  rintro e w9 ⟨rfl, hb⟩
  rw [show levelVal (some 2) = .tuple #[.int .i64 2, .int .i64 0] from rfl]
  have HB9 := Lib.hid (HB8.out.trans (hb.mono HB8.out.size))
  clear hb HL4
  have hc5 := put_conf 5 (HPA.out.below HB9.out)
  rw [show addAll arn0 0 exL = exAr from rfl, show playAll (trl0 5) exA = exT from rfl, ex_conf5] at hc5
  have HC5 := Lib.hid hc5
  clear hc5
  go_wp2_with fail
  refine HC5.out.mono ?_
  rintro e w10 ⟨⟨v, rfl, hv⟩, hb⟩
  obtain ⟨Bx, dx, By, dy, Bz, dz, rfl, _⟩ := hv.parts
  have HB10 := Lib.hid (HB9.out.trans (hb.mono HB9.out.size))
  clear hv HC5 hb
  have hg10 : w10.heap[g]? = some (.cells (exA.flatMap ActP.cells).toArray 66 (0, 0)) := (HB10.out.block g (by omega)).trans ((HB2.out.block g hg1).trans HG.out)
  have c0 : w10.cell? ⟨g, 0, none⟩ = some (.bool true) := mx_cell (j := 0) hg10
  have c1 : w10.cell? ⟨g, 1, none⟩ = some (.int .i64 0) := mx_cell (j := 1) hg10
  have c2 : w10.cell? ⟨g, 2, none⟩ = some (.int .i64 0) := mx_cell (j := 2) hg10
  have c3 : w10.cell? ⟨g, 3, none⟩ = some (.bool false) := mx_cell (j := 3) hg10
  have c4 : w10.cell? ⟨g, 4, none⟩ = some (.int .i64 3) := mx_cell (j := 4) hg10
  have c5 : w10.cell? ⟨g, 5, none⟩ = some (.int .i64 0) := mx_cell (j := 5) hg10
  have f0 := mx_free (j := 0) hg10
  have f1 := mx_free (j := 1) hg10
  have f2 := mx_free (j := 2) hg10
  have f3 := mx_free (j := 3) hg10
  have f4 := mx_free (j := 4) hg10
  have f5 := mx_free (j := 5) hg10
  have hglt := heap_lt hg10
  have HG10 := Lib.hid hg10
  clear hg10
  go_wp2_with fail
  obtain ⟨Wd, hWd⟩ : ∃ x, ((((((w10.setCell ⟨g, 0, none⟩ (.bool false)).setCell ⟨g, 1, none⟩ (.int .i64 3)).setCell ⟨g, 2, none⟩ (.int .i64 5)).setCell ⟨g, 3, none⟩ (.bool true)).setCell ⟨g, 4, none⟩ (.int .i64 0)).setCell ⟨g, 5, none⟩ (.int .i64 0)).alloc (.cells #[.slice Bx lrn0.lits.length dx, .int .i64 lrn0.back, .int .i64 lrn0.levels, .slice By lrn0.hints.length dy, .slice Bz lrn0.met.length dz] 51) = x := ⟨_, rfl⟩
  have hgd : Wd.heap[g]? = some (.cells (exD.flatMap ActP.cells).toArray 66 (0, 0)) := by
    rw [← hWd, Below.heap_alloc _ _ _ (by simp [World.setCell]; omega)]
    exact mx_set (j := 5) (mx_set (j := 4) (mx_set (j := 3) (mx_set (j := 2) (mx_set (j := 1) (mx_set (j := 0) HG10.out _) _) _) _) _) _
  have h1d : Below g w1 Wd := by
    rw [← hWd]
    exact ((((((((HB2.out.trans (HB10.out.mono hz2)).mono (Nat.le_of_lt hg1)).setCell (Nat.le_refl g) _).setCell (Nat.le_refl g) _).setCell (Nat.le_refl g) _).setCell (Nat.le_refl g) _).setCell (Nat.le_refl g) _).setCell (Nat.le_refl g) _).alloc (by simp [World.setCell]; omega) _
  rw [hWd]
  have H1D := Lib.hid h1d
  have HGD := Lib.hid hgd
  have hgdl := heap_lt hgd
  have HDL := Lib.hid (del_acts g _ exD Wd hgd rfl (List.toList_toArray))
  clear hWd hgd h1d c0 c1 c2 c3 c4 c5 f0 f1 f2 f3 f4 f5
  refine HDL.out.mono ?_
  rintro e w11 ⟨rfl, hac, hk11⟩
  rw [show exD.eraseIdx 2 = exB from rfl] at hac
  have h11 : Below g w1 w11 := below_kept H1D.out hk11 (fun i e => Nat.le_of_eq e.symm) (Nat.le_of_lt hgdl)
  have hg11 : g < w11.heap.size := Nat.lt_of_lt_of_le hgdl hk11.size
  have hp := put_any 5 _ _ exL exB w11 (by decide) (HC.out.below (by rw [HZ6.out]; exact H6.out.trans h11)) hac (by decide) exL_len (by decide)
  have HP := Lib.hid hp
  have H11 := Lib.hid h11
  clear hp hac hk11 h11 HDL
  go_wp2_with fail
  refine HP.out.mono ?_
  rintro e w12 ⟨a2, b2, rfl, hpa, hb12⟩
  have HPB := Lib.hid hpa
  have HB12 := Lib.hid (H11.out.trans (hb12.mono (Nat.le_of_lt hg11)))
  have hz12 := hb12.size
  clear HP hpa hb12
  have hcf := put_conf 4 HPB.out
  rw [show addAll arn0 0 exL = exAr from rfl, show playAll (trl0 5) exB = exU from rfl, ex_conf2] at hcf
  have HCF := Lib.hid hcf
  clear hcf
  go_wp2_with fail
  refine HCF.out.mono ?_
  rintro e w13 ⟨⟨v, rfl, hv⟩, hb13⟩
  obtain ⟨Cx, ex, Cy, ey, Cz, ez, rfl, hx, hy, _⟩ := hv.parts
  have HX2 := Lib.hid hx
  have HY2 := Lib.hid hy
  have HB13 := Lib.hid (HB12.out.trans (hb13.mono (Nat.le_trans (Nat.le_of_lt hg11) hz12)))
  have hz13 := hb13.size
  clear hx hy hv HCF hb13
  go_wp2_with fail
  obtain ⟨Wb, hWb⟩ : ∃ x, w13.alloc (.cells #[.slice Cx 1 ex, .int .i64 0, .int .i64 1, .slice Cy 4 ey, .slice Cz 3 ez] 51) = x := ⟨_, rfl⟩
  have hbA : Below w13.heap.size w13 Wb := by rw [← hWb]; exact mx_al _ _
  have hbx : Wb.heap[w13.heap.size]? = some (.cells #[.slice Cx 1 ex, .int .i64 0, .int .i64 1, .slice Cy 4 ey, .slice Cz 3 ez] 51 (0, 0)) := by rw [← hWb]; exact World.alloc_heap_new _ _
  have hzA : Wb.heap.size = w13.heap.size + 1 := by rw [← hWb]; simp
  rw [hWb]
  have HA2 := Lib.hid hbA
  have HBX2 := Lib.hid hbx
  have HZA2 := Lib.hid hzA
  clear hbA hbx hzA hWb
  have hq := eqc_lit Wb (.slice Cx 1 ex) [-2] [-2] (fun w' hb => HX2.out w' (HA2.out.trans (hb.mono HA2.out.size))) (by decide)
  rw [HZA2.out] at hq
  rw [show (([-2] : List Int) == [-2]) = true from rfl] at hq
  have HQ := Lib.hid hq
  clear hq
  refine HQ.out.mono ?_
  rintro e w14 ⟨rfl, hbq⟩
  clear HQ
  rw [← HZA2.out] at hbq
  have HB14 := Lib.hid (HA2.out.trans (hbq.mono HA2.out.size))
  obtain ⟨⟨o0, o1, o2, o3, o4⟩, _⟩ := cells5 ((hbq.block _ (heap_lt HBX2.out)).trans HBX2.out)
  clear hbq
  go_wp2_with fail
  have hq := eqi_lit w14 (.slice Cy 4 ey) [5, 2, 3, 4] [5, 2, 3, 4] (fun w' hb => HY2.out w' (HB14.out.trans (hb.mono HB14.out.size))) (by decide)
  skip
  rw [show (([5, 2, 3, 4] : List Int) == [5, 2, 3, 4]) = true from rfl] at hq
  have HQ := Lib.hid hq
  clear hq
  refine HQ.out.mono ?_
  rintro e w15 ⟨rfl, hbq⟩
  clear HQ
  have hlast : Below w.heap.size w w15 := HB1.out.trans ((HB13.out.trans ((HB14.out.trans (hbq.mono HB14.out.size)).mono (Nat.le_trans (Nat.le_trans (Nat.le_of_lt hg11) hz12) hz13))).mono hwg)
  have HLAST := Lib.hid hlast
  clear hbq hlast o0 o1 o2 o3 o4
  go_wp2_with fail
  go_ret
  exact ⟨rfl, HLAST.out⟩
end Go.Proofs.Ytfbiaclpopjipaa
