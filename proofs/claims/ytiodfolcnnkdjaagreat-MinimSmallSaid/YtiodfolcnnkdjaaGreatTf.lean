/- The trail from its last literal on: Down. -/
import Derived.Test.YtiodfolcnnkdjaaGreatTb
import Derived.Test.YtiodfolcnnkdjaaGreatMq
namespace Go.Proofs.YtiodfolcnnkdjaaGreat
open Go.RowKit Go.Shelf Go.Maps
attribute [local go_sem] Oper.semAt_some

theorem TrAt.narrow {O : Nat → Prop} {w : World} {b : Nat} {T : Trl} (h : TrAt O w b T) : TrAt (fun g => O g ∧ ¬ XO w g) w b T := by
  obtain ⟨hk, gv, cv, ov, sv, h⟩ := h
  refine ⟨hk, gv, cv, ov, sv, fun g hg => h.own g hg.1, ⟨h.inb, xo_cells h.block⟩, ⟨h.invs, ?_⟩, h.block, h.vars, h.order, fun g hg => ⟨h.orderb g hg, ?_⟩, h.starts, fun g hg => ⟨h.startsb g hg, ?_⟩⟩
  · obtain ⟨c, hc⟩ := own_type h.vars gv rfl
    exact xo_cells hc
  · obtain ⟨c, hc⟩ := own_type h.order g hg
    exact xo_cells hc
  · obtain ⟨c, hc⟩ := own_type h.starts g hg
    exact xo_cells hc
/-- a trail is kept by rounds that touch none of its blocks -/
theorem TrAt.rounds {O X : Nat → Prop} {W w : World} {b : Nat} {T : Trl} (h : TrAt O W b T) (k : KpC X W w) (hX : ∀ g, O g → ¬ X g) : TrAt (fun g => O g ∧ ¬ XO W g) w b T :=
  h.narrow.kept k.kept (fun g hg ho => ho.elim (hX g hg.1) hg.2)
/-- what Down yields: places and literals, from the last one on -/
def downL (o : List Int) : Nat → List (Nat × Int)
  | 0 => []
  | k + 1 => match o[k]? with
    | some l => (k, l) :: downL o k
    | none => []
def dv (x : Nat × Int) : Array Value := #[.int .i64 (x.1 : Int), .int .i64 x.2]
theorem tr_cells {O : Nat → Prop} {w : World} {b m : Nat} {T : Trl} {l : Int} (h : TrAt O w b T) (hl : T.order[m]? = some l) :
    ∃ g c, w.cell? ⟨b, 1, none⟩ = some (.slice (some ⟨g, 0, none⟩) T.order.length c) ∧ w.cell? ⟨g, m, none⟩ = some (.int .i64 l) := by
  obtain ⟨hk, gv, cv, ov, sv, h⟩ := h
  have hm : m < T.order.length := (List.getElem?_eq_some_iff.1 hl).1
  obtain ⟨g, c, cs, hv, _⟩ := mx_some h.order (by omega)
  refine ⟨g, c, ?_, ?_⟩
  · rw [mx_cell h.block, hv]
    rfl
  · have ho := h.order
    rw [hv] at ho
    exact mx_at ho (by rw [List.getElem?_map, hl]; rfl)
set_option maxRecDepth 100000 in
set_option maxHeartbeats 2000000 in
theorem down1_in {O X : Nat → Prop} (l Bt b : Nat) (T : Trl) (J Jx : List (Nat × Int) → World → Prop) (W : World)
    (hY : ∀ pre x W1, J pre W1 → pre.length < T.order.length → YieldAt Fence.wide 7 Tryz.prog l (dv x) W1 fun e W' =>
      (e = .returned (.bool true) ∧ J (pre ++ [x]) W' ∧ KpC X W1 W') ∨ (e = .returned (.bool false) ∧ Jx (pre ++ [x]) W'))
    (hBt : W.cell? ⟨Bt, 0, none⟩ = some (.pointer (some ⟨b, 0, none⟩))) (hX : ¬ X Bt) (hT : TrAt O W b T) (hOX : ∀ g, O g → ¬ X g) (h0 : J [] W) :
    CallsIn Fence.wide 8 Tryz.prog 103 #[.func (.yield l) #[] #[], .pointer (some ⟨Bt, 0, none⟩)] W fun e W' => (∃ v, e = .returned v) ∧
      ((∃ ys, ys = downL T.order T.order.length ∧ J ys W') ∨ (∃ pre, (pre <+: downL T.order T.order.length ∧ pre ≠ []) ∧ Jx pre W')) := by
  have hBt' := World.block_lt_of_cell? W _ hBt
  have hno := hT.1.order
  have HBT := Lib.hid hBt
  have HT := Lib.hid hT
  have HY := Lib.hid hY
  have H0 := Lib.hid h0
  have HX := Lib.hid hX
  have HOX := Lib.hid hOX
  have HLEN := Lib.hid (tr_len b T W hT)
  clear hT hY h0 hX hOX
  refine callsIn_of_wp Tryz.func103 rfl trivial ?_ rfl
  simp only [Tryz.ntmps103, List.size_toArray, List.length_cons, List.length_nil, Nat.reduceAdd, Nat.reduceSub, Array.replicate_succ, Array.replicate_zero, List.push_toArray, List.append_toArray, List.nil_append, List.cons_append]
  refine wpIn_wide.2 (wp_scope_straight ((wpIn_wide (n := 8)).1 ?_))
  refine wpIn_seq ?_
  refine wpIn_label ?_
  gi_wp2_with fail
  refine ⟨trivial, ?_⟩
  refine (callsIn_wide.2 HLEN.out).mono ?_
  rintro e wy ⟨rfl, rfl⟩
  gi_wp2_with fail
  clear hBt
  gi_loopw [3] (fun i wr => ∃ (z : Int) (k : Nat) (pre : List (Nat × Int)), i = .int .i64 z ∧ -1 ≤ z ∧ z < 1048576 ∧ Hid (z + 1 = k) ∧ Hid (pre.length + k = T.order.length) ∧ Hid (pre ++ downL T.order k = downL T.order T.order.length) ∧ Hid (KpC X W wr) ∧ Hid (J pre wr))
    (fun i _ => (intOf i + 1).toNat)
  case atStart =>
    exact ⟨(T.order.length : Int) - 1, T.order.length, [], rfl, by omega, by omega, Lib.hid (by omega), Lib.hid (by simp), Lib.hid rfl, Lib.hid (KpC.refl _ _), H0⟩
  case round =>
    obtain ⟨z, k, pre, rfl, hz1, hz2, HZ, HPL, HPE, HK, HJS⟩ := hrel
    have HTR := Lib.hid (HT.out.rounds HK.out HOX.out)
    have d0 : wr.cell? ⟨Bt, 0, none⟩ = some (.pointer (some ⟨b, 0, none⟩)) := (HK.out.kept.cell (p := ⟨Bt, 0, none⟩) hBt' (fun h => h.elim HX.out (xo_cell HBT.out))).trans HBT.out
    have HLR := Lib.hid (tr_len b T wr HTR.out)
    by_cases hz0 : 0 ≤ z
    · obtain ⟨m, rfl⟩ : ∃ m : Nat, z = (m : Int) := ⟨z.toNat, by omega⟩
      obtain rfl : k = m + 1 := by have := HZ.out; omega
      have hm : m < T.order.length := by have := HPL.out; omega
      have hq : decide ((T.order.length : Int) ≤ (m : Int)) = false := by simp; omega
      have hq2 : decide (T.order.length ≤ m) = false := by simp; omega
      obtain ⟨x, hx⟩ := getElem_of hm
      obtain ⟨g, c, c1, d1⟩ := tr_cells HTR.out hx
      have HD := Lib.hid (show downL T.order (m + 1) = (m, x) :: downL T.order m from by simp only [downL]; rw [hx])
      obtain ⟨fn, tmps, assign, body, hy, hR⟩ := HY.out pre (m, x) wr HJS.out (by have := HPL.out; omega)
      dsimp only [dv] at hy
      have HR := Lib.hid hR
      clear hx hR
      gi_wp2_with fail
      refine ⟨trivial, ?_⟩
      refine (callsIn_wide.2 HLR.out).mono ?_
      rintro e wy ⟨rfl, rfl⟩
      gi_wp2_with fail
      refine HR.out.mono ?_
      rintro e W3 (⟨rfl, hJ3, hk3⟩ | ⟨rfl, hJx3⟩)
      · have HJ3 := Lib.hid hJ3
        have HK3 := Lib.hid (HK.out.trans hk3)
        clear hJ3 hk3 hy d0 c1 d1
        gi_wp2_with fail
        go_roundw
        case rel => exact ⟨(m : Int) - 1, m, pre ++ [(m, x)], rfl, by omega, by omega, Lib.hid (by omega), Lib.hid (by have := HPL.out; simp; omega), Lib.hid (by rw [← HPE.out, HD.out]; simp), HK3, HJ3⟩
        case measure => simp [intOf]
      · gi_wp2_with fail
        rw [Exit.noGoto_ret]
        refine bodyPost_ret (results_none rfl _ _ _) rfl ?_
        refine ⟨⟨_, rfl⟩, .inr ⟨pre ++ [(m, x)], ⟨?_, by simp⟩, hJx3⟩⟩
        rw [← HPE.out, HD.out]
        exact ⟨_, by rw [List.append_assoc]; rfl⟩
    · have hq : decide ((0 : Int) ≤ z) = false := by simpa using hz0
      obtain rfl : k = 0 := by have := HZ.out; omega
      gi_wp2_with fail
      go_end0
      have he : pre = downL T.order T.order.length := by simpa [downL] using HPE.out
      exact ⟨⟨_, rfl⟩, .inl (he ▸ HJS.out)⟩
theorem down_in (b : Nat) (w : World) :
    CallsIn Fence.wide 8 Tryz.prog 76 #[.pointer (some ⟨b, 0, none⟩)] w fun e w' => e = .returned (.func (.func 103) #[] #[.pointer (some ⟨w.heap.size, 0, none⟩)]) ∧ w.alloc (.cells #[.pointer (some ⟨b, 0, none⟩)] 40) = w' := by
  refine callsIn_of_wp Tryz.func76 rfl trivial ?_ rfl
  simp only [Tryz.ntmps76, List.size_toArray, List.length_cons, List.length_nil, Nat.reduceAdd, Nat.reduceSub, Array.replicate_succ, Array.replicate_zero, List.push_toArray, List.append_toArray, List.nil_append, List.cons_append]
  gi_wp2
  go_ret
  exact ⟨rfl, rfl⟩
theorem down_stops {O X : Nat → Prop} (Bt b : Nat) (T : Trl) (w : World) (hBt : w.cell? ⟨Bt, 0, none⟩ = some (.pointer (some ⟨b, 0, none⟩))) (hX : ¬ X Bt) (hT : TrAt O w b T) (hOX : ∀ g, O g → ¬ X g) :
    SeqStopsK Fence.wide 8 Tryz.prog 103 #[.pointer (some ⟨Bt, 0, none⟩)] dv (KpC X) (fun ys => ys = downL T.order T.order.length) (fun pre => pre <+: downL T.order T.order.length ∧ pre ≠ []) T.order.length w := fun l J Jx W hW _ _ hY h0 =>
  down1_in l Bt b T J Jx W hY ((hW.cell (p := ⟨Bt, 0, none⟩) (World.block_lt_of_cell? w _ hBt)).trans hBt) hX (hT.below hW) hOX h0
end Go.Proofs.YtiodfolcnnkdjaaGreat
