/- slices.Values, AppendSeq, Collect, SortFunc, SortedFunc at literals. -/
import Derived.Test.YthhpffdbipgkcaaGreatDoorCa
import Derived.Test.YthhpffdbipgkcaaGreatDoorMq

import Derived.Sort.OwnSorted
namespace Go.Proofs.YthhpffdbipgkcaaGreatDoor
open Go.RowKit Go.Shelf Go.Sort
attribute [local go_sem] Oper.semAt_some

theorem cinfo_lit : (Tryz.prog.info? 45).map (fun i => (i.zero, i.size, i.bytes)) = some (some (.int .i64 0), 1, 8) := by kernel_rfl
set_option maxRecDepth 100000 in
set_option maxHeartbeats 2000000 in
theorem values1_in {O X : Nat → Prop} (l Bb : Nat) (u : Value) (xs : List Int) (J Jx : List Int → World → Prop) (W : World)
    (hY : ∀ pre x W1, J pre W1 → pre.length < xs.length → YieldAt Fence.wide 7 Tryz.prog l #[.int .i64 x] W1 fun e W' =>
      (e = .returned (.bool true) ∧ J (pre ++ [x]) W' ∧ KpC X W1 W') ∨ (e = .returned (.bool false) ∧ Jx (pre ++ [x]) W'))
    (hB : W.cell? ⟨Bb, 0, none⟩ = some u) (hX : ¬ X Bb) (hu : IntsIn O W u xs) (hOX : ∀ g, O g → ¬ X g) (hlen : xs.length ≤ 140737488355328) (h0 : J [] W) :
    CallsIn Fence.wide 8 Tryz.prog 99 #[.func (.yield l) #[] #[], .pointer (some ⟨Bb, 0, none⟩)] W fun e W' => (∃ v, e = .returned v) ∧
      ((∃ ys, ys = xs ∧ J ys W') ∨ (∃ pre, (pre <+: xs ∧ pre ≠ []) ∧ Jx pre W')) := by
  have hB' := World.block_lt_of_cell? W _ hB
  have HN := Lib.hid hu.narrow
  have HB := Lib.hid hB
  have HY := Lib.hid hY
  have HX := Lib.hid hX
  have HOX := Lib.hid hOX
  have H0 := Lib.hid h0
  obtain ⟨A, c, rfl, hc, _, _⟩ := hu
  clear hY hX hOX h0
  refine callsIn_of_wp Tryz.func99 rfl trivial ?_ rfl
  simp only [Tryz.ntmps99, List.size_toArray, List.length_cons, List.length_nil, Nat.reduceAdd, Nat.reduceSub, Array.replicate_succ, Array.replicate_zero, List.push_toArray, List.append_toArray, List.nil_append, List.cons_append]
  gi_wp2
  gi_loopw [7] (fun i wr => ∃ k : Nat, k ≤ xs.length ∧ i = .int .i64 k ∧ Hid (KpC X W wr) ∧ Hid (J (xs.take k) wr)) (fun i _ => xs.length - (intOf i).toNat)
  case atStart => exact ⟨0, Nat.zero_le _, rfl, Lib.hid (KpC.refl _ _), H0⟩
  case round =>
    obtain ⟨k, hk, rfl, HK, HJ⟩ := hrel
    by_cases hlt : k < xs.length
    · obtain ⟨x, hxk⟩ := getElem_of hlt
      obtain ⟨A', c', hAc, _, _, hxs⟩ := HN.out
      simp only [Value.slice.injEq, true_and] at hAc
      obtain ⟨rfl, rfl⟩ := hAc
      obtain ⟨g, o, rfl, hg, hgo, d0⟩ := hxs k x hxk
      have d1 : wr.cell? ⟨g, o + k, none⟩ = some (.int .i64 x) := (HK.out.kept.cell (p := ⟨g, o + k, none⟩) hg (fun h => h.elim (HOX.out g hgo.1) hgo.2)).trans d0
      have HTK := Lib.hid (show xs.take (k + 1) = xs.take k ++ [x] from by rw [List.take_add_one, hxk]; rfl)
      obtain ⟨fn, tmps, assign, body, hy, hR⟩ := HY.out (xs.take k) x wr HJ.out (by rw [List.length_take]; omega)
      have HR := Lib.hid hR
      clear hxk hxs hgo d0 hR
      gi_wp2_with fail
      refine HR.out.mono ?_
      rintro e W3 (⟨rfl, hJ3, hk3⟩ | ⟨rfl, hJx3⟩)
      · have HJ3 := Lib.hid hJ3
        have HK3 := Lib.hid (HK.out.trans hk3)
        clear hJ3 hk3 hy d1
        gi_wp2_with fail
        go_roundw
        case rel => exact ⟨k + 1, by omega, by go_num, HK3, Lib.hid (by rw [HTK.out]; exact HJ3.out)⟩
        case measure => simp [intOf]; omega
      · gi_wp2
        refine bodyPost_ret (results_none rfl _ _ _) rfl ?_
        exact ⟨⟨_, rfl⟩, .inr ⟨xs.take k ++ [x], ⟨by rw [← HTK.out]; exact List.take_prefix _ _, by simp⟩, hJx3⟩⟩
    · obtain rfl : k = xs.length := by omega
      gi_wp2
      go_end0
      refine ⟨⟨_, rfl⟩, .inl ⟨xs, rfl, ?_⟩⟩
      have := HJ.out
      rwa [List.take_length] at this
theorem values_stops {O X : Nat → Prop} (Bb : Nat) (u : Value) (xs : List Int) (w : World) (hB : w.cell? ⟨Bb, 0, none⟩ = some u) (hX : ¬ X Bb) (hu : IntsIn O w u xs) (hOX : ∀ g, O g → ¬ X g) (hlen : xs.length ≤ 140737488355328) :
    SeqStopsK Fence.wide 8 Tryz.prog 99 #[.pointer (some ⟨Bb, 0, none⟩)] (fun x : Int => #[Value.int .i64 x]) (KpC X) (fun ys => ys = xs) (fun pre => pre <+: xs ∧ pre ≠ []) xs.length w := fun l J Jx W hW _ _ hY h0 =>
  values1_in l Bb u xs J Jx W hY ((hW.cell (p := ⟨Bb, 0, none⟩) (World.block_lt_of_cell? w _ hB)).trans hB) hX (hu.below hW) hOX hlen h0
theorem values_run (A : Option Addr) (n c : Nat) (w : World) : Calls Tryz.prog 90 #[.slice A n c] w fun e w' => e = .returned (.func (.func 99) #[] #[.pointer (some ⟨w.heap.size, 0, none⟩)]) ∧ w.alloc (.cells #[.slice A n c] 34) = w' := by
  go_enter Tryz.func90, Tryz.ntmps90
  go_wp2
  go_ret
  exact ⟨rfl, rfl⟩
set_option maxRecDepth 100000 in
set_option maxHeartbeats 4000000 in
theorem append_values {O : Nat → Prop} (Bb : Nat) (u : Value) (xs : List Int) (w : World) (hB : w.cell? ⟨Bb, 0, none⟩ = some u) (hu : IntsIn O w u xs) (hlen : xs.length ≤ 1000000000000) :
    Calls Tryz.prog 105 #[.slice none 0 0, .func (.func 99) #[] #[.pointer (some ⟨Bb, 0, none⟩)]] w fun e w' => ∃ v, e = .returned v ∧ w'.ownsRow w.heap.size 45 1 v xs.length (xs.map (Value.int .i64)) ∧ Below w.heap.size w w' := by
  have hB' := World.block_lt_of_cell? w _ hB
  obtain ⟨i0, hi, iz0, iz1, iz2⟩ := info_parts cinfo_lit
  obtain ⟨WR, hWR⟩ : ∃ x, w.alloc (.cells #[.slice none 0 0] 33) = x := ⟨_, rfl⟩
  have hbR : Below w.heap.size w WR := by rw [← hWR]; exact mx_al _ _
  have hcR : Boxed WR w.heap.size 33 (.slice none 0 0) := by rw [← hWR]; exact Boxed.new _ _ _
  have hzR := hcR.lt
  have HST := Lib.hid (values_stops (X := fun g => w.heap.size ≤ g) Bb u xs WR ((hbR.cell (p := ⟨Bb, 0, none⟩) hB').trans hB) (fun h => by simp only at h hB'; omega) (hu.lt.below hbR) (fun g h => by omega) (by omega))
  have HWR := Lib.hid hWR
  have HBR := Lib.hid hbR
  have HCR := Lib.hid hcR
  clear hB hu hWR hbR hcR
  refine (callsIn_wide (n := 9)).1 ?_
  refine callsIn_of_wp_marks Tryz.func105 rfl trivial ?_ rfl
  simp only [Tryz.ntmps105, List.size_toArray, List.length_cons, List.length_nil, Nat.reduceAdd, Nat.reduceSub, Array.replicate_succ, Array.replicate_zero, List.push_toArray, List.append_toArray, List.nil_append, List.cons_append]
  gi_wp2
  rw [HWR.out]
  refine wpIn_rangeFunc_ownG rfl (by omega) (gf := 99) (lb := #[.pointer (some ⟨Bb, 0, none⟩)]) rfl trivial (enters_of Tryz.func99 (by kernel_rfl) rfl)
    HST.out (fun h k => h.trans k) (fun W l o o' _ h hc hw => (KpC.putObj W l o o' h hc hw).mono (fun _ _ h => h.elim)) (Below.refl _ _) (fun _ => rfl)
    (fun pre W => (∃ v, Boxed W w.heap.size 33 v ∧ W.ownsRow w.heap.size 45 1 v pre.length (pre.map (Value.int .i64)) ∧ True) ∧ Below w.heap.size w W ∧ w.heap.size < W.heap.size) (fun _ _ _ => False) ?own ?ownx ⟨⟨_, HCR.out, World.ownsRow_nil _ _ _ _, trivial⟩, HBR.out, hzR⟩
    ?frame ?assign ?body ?done ?stop
  case own =>
    exact OwnFrom.and (Own.from (holdsRow_own _ _ _ _ 1 (fun pre : List Int => pre.length) (fun pre => pre.map (Value.int .i64)) (fun _ _ => True)) _) (OwnFrom.and (ownFrom_below (Nat.le_refl _) (by omega)) (fun _ X Y row h hg _ => Nat.lt_of_lt_of_le h hg.size))
  case ownx => exact fun c pre W W' row h _ _ => h
  case assign =>
    intro l x W K hK
    dsimp only
    gi_wp2
    exact hK
  case body =>
    rintro l pre x W ⟨⟨v, hv, hr, -⟩, hb, hz⟩ hlt
    have q1 := hv.cell
    have q2 := hv.frozen
    obtain ⟨A, c, rfl, hc⟩ := mx_slice hr
    have HV := Lib.hid hv
    have HR := Lib.hid hr
    have HB := Lib.hid hb
    clear hv hr hb
    gi_wp2_with (gi_at_builtin; refine wpListIn_append_own _ rfl _ _ 33 rfl w.heap.size 45 i0 (.int .i64 0) 1 8 Tryz.underlying33 hi iz0 iz1 iz2 rfl (by decide) _ _ _ rfl (HR.out.alloc _) ⟨W.heap.size, 0, none⟩ 1 1 [.int .i64 x] rfl rfl ?c1 ?c2 ?c3 ?c4 ?c5 ?_)
    case c1 =>
      intro j u hj
      match j, hj with
      | 0, hj => simp at hj; subst hj; simp [Addr.add]
    case c2 => intro u hu; simp at hu; subst hu; rfl
    case c3 => unfold maxLen; omega
    case c4 => omega
    case c5 => simp; omega
    · intro v' w1 hown' hgrow _
      have hA := Boxed.appended HV.out (by decide) HR.out (Nat.le_of_lt hz) (Nat.le_refl _) hown' hgrow
      obtain ⟨g1, cap, rfl⟩ := ownsRow_succ hown'
      obtain ⟨a1, a2, a3, a4, a5⟩ := hA
      have q3 := a1.cell
      have q4 := a1.frozen
      have A2 := Lib.hid a2
      have A3 := Lib.hid a3
      have A4 := Lib.hid a4
      have A5 := Lib.hid a5
      clear a1 a2 a3 a4 a5 hown' hgrow
      gi_wp2
      refine ⟨A4.out.from _, ⟨A5.out.os, A5.out.tape, A5.out.output, A5.out.size, fun k o hk hX _ => (A5.out.block k (by omega)).trans hk⟩, ⟨_, A2.out, ?_, trivial⟩, HB.out.trans A5.out, Nat.lt_of_lt_of_le hz A5.out.size⟩
      simpa using A3.out
  case done =>
    rintro D ys W hD rfl ⟨⟨v, hv, hr, -⟩, hb, hz⟩ hDf
    have q1 := hv.cell
    have HR := Lib.hid hr
    have HB := Lib.hid hb
    have HD := Lib.hid hDf
    obtain ⟨A, c, rfl, hc⟩ := mx_slice hr
    clear hv hr hb hDf
    gi_wp2
    refine ⟨by simp, .inl ⟨_, _, rfl, run_takeDeferred HD.out, ?_⟩⟩
    have hD0 : w.heap.size ≤ D := Nat.le_trans (Nat.le_of_lt hzR) hD
    refine ⟨_, results_tmp rfl _ _ _, _, rfl, ownsRow_putObj HR.out _ HD.out rfl, HB.out.trans ?_⟩
    exact (Below.refl _ _).grown (grownBy_putObj' W D _) (Nat.le_of_lt hz) (fun g e => by cases e; exact hD0)
  case stop =>
    rintro D c pre W hD _ hf _
    exact hf.elim
theorem collect_values {O : Nat → Prop} (Bb : Nat) (u : Value) (xs : List Int) (w : World) (hB : w.cell? ⟨Bb, 0, none⟩ = some u) (hu : IntsIn O w u xs) (hlen : xs.length ≤ 1000000000000) :
    Calls Tryz.prog 98 #[.func (.func 99) #[] #[.pointer (some ⟨Bb, 0, none⟩)]] w fun e w' => ∃ v, e = .returned v ∧ w'.ownsRow w.heap.size 45 1 v xs.length (xs.map (Value.int .i64)) ∧ Below w.heap.size w w' := by
  have H := Lib.hid (append_values Bb u xs w hB hu hlen)
  clear hB hu
  go_enter Tryz.func98, Tryz.ntmps98
  go_wp2_with fail
  refine H.out.mono ?_
  rintro e w' ⟨v, rfl, hr, hb⟩
  have HR := Lib.hid hr
  have HB := Lib.hid hb
  clear hr hb
  go_wp2_with fail
  go_ret
  exact ⟨_, rfl, HR.out, HB.out⟩
end Go.Proofs.YthhpffdbipgkcaaGreatDoor
