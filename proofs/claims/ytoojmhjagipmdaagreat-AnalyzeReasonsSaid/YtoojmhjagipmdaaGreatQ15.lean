/- The watch: clauses with variables that the trail has not; New; first. -/
import Derived.Test.YtoojmhjagipmdaaGreatQ14
namespace Go.Proofs.YtoojmhjagipmdaaGreat
open Go.RowKit Go.Maps Go.Shelf

theorem tr_vars {O : Nat → Prop} (b : Nat) (T : Trl) (w : World) (h : TrAt O w b T) :
    Calls Tryz.prog 105 #[.pointer (some ⟨b, 0, none⟩)] w fun e w' => e = .returned (.int .i64 ((T.vars.length : Int) - 1)) ∧ w = w' := by
  have HIS := Lib.hid (tr_is b T w h)
  obtain ⟨hk, gv, cv, ov, sv, h⟩ := h
  have c0 : w.cell? ⟨b, 0, none⟩ = some (.slice (some ⟨gv, 0, none⟩) T.vars.length cv) := mx_cell (j := 0) h.block
  have hv := hk.vars
  clear h hk
  go_enter Tryz.func105, Tryz.ntmps105
  go_wp2_with fail
  refine HIS.out.mono ?_
  rintro e w' ⟨rfl, rfl⟩
  go_wp2_with fail
  go_ret
  exact ⟨rfl, rfl⟩
def Trl.big (T : Trl) (l : Int) : Bool := decide ((T.vars.length : Int) - 1 < (litV l : Nat))
set_option maxRecDepth 100000 in
set_option maxHeartbeats 2000000 in
theorem big_one {O : Nat → Prop} (b tb q : Nat) (T : Trl) (x : Int) (w : World) (hT : TrAt O w tb T) (c0 : w.cell? ⟨q, 0, none⟩ = some (.pointer (some ⟨b, 0, none⟩))) (c1 : w.cell? ⟨b, 1, none⟩ = some (.pointer (some ⟨tb, 0, none⟩))) :
    Calls Tryz.prog 104 #[.int .i64 x, .pointer (some ⟨q, 0, none⟩)] w fun e w' => e = .returned (.bool (T.big x)) ∧ Below w.heap.size w w' := by
  have hl0 : q < w.heap.size := World.block_lt_of_cell? w _ c0
  have hl1 : b < w.heap.size := World.block_lt_of_cell? w _ c1
  have HV := Lib.hid (lit_var x w.drew)
  have HN := Lib.hid (tr_vars tb T w.drew (hT.below (mx_drew w)))
  unfold Trl.big
  obtain ⟨v, hv⟩ : ∃ v : Int, ((litV x : Nat) : Int) = v := ⟨_, rfl⟩
  obtain ⟨n, hn⟩ : ∃ n : Int, (T.vars.length : Int) - 1 = n := ⟨_, rfl⟩
  rw [hv] at HV ⊢
  rw [hn] at HN ⊢
  have HC := Lib.hid c0
  have HC1 := Lib.hid c1
  clear hT hv hn c0 c1
  go_enter Tryz.func104, Tryz.ntmps104
  go_upto_region 1 with fail
  refine wp_region_held_drew (S := fun w' => Below w.heap.size w w') (by kernel_rfl) (mx_drew w) (fun hS => ?_)
  refine takeE 0 4 ?_
  refine takeF 2 6 (fun wq hSw => (hSw.cell (p := ⟨q, 0, none⟩) hl0).trans HC.out) ?_
  refine takeE 3 7 ?_
  refine takeE 4 8 ?_
  refine takeF 5 9 (fun wq hSw => (hSw.cell (p := ⟨b, 1, none⟩) hl1).trans HC1.out) ?_
  refine ready1 1 (fun K hK => ?_)
  go_simp
  refine HV.out.mono ?_
  rintro e w' ⟨rfl, rfl⟩
  refine hK.out _ _ hS (fun _ => ?_)
  clear hK
  refine ready1 6 (fun K hK => ?_)
  go_simp
  refine HN.out.mono ?_
  rintro e w' ⟨rfl, rfl⟩
  refine hK.out _ _ hS (fun _ => ?_)
  clear hK
  refine takeE 7 11 ?_
  refine takeE 8 3 ?_
  refine wpAnyH_done (by kernel_rfl) ?_ _
  have HB := Lib.hid hS
  clear hS
  go_wp2_with fail
  go_ret
  exact ⟨rfl, HB.out⟩
set_option maxRecDepth 100000 in
set_option maxHeartbeats 2000000 in
theorem index_big {O Oc : Nat → Prop} (b tb q : Nat) (T : Trl) (u : Value) (xs : List Int) (w : World) (hT : TrAt O w tb T) (c0 : w.cell? ⟨q, 0, none⟩ = some (.pointer (some ⟨b, 0, none⟩))) (c1 : w.cell? ⟨b, 1, none⟩ = some (.pointer (some ⟨tb, 0, none⟩))) (h1 : IntsIn Oc w u xs) (hs : xs.length ≤ 4194304) :
    Calls Tryz.prog 113 #[u, .func (.func 104) #[] #[.pointer (some ⟨q, 0, none⟩)]] w fun e w' => (∃ i : Int, e = .returned (.int .i64 i) ∧ decide (0 ≤ i) = xs.any T.big) ∧ Below w.heap.size w w' := by
  have HONE := Lib.hid (fun (W : World) (hb : Below w.heap.size w W) (x : Int) => big_one b tb q T x W (hT.below hb) ((hb.cell (p := ⟨q, 0, none⟩) (World.block_lt_of_cell? w _ c0)).trans c0) ((hb.cell (p := ⟨b, 1, none⟩) (World.block_lt_of_cell? w _ c1)).trans c1))
  have HX := Lib.hid h1
  obtain ⟨A, c, rfl, hc, _, _⟩ := h1
  clear hT c0 c1
  go_enter Tryz.func113, Tryz.ntmps113
  go_wp2
  go_loopw [8] (fun i wr => ∃ k : Nat, k ≤ xs.length ∧ i = .int .i64 k ∧ Hid ((xs.take k).any T.big = false) ∧ Hid (Below w.heap.size w wr)) (fun i _ => xs.length - (intOf i).toNat)
  case atStart => exact ⟨0, Nat.zero_le _, rfl, Lib.hid rfl, Lib.hid (Below.refl _ _)⟩
  case round =>
    obtain ⟨k, hk, rfl, HE, HW⟩ := hrel
    by_cases hlt : k < xs.length
    · obtain ⟨x, hxk⟩ := getElem_of hlt
      obtain ⟨A', c', hAc, _, _, hxs⟩ := HX.out.below HW.out
      simp only [Value.slice.injEq, true_and] at hAc
      obtain ⟨rfl, rfl⟩ := hAc
      obtain ⟨g, o, rfl, hg, _, d1⟩ := hxs k x hxk
      have HTK := Lib.hid (show (xs.take (k + 1)).any T.big = ((xs.take k).any T.big || T.big x) from by rw [List.take_add_one, hxk]; simp)
      have HMX := Lib.hid (List.mem_of_getElem? hxk)
      have HC := Lib.hid (HONE.out wr HW.out x)
      obtain ⟨q, hb⟩ : ∃ q, T.big x = q := ⟨_, rfl⟩
      have HQ := Lib.hid hb
      rw [hb] at HC
      clear hb hxk hxs
      cases q with
      | true =>
        go_wp2_with fail
        refine HC.out.mono ?_
        rintro e w' ⟨rfl, hbw⟩
        have HB2 := Lib.hid (HW.out.trans (hbw.mono HW.out.size))
        clear hbw d1
        go_wp2
        go_ret
        refine ⟨⟨_, rfl, ?_⟩, HB2.out⟩
        rw [List.any_eq_true.2 ⟨x, HMX.out, HQ.out⟩]
        simp
      | false =>
        go_wp2_with fail
        refine HC.out.mono ?_
        rintro e w' ⟨rfl, hbw⟩
        have HB2 := Lib.hid (HW.out.trans (hbw.mono HW.out.size))
        clear hbw d1
        go_wp2
        go_roundw
        case rel => exact ⟨k + 1, by omega, by go_num, Lib.hid (by rw [HTK.out, HE.out, HQ.out]; rfl), HB2⟩
        case measure => simp [intOf]; omega
    · obtain rfl : k = xs.length := by omega
      go_wp2
      go_ret
      refine ⟨⟨_, rfl, ?_⟩, HW.out⟩
      have := HE.out
      rw [List.take_length] at this
      rw [this]
      rfl
theorem contains_big {O Oc : Nat → Prop} (b tb q : Nat) (T : Trl) (u : Value) (xs : List Int) (w : World) (hT : TrAt O w tb T) (c0 : w.cell? ⟨q, 0, none⟩ = some (.pointer (some ⟨b, 0, none⟩))) (c1 : w.cell? ⟨b, 1, none⟩ = some (.pointer (some ⟨tb, 0, none⟩))) (h1 : IntsIn Oc w u xs) (hs : xs.length ≤ 4194304) :
    Calls Tryz.prog 103 #[u, .func (.func 104) #[] #[.pointer (some ⟨q, 0, none⟩)]] w fun e w' => e = .returned (.bool (xs.any T.big)) ∧ Below w.heap.size w w' := by
  have H := Lib.hid (index_big b tb q T u xs w hT c0 c1 h1 hs)
  obtain ⟨z, hz⟩ : ∃ z, xs.any T.big = z := ⟨_, rfl⟩
  rw [hz] at H ⊢
  clear hT c0 c1 h1 hz
  go_enter Tryz.func103, Tryz.ntmps103
  go_wp2_with fail
  refine H.out.mono ?_
  rintro e w' ⟨⟨i, rfl, hi⟩, hb⟩
  have HI := Lib.hid hi
  have HB := Lib.hid hb
  clear hi hb
  go_wp2_with fail
  go_ret
  exact ⟨ret_bool HI.out, HB.out⟩
theorem first_run (b : Nat) (A : Option Addr) (n c : Nat) (w : World) : Calls Tryz.prog 108 #[.pointer (some ⟨b, 0, none⟩), .slice A n c] w fun e w' => e = .returned (.func (.func 144) #[] #[.pointer (some ⟨w.heap.size + 1, 0, none⟩), .pointer (some ⟨w.heap.size, 0, none⟩)]) ∧ (w.alloc (.cells #[.pointer (some ⟨b, 0, none⟩)] 39)).alloc (.cells #[.slice A n c] 33) = w' := by
  go_enter Tryz.func108, Tryz.ntmps108
  go_wp2
  go_ret
  exact ⟨rfl, rfl⟩
end Go.Proofs.YtoojmhjagipmdaaGreat
