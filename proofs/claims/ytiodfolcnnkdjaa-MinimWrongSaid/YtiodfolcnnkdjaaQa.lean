/- minim: failing, start. -/
import Derived.Test.YtiodfolcnnkdjaaPe
import Derived.Test.YtiodfolcnnkdjaaPq
namespace Go.Proofs.Ytiodfolcnnkdjaa
open Go.RowKit

/-- the first index of what has a property; -1 if there is none -/
def FstAt (xs : List Int) (P : Int → Bool) (i : Int) : Prop := (i = -1 ∧ ∀ x ∈ xs, P x = false) ∨ ∃ k : Nat, i = k ∧ k < xs.length ∧ (∀ j x, j < k → xs[j]? = some x → P x = false) ∧ ∃ x, xs[k]? = some x ∧ P x = true
theorem FstAt.any {xs : List Int} {P : Int → Bool} {i : Int} (h : FstAt xs P i) : decide (0 ≤ i) = xs.any P := by
  rcases h with ⟨rfl, h⟩ | ⟨k, rfl, _, _, x, hx, hp⟩
  · have : xs.any P = false := List.any_eq_false.2 (fun x hx => by rw [h x hx]; decide)
    rw [this]
    rfl
  · have : xs.any P = true := List.any_eq_true.2 ⟨x, List.mem_of_getElem? hx, hp⟩
    rw [this]
    exact decide_eq_true (by omega)
theorem fail_one {O : Nat → Prop} (b q : Nat) (T : Trl) (x : Int) (w : World) (h : TrAt O w b T) (hq : w.cell? ⟨q, 0, none⟩ = some (.pointer (some ⟨b, 0, none⟩))) :
    Calls Try.prog 58 #[.int .i64 x, .pointer (some ⟨q, 0, none⟩)] w fun e w' => e = .returned (.bool (decide (0 ≤ T.val x))) ∧ Below w.heap.size w w' := by
  have HV := Lib.hid (tr_value b T x w h)
  obtain ⟨z, hz⟩ : ∃ z, T.val x = z := ⟨_, rfl⟩
  rw [hz] at HV ⊢
  clear hz h
  go_enter Try.func58, Try.ntmps58
  go_wp2_with fail
  refine HV.out.mono ?_
  rintro e w' ⟨rfl, hb⟩
  have HB := Lib.hid hb
  clear hb
  go_wp2_with fail
  go_ret
  exact ⟨rfl, HB.out⟩
set_option maxRecDepth 100000 in
set_option maxHeartbeats 1000000 in
theorem index_fails {O Oc : Nat → Prop} (b q : Nat) (T : Trl) (u : Value) (xs : List Int) (w : World) (h : TrAt O w b T) (hq : w.cell? ⟨q, 0, none⟩ = some (.pointer (some ⟨b, 0, none⟩))) (h1 : IntsIn Oc w u xs) (hs : xs.length ≤ 4194304) :
    Calls Try.prog 67 #[u, .func (.func 58) #[] #[.pointer (some ⟨q, 0, none⟩)]] w fun e w' => (∃ i : Int, e = .returned (.int .i64 i) ∧ FstAt xs (fun l => decide (0 ≤ T.val l)) i) ∧ Below w.heap.size w w' := by
  have HONE := Lib.hid (fun (W : World) (hb : Below w.heap.size w W) (x : Int) => fail_one b q T x W (h.below hb) ((hb.cell (p := ⟨q, 0, none⟩) (World.block_lt_of_cell? w _ hq)).trans hq))
  have HX := Lib.hid h1
  obtain ⟨A, c, rfl, hc, _, _⟩ := h1
  go_enter Try.func67, Try.ntmps67
  go_wp2
  go_loopw [8] (fun i wr => ∃ k : Nat, k ≤ xs.length ∧ i = .int .i64 k ∧ Hid (∀ j x, j < k → xs[j]? = some x → ((fun l => decide (0 ≤ T.val l))) x = false) ∧ Hid (Below w.heap.size w wr)) (fun i _ => xs.length - (intOf i).toNat)
  case atStart => exact ⟨0, Nat.zero_le _, rfl, Lib.hid (fun j x hj => by omega), Lib.hid (Below.refl _ _)⟩
  case round =>
    obtain ⟨k, hk, rfl, HE, HW⟩ := hrel
    by_cases hlt : k < xs.length
    · obtain ⟨x, hxk⟩ := getElem_of hlt
      obtain ⟨A', c', hAc, _, _, hxs⟩ := HX.out.below HW.out
      simp only [Value.slice.injEq, true_and] at hAc
      obtain ⟨rfl, rfl⟩ := hAc
      obtain ⟨g, o, rfl, hg, _, d1⟩ := hxs k x hxk
      have HXK := Lib.hid hxk
      have HC := Lib.hid (HONE.out wr HW.out x)
      clear hxk hxs
      obtain ⟨b, hb⟩ : ∃ b, ((fun l => decide (0 ≤ T.val l))) x = b := ⟨_, rfl⟩
      have HB := Lib.hid hb
      simp only [] at hb
      rw [hb] at HC
      clear hb
      cases b with
      | true =>
        go_wp2_with fail
        refine HC.out.mono ?_
        rintro e w' ⟨rfl, hbw⟩
        have HB2 := Lib.hid (HW.out.trans (hbw.mono HW.out.size))
        clear hbw d1
        go_wp2
        go_ret
        exact ⟨⟨_, rfl, .inr ⟨k, rfl, hlt, HE.out, x, HXK.out, HB.out⟩⟩, HB2.out⟩
      | false =>
        go_wp2_with fail
        refine HC.out.mono ?_
        rintro e w' ⟨rfl, hbw⟩
        have HB2 := Lib.hid (HW.out.trans (hbw.mono HW.out.size))
        clear hbw d1
        go_wp2
        go_roundw
        case rel => exact ⟨k + 1, by omega, by go_num, Lib.hid (fun j y hj hy => by
          rcases Nat.lt_or_ge j k with h | h
          · exact HE.out j y h hy
          · obtain rfl : j = k := by omega
            rw [HXK.out] at hy
            obtain rfl := Option.some.inj hy
            exact HB.out), HB2⟩
        case measure => simp [intOf]; omega
    · obtain rfl : k = xs.length := by omega
      go_wp2
      go_ret
      exact ⟨⟨_, rfl, .inl ⟨rfl, fun x hx => by
        obtain ⟨j, hj⟩ := List.getElem?_of_mem hx
        exact HE.out j x (List.getElem?_eq_some_iff.1 hj).1 hj⟩⟩, HW.out⟩
set_option maxHeartbeats 400000 in
theorem contains_fails {O Oc : Nat → Prop} (b q : Nat) (T : Trl) (u : Value) (xs : List Int) (w : World) (h : TrAt O w b T) (hq : w.cell? ⟨q, 0, none⟩ = some (.pointer (some ⟨b, 0, none⟩))) (h1 : IntsIn Oc w u xs) (hs : xs.length ≤ 4194304) :
    Calls Try.prog 44 #[u, .func (.func 58) #[] #[.pointer (some ⟨q, 0, none⟩)]] w fun e w' => e = .returned (.bool (xs.any (fun l => decide (0 ≤ T.val l)))) ∧ Below w.heap.size w w' := by
  have H0 := index_fails b q T u xs w h hq h1 hs
  obtain ⟨z, hz⟩ : ∃ z, xs.any (fun l => decide (0 ≤ T.val l)) = z := ⟨_, rfl⟩
  rw [hz]
  have HZ := Lib.hid hz
  have H := Lib.hid H0
  clear H0 hz
  go_enter Try.func44, Try.ntmps44
  go_wp2_with fail
  refine H.out.mono ?_
  rintro e w' ⟨⟨i, rfl, hi⟩, hb⟩
  have HI := Lib.hid (show decide (0 ≤ i) = z from by rw [hi.any]; exact HZ.out)
  have HB := Lib.hid hb
  clear hi hb
  go_wp2_with fail
  go_ret
  exact ⟨ret_bool HI.out, HB.out⟩
set_option maxRecDepth 100000 in
set_option maxHeartbeats 1000000 in
theorem mn_failing {O Oc : Nat → Prop} (b : Nat) (T : Trl) (u : Value) (c : List Int) (w : World) (h : TrAt O w b T) (hc : IntsIn Oc w u c) (hs : c.length ≤ 4194304) :
    Calls Try.prog 39 #[.pointer (some ⟨b, 0, none⟩), u] w fun e w' => e = .returned (.int .i64 (failE T c : Nat)) ∧ Below w.heap.size w w' := by
  obtain ⟨wa, hwa⟩ : ∃ x, w.alloc (.cells #[.pointer (some ⟨b, 0, none⟩)] 30) = x := ⟨_, rfl⟩
  have hba : Below w.heap.size w wa := by rw [← hwa]; exact mx_al _ _
  have hbn : wa.cell? ⟨w.heap.size, 0, none⟩ = some (.pointer (some ⟨b, 0, none⟩)) := by rw [← hwa]; exact mx_cell (j := 0) (World.alloc_heap_new _ _)
  have HR := Lib.hid (right_clause u c wa (hc.below hba) (by omega))
  have HC := Lib.hid (contains_fails b w.heap.size T u c wa (h.below hba) hbn (hc.below hba) hs)
  have HBA := Lib.hid hba
  have HWA := Lib.hid hwa
  unfold failE
  obtain ⟨Ac, cc, rfl, _⟩ := hc
  cases hcb : clauseB c with
  | false =>
    rw [hcb] at HR
    clear h hba hwa hbn HC hcb
    go_enter Try.func39, Try.ntmps39
    go_wp2_with (rw [HWA.out])
    refine HR.out.mono ?_
    rintro e w' ⟨rfl, rfl⟩
    go_wp2_with fail
    go_ret
    exact ⟨rfl, HBA.out⟩
  | true =>
    rw [hcb] at HR
    obtain ⟨z, hz⟩ : ∃ z, c.any (fun l => decide (0 ≤ T.val l)) = z := ⟨_, rfl⟩
    rw [hz] at HC ⊢
    clear h hba hwa hbn hcb hz
    go_enter Try.func39, Try.ntmps39
    go_wp2_with (rw [HWA.out])
    refine HR.out.mono ?_
    rintro e w' ⟨rfl, rfl⟩
    go_wp2_with fail
    refine HC.out.mono ?_
    rintro e w' ⟨rfl, hb⟩
    have HB := Lib.hid (HBA.out.trans (hb.mono HBA.out.size))
    clear hb
    cases z with
    | true =>
      go_wp2_with fail
      go_ret
      exact ⟨rfl, HB.out⟩
    | false =>
      go_wp2_with fail
      go_ret
      exact ⟨rfl, HB.out⟩
end Go.Proofs.Ytiodfolcnnkdjaa
