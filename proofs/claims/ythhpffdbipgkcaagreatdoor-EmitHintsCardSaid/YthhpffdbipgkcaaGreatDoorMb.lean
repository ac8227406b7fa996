/- Equal, Index, Contains, Clone at slices of integers. -/
import Derived.Test.YthhpffdbipgkcaaGreatDoorMa
import Derived.Lib.LazyBuf
import Derived.Lib.BufferMore
namespace Go.Proofs.YthhpffdbipgkcaaGreatDoor
open Go.RowKit

/-- what a contract says of a function that only computes, for a region that draws -/
theorem quiet_pure {P : Program} {f : FuncId} {args : Array Value} {w : World} {v : Value} (h : ∀ w, Calls P f args w fun e w' => e = .returned v ∧ w = w') (n : Nat) : Calls P f args (w.drewN n) fun e w'' => e = .returned v ∧ ∃ m, w'' = w.drewN m :=
  Calls.quiet_of_same ((h _).mono fun _ _ ⟨a, b⟩ => ⟨a, b.symm⟩)
/-- an index, and whether there is one -/
def IdxPost (b : Bool) (w : World) (e : Ending) (w' : World) : Prop := (∃ i : Int, e = .returned (.int .i64 i) ∧ decide (0 ≤ i) = b) ∧ w = w'
theorem getElem_of {α : Type} {l : List α} {i : Nat} (h : i < l.length) : ∃ x, l[i]? = some x := ⟨_, List.getElem?_eq_getElem h⟩
theorem eq_of_all {xs ys : List Int} (hl : xs.length = ys.length) (h : ∀ j, j < xs.length → xs[j]? = ys[j]?) : xs = ys := by
  apply List.ext_getElem?
  intro j
  rcases Nat.lt_or_ge j xs.length with hj | hj
  · exact h j hj
  · rw [List.getElem?_eq_none hj, List.getElem?_eq_none (by omega)]

set_option maxRecDepth 100000 in
set_option maxHeartbeats 1000000 in
theorem index_i {O : Nat → Prop} (u : Value) (xs : List Int) (y : Int) (w : World) (h1 : IntsIn O w u xs) (hs : xs.length ≤ 140737488355328) :
    Calls Tryz.prog 33 #[u, .int .i64 y] w (IdxPost (xs.contains y) w) := by
  obtain ⟨A, c, rfl, hc, _, hx⟩ := h1
  obtain ⟨b, hb⟩ : ∃ b, xs.contains y = b := ⟨_, rfl⟩
  rw [hb]
  have HB := Lib.hid hb
  have HX := Lib.hid hx
  clear hx hb
  go_enter Tryz.func33, Tryz.ntmps33
  go_wp2
  go_loop [8] (fun i => ∃ k : Nat, k ≤ xs.length ∧ i = .int .i64 k ∧ Hid (∀ j, j < k → xs[j]? ≠ some y)) (fun i => xs.length - (intOf i).toNat)
  case atStart => exact ⟨0, Nat.zero_le _, rfl, Lib.hid (fun j hj => by omega)⟩
  case round =>
    obtain ⟨k, hk, rfl, HE⟩ := hrel
    by_cases hlt : k < xs.length
    · obtain ⟨x, hxk⟩ := getElem_of hlt
      obtain ⟨g, o, rfl, hg, _, d1⟩ := HX.out k x hxk
      have HXK := Lib.hid hxk
      clear hxk
      by_cases hxy : y = x
      · subst hxy
        go_wp2
        go_ret
        refine ⟨⟨_, rfl, ?_⟩, rfl⟩
        have hm : y ∈ xs := List.mem_of_getElem? HXK.out
        rw [← HB.out, List.contains_iff_mem.2 hm]
        exact decide_eq_true (by omega)
      · have hne : (y == x) = false := by simpa using hxy
        have HN := Lib.hid hxy
        clear hxy
        go_wp2
        go_round
        case rel => exact ⟨k + 1, by omega, by go_num, Lib.hid (fun j hj => by
          rcases Nat.lt_or_ge j k with h | h
          · exact HE.out j h
          · obtain rfl : j = k := by omega
            rw [HXK.out]
            exact fun e => HN.out (Option.some.inj e).symm)⟩
        case measure => simp [intOf]; omega
    · obtain rfl : k = xs.length := by omega
      go_wp2
      go_ret
      refine ⟨⟨_, rfl, ?_⟩, rfl⟩
      have hm : ¬ y ∈ xs := fun h => by
        obtain ⟨j, hj⟩ := List.getElem?_of_mem h
        exact HE.out j (List.getElem?_eq_some_iff.1 hj).1 hj
      rw [← HB.out, show xs.contains y = false by simpa using hm]
      rfl
set_option maxHeartbeats 400000 in
theorem contains_i {O : Nat → Prop} (u : Value) (xs : List Int) (y : Int) (w : World) (h1 : IntsIn O w u xs) (hs : xs.length ≤ 140737488355328) :
    Calls Tryz.prog 11 #[u, .int .i64 y] w fun e w' => e = .returned (.bool (xs.contains y)) ∧ w = w' := by
  have H0 := index_i u xs y w h1 hs
  obtain ⟨b, hb⟩ : ∃ b, xs.contains y = b := ⟨_, rfl⟩
  rw [hb] at H0 ⊢
  have H := Lib.hid H0
  clear H0 hb
  go_enter Tryz.func11, Tryz.ntmps11
  go_wp2_with fail
  refine H.out.mono ?_
  rintro e w' ⟨⟨i, rfl, hi⟩, rfl⟩
  have HI := Lib.hid hi
  clear hi
  go_wp2_with fail
  go_ret
  exact ⟨ret_bool HI.out, rfl⟩
theorem info_i : (Tryz.prog.info? 3).map (fun i => (i.zero, i.size, i.bytes)) = some (some (.int .i64 0), 1, 8) := by kernel_rfl
set_option maxRecDepth 100000 in
set_option maxHeartbeats 1000000 in
theorem clone_i {O : Nat → Prop} (u : Value) (xs : List Int) (w : World) (h1 : IntsIn O w u xs) (hs : xs.length ≤ 17592186044416) :
    Calls Tryz.prog 27 #[u] w fun e w' => ∃ v, e = .returned v ∧ w'.ownsRow w.heap.size 3 1 v xs.length (xs.map (Value.int .i64)) ∧ Below w.heap.size w w' := by
  obtain ⟨i0, hi, hz0, hz1, hz2⟩ := info_parts info_i
  obtain ⟨A, c, rfl, hc, hn, hx⟩ := h1
  cases A with
  | none =>
    obtain rfl := hn rfl
    have h0 : xs.length = 0 := by omega
    obtain rfl : xs = [] := List.eq_nil_of_length_eq_zero h0
    have hq := fun w => Lib.run_eql_slice_nil (P := Tryz.prog) w 36 3 none 0 0 0 0 Tryz.underlying36
    clear hn hx
    go_enter Tryz.func27, Tryz.ntmps27
    go_wp2
    go_ret
    exact ⟨_, rfl, World.ownsRow_nil _ _ _ _, Below.refl _ _⟩
  | some a =>
    have HX := Lib.hid hx
    have hq := fun w => Lib.run_eql_slice_nil (P := Tryz.prog) w 36 3 (some a) xs.length c 0 0 Tryz.underlying36
    have hnews : ∀ j u, (xs.map (Value.int .i64))[j]? = some u → (w.alloc (.cells #[] 3)).cell? (a.add j) = some u := fun j u hj => by
      rw [List.getElem?_map] at hj
      cases hxj : xs[j]? with
      | none => rw [hxj] at hj; cases hj
      | some x =>
        rw [hxj] at hj
        obtain ⟨g, o, hA, hg, _, d1⟩ := hx j x hxj
        obtain rfl := Option.some.inj hA
        rw [addr_add2, ((Below.refl _ _).alloc (Nat.le_refl _) _).cell hg, d1]
        exact hj
    have HN := Lib.hid hnews
    have h0 : (w.alloc (.cells #[] 3)).ownsRow w.heap.size 3 1 (.slice (some ⟨w.heap.size, 0, none⟩) 0 0) 0 [] := ⟨rfl, .inr ⟨w.heap.size, 0, #[], rfl, Nat.le_refl _, World.alloc_heap_new _ _, Nat.le_refl _, Nat.zero_le _, rfl, rfl⟩⟩
    have H0 := Lib.hid h0
    clear hx hn hnews h0
    go_enter Tryz.func27, Tryz.ntmps27
    go_wp2_with (at_builtin; refine wpList_append_own_at _ rfl _ _ 36 rfl w.heap.size 3 i0 (.int .i64 0) 1 8 Tryz.underlying36 hi hz0 hz1 hz2 rfl (by decide) _ _ _ rfl H0.out a xs.length c (xs.map (Value.int .i64)) rfl (by simp) HN.out (by simp [Value.oneCell']) (by unfold maxLen; omega) (by omega) (by simp) ?_; intro v' w1 hown hgrow hnl hat)
    go_ret
    have hB : Below w.heap.size w w1 := ((Below.refl w.heap.size w).alloc (Nat.le_refl _) (.cells #[] 3)).grown hgrow (by simp) (fun g hg => by cases hg; exact Nat.le_refl _)
    exact ⟨_, rfl, by simpa using hown, hB⟩
theorem info_c : (Tryz.prog.info? 45).map (fun i => (i.zero, i.size, i.bytes)) = some (some (.int .i64 0), 1, 8) := by kernel_rfl
set_option maxRecDepth 100000 in
set_option maxHeartbeats 1000000 in
theorem clone_c {O : Nat → Prop} (u : Value) (xs : List Int) (w : World) (h1 : IntsIn O w u xs) (hs : xs.length ≤ 17592186044416) :
    Calls Tryz.prog 32 #[u] w fun e w' => ∃ v, e = .returned v ∧ w'.ownsRow w.heap.size 45 1 v xs.length (xs.map (Value.int .i64)) ∧ Below w.heap.size w w' := by
  obtain ⟨i0, hi, hz0, hz1, hz2⟩ := info_parts info_c
  obtain ⟨A, c, rfl, hc, hn, hx⟩ := h1
  cases A with
  | none =>
    obtain rfl := hn rfl
    have h0 : xs.length = 0 := by omega
    obtain rfl : xs = [] := List.eq_nil_of_length_eq_zero h0
    have hq := fun w => Lib.run_eql_slice_nil (P := Tryz.prog) w 34 45 none 0 0 0 0 Tryz.underlying34
    clear hn hx
    go_enter Tryz.func32, Tryz.ntmps32
    go_wp2
    go_ret
    exact ⟨_, rfl, World.ownsRow_nil _ _ _ _, Below.refl _ _⟩
  | some a =>
    have HX := Lib.hid hx
    have hq := fun w => Lib.run_eql_slice_nil (P := Tryz.prog) w 34 45 (some a) xs.length c 0 0 Tryz.underlying34
    have hnews : ∀ j u, (xs.map (Value.int .i64))[j]? = some u → (w.alloc (.cells #[] 45)).cell? (a.add j) = some u := fun j u hj => by
      rw [List.getElem?_map] at hj
      cases hxj : xs[j]? with
      | none => rw [hxj] at hj; cases hj
      | some x =>
        rw [hxj] at hj
        obtain ⟨g, o, hA, hg, _, d1⟩ := hx j x hxj
        obtain rfl := Option.some.inj hA
        rw [addr_add2, ((Below.refl _ _).alloc (Nat.le_refl _) _).cell hg, d1]
        exact hj
    have HN := Lib.hid hnews
    have h0 : (w.alloc (.cells #[] 45)).ownsRow w.heap.size 45 1 (.slice (some ⟨w.heap.size, 0, none⟩) 0 0) 0 [] := ⟨rfl, .inr ⟨w.heap.size, 0, #[], rfl, Nat.le_refl _, World.alloc_heap_new _ _, Nat.le_refl _, Nat.zero_le _, rfl, rfl⟩⟩
    have H0 := Lib.hid h0
    clear hx hn hnews h0
    go_enter Tryz.func32, Tryz.ntmps32
    go_wp2_with (at_builtin; refine wpList_append_own_at _ rfl _ _ 34 rfl w.heap.size 45 i0 (.int .i64 0) 1 8 Tryz.underlying34 hi hz0 hz1 hz2 rfl (by decide) _ _ _ rfl H0.out a xs.length c (xs.map (Value.int .i64)) rfl (by simp) HN.out (by simp [Value.oneCell']) (by unfold maxLen; omega) (by omega) (by simp) ?_; intro v' w1 hown hgrow hnl hat)
    go_ret
    have hB : Below w.heap.size w w1 := ((Below.refl w.heap.size w).alloc (Nat.le_refl _) (.cells #[] 45)).grown hgrow (by simp) (fun g hg => by cases hg; exact Nat.le_refl _)
    exact ⟨_, rfl, by simpa using hown, hB⟩
end Go.Proofs.YthhpffdbipgkcaaGreatDoor
