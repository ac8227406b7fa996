/- Levels of literals, in worlds that only grow; how literals that are false are ordered. The stable sort of literals that are false. -/
import Derived.Test.YtobcnejecogfoaaGreatQ19
import Derived.Shelf.SlSortCmp.Insertion1
import Derived.Sort.LotD3
import Derived.Sort.LotA
namespace Go.Proofs.YtobcnejecogfoaaGreat
open Go.RowKit Go.Maps Go.Shelf Go.Sort Go.Lib

/-- w' is w with new blocks, and with draws -/
def Grw (w w' : World) : Prop := ∃ (q : Nat) (os : Array Obj), w' = grow (w.drewN q) os
theorem Grw.refl (w : World) : Grw w w := ⟨0, #[], by rw [grow_empty]; rfl⟩
theorem Grw.drewN {w w' : World} (h : Grw w w') (n : Nat) : Grw w (w'.drewN n) := by
  obtain ⟨q, os, rfl⟩ := h
  exact ⟨q + n, os, by rw [← World.drewN_drewN]; rfl⟩
theorem Grw.drew {w w' : World} (h : Grw w w') : Grw w w'.drew := h.drewN 1
theorem Grw.alloc {w w' : World} (h : Grw w w') (o : Obj) : Grw w (w'.alloc o) := by
  obtain ⟨q, os, rfl⟩ := h
  exact ⟨q, os ++ #[o], by rw [alloc_eq_grow, grow_grow]⟩
theorem Grw.setCell {w w' : World} (h : Grw w w') {g : Nat} (hg : w.heap.size ≤ g) (o : Nat) (v : Value) : Grw w (w'.setCell ⟨g, o, none⟩ v) := by
  obtain ⟨q, os, rfl⟩ := h
  exact ⟨q, _, by rw [setCell_eq, mapBlock_grow_new _ _ _ _ (show (w.drewN q).heap.size ≤ g from hg)]⟩
theorem Grw.trans {a b c : World} (h : Grw a b) (k : Grw b c) : Grw a c := by
  obtain ⟨q, os, rfl⟩ := h
  obtain ⟨q', os', rfl⟩ := k
  refine ⟨q + q', os ++ os', ?_⟩
  rw [← World.drewN_drewN]
  show grow (grow ((a.drewN q).drewN q') os) os' = _
  rw [grow_grow]
theorem Grw.size {w w' : World} (h : Grw w w') : w.heap.size ≤ w'.heap.size := by
  obtain ⟨q, os, rfl⟩ := h
  rw [Sort.size_grow]
  show w.heap.size ≤ w.heap.size + _
  omega
theorem Grw.below {w w' : World} (h : Grw w w') : Below w.heap.size w w' := by
  obtain ⟨q, os, rfl⟩ := h
  refine ⟨rfl, rfl, rfl, Grw.size ⟨q, os, rfl⟩, fun k hk => ?_⟩
  show (w.heap ++ os)[k]? = _
  rw [Array.getElem?_append_left hk]
set_option maxHeartbeats 1000000 in
theorem tr_why_g {O : Nat → Prop} (b : Nat) (T : Trl) (v : Int) (w : World) (h : TrAt O w b T) :
    Calls Tryz.prog 77 #[.pointer (some ⟨b, 0, none⟩), .int .i64 v] w fun e w' => e = .returned (whyVal (T.why v)) ∧ Grw w w' := by
  obtain ⟨wa, hwa⟩ : ∃ x, w.alloc (.cells #[.int .i64 0, .int .i64 0, .int .i64 0] 108) = x := ⟨_, rfl⟩
  have hba : Below w.heap.size w wa := by rw [← hwa]; exact mx_al _ _
  have hga : Grw w wa := by rw [← hwa]; exact (Grw.refl w).alloc _
  have hbn : wa.heap[w.heap.size]? = some (.cells #[.int .i64 0, .int .i64 0, .int .i64 0] 108 (0, 0)) := by rw [← hwa]; exact World.alloc_heap_new _ _
  have h := h.below hba
  obtain ⟨hk, gv, cv, ov, sv, h⟩ := h
  have hst := tr_state b T gv cv ov sv v wa hk h
  have e0 : wa.cell? ⟨w.heap.size, 0, none⟩ = some (.int .i64 0) := mx_cell (j := 0) hbn
  have e1 : wa.cell? ⟨w.heap.size, 1, none⟩ = some (.int .i64 0) := mx_cell (j := 1) hbn
  have e2 : wa.cell? ⟨w.heap.size, 2, none⟩ = some (.int .i64 0) := mx_cell (j := 2) hbn
  have f0 := mx_free (j := 0) hbn
  have f1 := mx_free (j := 1) hbn
  have f2 := mx_free (j := 2) hbn
  have HWA := Lib.hid hwa
  have HGA := Lib.hid hga
  clear hwa hba hbn hga
  unfold Trl.why
  rcases hat : T.at v with _ | s
  · rw [hat, stateVal_none] at hst
    have HST := Lib.hid hst
    clear hst hat h hk
    go_enter Tryz.func77, Tryz.ntmps77
    go_wp2_with fail
    rw [HWA.out]
    refine HST.out.mono ?_
    rintro e w' ⟨rfl, rfl⟩
    go_wp2_with fail
    refine bodyPost_ret (v := .tuple #[.agg #[.int .i64 0, .int .i64 0, .int .i64 0], .bool false]) (by simp [results, Tryz.results77, go_sem, e0, e1, e2]) rfl ⟨rfl, ((HGA.out.setCell (Nat.le_refl _) _ _).setCell (Nat.le_refl _) _ _).setCell (Nat.le_refl _) _ _⟩
  · rw [hat, stateVal_some] at hst
    have hget := Trl.at_get hat
    obtain ⟨c0, c1, c2, c3⟩ := h.var hget
    obtain ⟨n, hn⟩ : ∃ n, v.toNat = n := ⟨_, rfl⟩
    rw [hn] at hst c0 c1 c2 c3
    have HST := Lib.hid hst
    clear hst hat hget h hk hn
    by_cases hz : s.value = 0
    · have q0 : (s.value == 0) = true := by simpa using hz
      have HZ := Lib.hid hz
      simp only [hz, if_true]
      clear hz
      go_enter Tryz.func77, Tryz.ntmps77
      go_wp2_with fail
      rw [HWA.out]
      refine HST.out.mono ?_
      rintro e w' ⟨rfl, rfl⟩
      go_wp2_with fail
      refine bodyPost_ret (v := .tuple #[.agg #[.int .i64 0, .int .i64 0, .int .i64 0], .bool false]) (by simp [results, Tryz.results77, go_sem, e0, e1, e2]) rfl ⟨rfl, ((HGA.out.setCell (Nat.le_refl _) _ _).setCell (Nat.le_refl _) _ _).setCell (Nat.le_refl _) _ _⟩
    · have q0 : (s.value == 0) = false := by simpa using hz
      simp only [hz, if_false]
      have HZ := Lib.hid hz
      clear hz
      go_enter Tryz.func77, Tryz.ntmps77
      go_wp2_with fail
      rw [HWA.out]
      refine HST.out.mono ?_
      rintro e w' ⟨rfl, rfl⟩
      go_wp2_with fail
      refine bodyPost_ret (v := .tuple #[.agg #[.int .i64 s.level, .int .i64 s.reason, .int .i64 s.place], .bool true]) (by simp [results, Tryz.results77, go_sem, e0, e1, e2]) rfl ⟨rfl, ((HGA.out.setCell (Nat.le_refl _) _ _).setCell (Nat.le_refl _) _ _).setCell (Nat.le_refl _) _ _⟩
theorem tr_level_g {O : Nat → Prop} (b : Nat) (T : Trl) (v : Int) (w : World) (h : TrAt O w b T) :
    Calls Tryz.prog 31 #[.pointer (some ⟨b, 0, none⟩), .int .i64 v] w fun e w' => e = .returned (.tuple #[.int .i64 (T.level v), .bool (T.why v).isSome]) ∧ Grw w w' := by
  have hc := tr_why_g b T v w h
  unfold Trl.level
  rcases hw : T.why v with _ | s
  · rw [hw, show whyVal none = .tuple #[.agg #[.int .i64 0, .int .i64 0, .int .i64 0], .bool false] from rfl] at hc
    have HC := Lib.hid hc
    clear hc hw
    go_enter Tryz.func31, Tryz.ntmps31
    go_wp2_with fail
    refine HC.out.mono ?_
    rintro e w' ⟨rfl, hb'⟩
    have HB' := Lib.hid hb'
    clear hb'
    go_wp2_with fail
    go_ret2
    exact ⟨rfl, HB'.out.alloc _⟩
  · rw [hw, show whyVal (some s) = .tuple #[.agg #[.int .i64 s.level, .int .i64 s.reason, .int .i64 s.place], .bool true] from rfl] at hc
    have HC := Lib.hid hc
    clear hc hw
    go_enter Tryz.func31, Tryz.ntmps31
    go_wp2_with fail
    refine HC.out.mono ?_
    rintro e w' ⟨rfl, hb'⟩
    have HB' := Lib.hid hb'
    clear hb'
    go_wp2_with fail
    go_ret2
    exact ⟨rfl, HB'.out.alloc _⟩
theorem ord_nan (x : Int) (w : World) : Calls Tryz.prog 142 #[.int .i64 x] w fun e w' => e = .returned (.bool false) ∧ w = w' := by
  have hx : (x != x) = false := by simp
  go_enter Tryz.func142, Tryz.ntmps142
  go_wp2_with fail
  go_ret
  exact ⟨rfl, rfl⟩
theorem ord_int (x y : Int) (w : World) : Calls Tryz.prog 109 #[.int .i64 x, .int .i64 y] w fun e w' => e = .returned (.int .i64 (ordI x y)) ∧ w = w' := by
  have HX := Lib.hid (ord_nan x w)
  have HY := Lib.hid (ord_nan y w)
  unfold ordI
  by_cases h1 : x < y
  · have q1 : decide (x < y) = true := by simpa using h1
    rw [if_pos h1]
    go_enter Tryz.func109, Tryz.ntmps109
    go_wp2_with fail
    refine HX.out.mono ?_
    rintro e w' ⟨rfl, rfl⟩
    go_wp2_with fail
    refine HY.out.mono ?_
    rintro e w' ⟨rfl, rfl⟩
    go_wp2_with fail
    go_ret
    exact ⟨rfl, rfl⟩
  · have q1 : decide (x < y) = false := by simpa using h1
    rw [if_neg h1]
    by_cases h2 : y < x
    · have q2 : decide (y < x) = true := by simpa using h2
      rw [if_pos h2]
      go_enter Tryz.func109, Tryz.ntmps109
      go_wp2_with fail
      refine HX.out.mono ?_
      rintro e w' ⟨rfl, rfl⟩
      go_wp2_with fail
      refine HY.out.mono ?_
      rintro e w' ⟨rfl, rfl⟩
      go_wp2_with fail
      go_ret
      exact ⟨rfl, rfl⟩
    · have q2 : decide (y < x) = false := by simpa using h2
      rw [if_neg h2]
      go_enter Tryz.func109, Tryz.ntmps109
      go_wp2_with fail
      refine HX.out.mono ?_
      rintro e w' ⟨rfl, rfl⟩
      go_wp2_with fail
      refine HY.out.mono ?_
      rintro e w' ⟨rfl, rfl⟩
      go_wp2_with fail
      go_ret
      exact ⟨rfl, rfl⟩
set_option maxRecDepth 100000 in
set_option maxHeartbeats 2000000 in
theorem wa_level {O : Nat → Prop} (b tb : Nat) (T : Trl) (l : Int) (w : World) (h : TrAt O w tb T) (c1 : w.cell? ⟨b, 1, none⟩ = some (.pointer (some ⟨tb, 0, none⟩))) :
    Calls Tryz.prog 110 #[.pointer (some ⟨b, 0, none⟩), .int .i64 l] w fun e w' => e = .returned (.int .i64 (T.level (litV l : Nat))) ∧ Grw w w' := by
  have hlt : b < w.heap.size := World.block_lt_of_cell? w _ c1
  have HL := Lib.hid (tr_level_g tb T (litV l : Nat) w.drew (h.below (mx_drew w)))
  have HV := Lib.hid (lit_var l w.drew)
  obtain ⟨v, hv⟩ : ∃ v : Int, ((litV l : Nat) : Int) = v := ⟨_, rfl⟩
  rw [hv] at HL HV ⊢
  obtain ⟨q, hq⟩ : ∃ q, (T.why v).isSome = q := ⟨_, rfl⟩
  obtain ⟨y, hy⟩ : ∃ y, T.level v = y := ⟨_, rfl⟩
  rw [hq, hy] at HL
  rw [hy]
  have HC := Lib.hid c1
  clear h hv hq hy c1
  go_enter Tryz.func110, Tryz.ntmps110
  go_upto_region 1 with fail
  refine wp_region_held_drew (S := fun w' => Below w.heap.size w w') (by kernel_rfl) (mx_drew w) (fun hS => ?_)
  refine takeE 0 8 ?_
  refine takeE 1 9 ?_
  refine takeE 2 10 ?_
  refine takeF 3 11 (fun wq hSw => (hSw.cell (p := ⟨b, 1, none⟩) hlt).trans HC.out) ?_
  refine takeE 4 12 ?_
  refine ready1 5 (fun K hK => ?_)
  go_simp
  refine HV.out.mono ?_
  rintro e w' ⟨rfl, rfl⟩
  refine hK.out _ _ hS (fun _ => ?_)
  clear hK
  refine ready1 6 (fun K hK => ?_)
  go_simp
  refine HL.out.mono ?_
  rintro e w1 ⟨rfl, hg⟩
  refine hK.out _ _ (hS.trans (hg.below.mono hS.size)) (fun _ => ?_)
  clear hK hS
  have HG := Lib.hid ((Grw.refl w).drew.trans hg)
  have hS : Below w.heap.size w w1 := HG.out.below
  clear hg
  refine takeE 7 7 ?_
  refine takeE 8 15 ?_
  refine takeE 9 16 ?_
  refine takeE 10 5 ?_
  refine takeE 11 6 ?_
  refine wpAnyH_done (by kernel_rfl) ?_ _
  clear hS
  go_wp2_with fail
  go_ret
  exact ⟨rfl, HG.out⟩
end Go.Proofs.YtobcnejecogfoaaGreat
namespace Go.Proofs.YtobcnejecogfoaaGreat
open Go.RowKit Go.Maps Go.Shelf Go.Sort Go.Lib

theorem lvOrd_lt (T : Trl) (a b : Int) : ltOf T.lvOrd a b = decide (T.level (litV b : Nat) < T.level (litV a : Nat)) := by
  unfold ltOf Trl.lvOrd ordI
  split
  · rename_i h
    simp [h]
  · rename_i h
    split
    · simp [h]
    · simp [h]
theorem lvOrd_swo (T : Trl) : SWO (ltOf T.lvOrd) where
  irrefl := fun a => by rw [lvOrd_lt]; simp
  trans := fun a b c h1 h2 => by
    rw [lvOrd_lt, decide_eq_true_eq] at *
    omega
  ntrans := fun a b c h1 h2 => by
    rw [lvOrd_lt, decide_eq_false_iff_not] at *
    omega
theorem stab_permIn (T : Trl) (xs : List Int) : PermIn 0 xs.toArray.size xs.toArray (Sort.insertionSort (ltOf T.lvOrd) xs.toArray 0 xs.length) := by
  have := (insertionSort_holds (lvOrd_swo T) xs.toArray 0 xs.toArray.size (Nat.zero_le _) (Nat.le_refl _)).1
  simpa using this
theorem stab_length (T : Trl) (xs : List Int) : (T.stab xs).length = xs.length := by
  have := (stab_permIn T xs).1
  unfold Trl.stab
  rw [Array.length_toList, this]
  simp
theorem stab_perm (T : Trl) (xs : List Int) : (T.stab xs).Perm xs := by
  obtain ⟨h1, _, h2⟩ := stab_permIn T xs
  rw [Array.extract_eq_self_of_le (by rw [h1]; exact Nat.le_refl _), Array.extract_eq_self_of_le (Nat.le_refl _)] at h2
  exact h2
theorem stab_mem {T : Trl} {xs : List Int} {x : Int} : x ∈ T.stab xs ↔ x ∈ xs := (stab_perm T xs).mem_iff
set_option maxRecDepth 100000 in
set_option maxHeartbeats 2000000 in
theorem wa_cmp {O : Nat → Prop} (b tb Bw : Nat) (T : Trl) (x y : Int) (w : World) (hT : TrAt O w tb T) (c0 : w.cell? ⟨Bw, 0, none⟩ = some (.pointer (some ⟨b, 0, none⟩))) (c1 : w.cell? ⟨b, 1, none⟩ = some (.pointer (some ⟨tb, 0, none⟩))) :
    Calls Tryz.prog 108 #[.int .i64 x, .int .i64 y, .pointer (some ⟨Bw, 0, none⟩)] w fun e w' => e = .returned (.int .i64 (T.lvOrd x y)) ∧ Grw w w' := by
  have hl0 : Bw < w.heap.size := World.block_lt_of_cell? w _ c0
  have hl1 : b < w.heap.size := World.block_lt_of_cell? w _ c1
  have HX := Lib.hid (fun (W : World) (h : Below w.heap.size w W) => wa_level b tb T x W (hT.below h) ((h.cell (p := ⟨b, 1, none⟩) hl1).trans c1))
  have HY := Lib.hid (fun (W : World) (h : Below w.heap.size w W) => wa_level b tb T y W (hT.below h) ((h.cell (p := ⟨b, 1, none⟩) hl1).trans c1))
  unfold Trl.lvOrd
  obtain ⟨p, hp⟩ : ∃ p, T.level (litV x : Nat) = p := ⟨_, rfl⟩
  obtain ⟨q, hq⟩ : ∃ q, T.level (litV y : Nat) = q := ⟨_, rfl⟩
  rw [hp] at HX ⊢
  rw [hq] at HY ⊢
  have HC := Lib.hid c0
  clear hT hp hq c0 c1
  go_enter Tryz.func108, Tryz.ntmps108
  go_upto_region 1 with fail
  refine wp_region_held_drew (S := fun w' => Below w.heap.size w w') (by kernel_rfl) (mx_drew w) (fun hS => ?_)
  refine takeF 0 6 (fun wq hSw => (hSw.cell (p := ⟨Bw, 0, none⟩) hl0).trans HC.out) ?_
  refine takeE 1 7 ?_
  refine takeF 3 9 (fun wq hSw => (hSw.cell (p := ⟨Bw, 0, none⟩) hl0).trans HC.out) ?_
  refine takeE 4 10 ?_
  refine ready1 2 (fun K hK => ?_)
  go_simp
  refine (HY.out _ hS).mono ?_
  rintro e w1 ⟨rfl, hg⟩
  refine hK.out _ _ (hS.trans (hg.below.mono hS.size)) (fun _ => ?_)
  clear hK hS
  have HG := Lib.hid ((Grw.refl w).drew.trans hg)
  have hS : Below w.heap.size w w1 := HG.out.below
  clear hg
  refine ready1 5 (fun K hK => ?_)
  go_simp
  refine (HX.out _ hS).mono ?_
  rintro e w2 ⟨rfl, hg⟩
  refine hK.out _ _ (hS.trans (hg.below.mono hS.size)) (fun _ => ?_)
  clear hK hS
  have HG2 := Lib.hid (HG.out.trans hg)
  have hS : Below w.heap.size w w2 := HG2.out.below
  clear hg
  refine ready1 6 (fun K hK => ?_)
  go_simp
  refine (ord_int q p w2).mono ?_
  rintro e w' ⟨rfl, rfl⟩
  refine hK.out _ _ hS (fun _ => ?_)
  clear hK
  refine takeE 7 5 ?_
  refine wpAnyH_done (by kernel_rfl) ?_ _
  clear hS
  go_wp2_with fail
  go_ret
  exact ⟨rfl, HG2.out⟩
theorem wa_cmp_lays {O : Nat → Prop} (b tb Bw : Nat) (T : Trl) (w : World) (hT : TrAt O w tb T) (c0 : w.cell? ⟨Bw, 0, none⟩ = some (.pointer (some ⟨b, 0, none⟩))) (c1 : w.cell? ⟨b, 1, none⟩ = some (.pointer (some ⟨tb, 0, none⟩))) (g size : Nat) (hg : ¬ O g ∧ Bw ≠ g ∧ b ≠ g) :
    CmpLays1 Tryz.prog 108 #[.pointer (some ⟨Bw, 0, none⟩)] (Value.int .i64) T.lvOrd g 0 size w := by
  intro m os dk _ x y
  have hk : Kept (fun k => some g = some k) w (sortWorld (Value.int .i64) w g 0 m dk os) := st_kept dk
  have hl0 : Bw < w.heap.size := World.block_lt_of_cell? w _ c0
  have hl1 : b < w.heap.size := World.block_lt_of_cell? w _ c1
  refine (wa_cmp b tb Bw T x y (sortWorld (Value.int .i64) w g 0 m dk os) (hT.kept hk (fun k hk e => hg.1 ((Option.some.inj e).symm ▸ hk))) ((hk.cell (p := ⟨Bw, 0, none⟩) hl0 (fun e => hg.2.1 (Option.some.inj e).symm)).trans c0) ((hk.cell (p := ⟨b, 1, none⟩) hl1 (fun e => hg.2.2 (Option.some.inj e).symm)).trans c1)).mono ?_
  rintro e w' ⟨rfl, q, os', rfl⟩
  exact ⟨rfl, q, os', rfl⟩
set_option maxRecDepth 100000 in
set_option maxHeartbeats 2000000 in
/-- the insertion sort of a row -/
theorem wa_ins {O : Nat → Prop} {base : Nat} (b tb Bw : Nat) (T : Trl) (v : Value) (xs : List Int) (w : World) (hT : TrAt O w tb T) (c0 : w.cell? ⟨Bw, 0, none⟩ = some (.pointer (some ⟨b, 0, none⟩))) (c1 : w.cell? ⟨b, 1, none⟩ = some (.pointer (some ⟨tb, 0, none⟩)))
    (h : w.ownsRow base 39 1 v xs.length (xs.map (Value.int .i64))) (hv : ∀ g, v.ownBlock = some g → ¬ O g ∧ Bw ≠ g ∧ b ≠ g) (hl : xs.length < 1000000) :
    Calls Tryz.prog 177 #[v, .int .i64 0, .int .i64 (xs.length : Nat), .func (.func 108) #[] #[.pointer (some ⟨Bw, 0, none⟩)]] w fun e w' => e = .returned (.tuple #[]) ∧ w'.ownsRow base 39 1 v (T.stab xs).length ((T.stab xs).map (Value.int .i64)) ∧ Kept (fun g => v.ownBlock = some g) w w' := by
  rcases h.2 with ⟨rfl, h0⟩ | ⟨g, cap, cur, rfl, hb, hg, h1, h2, h3, h4⟩
  · obtain rfl : xs = [] := List.eq_nil_of_length_eq_zero h0
    have hs : T.stab [] = [] := List.eq_nil_of_length_eq_zero (by rw [stab_length]; rfl)
    rw [hs]
    have HO := Lib.hid h
    clear h hv hT c0 c1 hl h0 hs
    show Calls Tryz.prog _ #[.slice none 0 0, .int .i64 0, .int .i64 0, _] w _
    go_enter Tryz.func177, Tryz.ntmps177
    go_wp2_with fail
    go_loopw [8] (fun iv wq => iv = .int .i64 1 ∧ wq = w) (fun _ _ => 0)
    case atStart => exact ⟨rfl, rfl⟩
    case round =>
      obtain ⟨rfl, rfl⟩ := hrel
      go_wp2_with fail
      go_end0
      exact ⟨rfl, HO.out, Kept.refl _ _⟩
  · have eg : ∀ args w, (callFunc 108 args).run Tryz.prog w = .ok (.enter 108 args) w := enters_of Tryz.func108 (by kernel_rfl) rfl
    have hH : Holds (Value.int .i64) w g 0 xs.toArray := st_holds hg (by simpa using h4)
    have H := Any.insertionSortCmpFunc_s Tryz.insLit (Value.int .i64) T.lvOrd 108 #[.pointer (some ⟨Bw, 0, none⟩)] g 0 cap 0 xs.length xs.toArray xs.toArray w w eg (wa_cmp_lays b tb Bw T w hT c0 c1 g _ (hv g rfl)) ⟨fun _ => rfl, hH, heap_lt hg⟩ rfl (SW.start hH) (Nat.zero_le _) (by simp) (by simp; omega)
    change Calls Tryz.prog 177 _ _ _ at H
    rw [List.size_toArray] at H
    refine H.mono ?_
    rintro e w' ⟨rfl, n, os, rfl⟩
    refine ⟨rfl, ?_, st_kept _⟩
    have hsl := stab_length T xs
    have e1 : Sort.insertionSort (ltOf T.lvOrd) xs.toArray 0 xs.length = (T.stab xs).toArray := by unfold Trl.stab; simp
    rw [e1, hsl]
    refine ⟨by simp [hsl], .inr ⟨g, cap, _, rfl, hb, st_heap _ hg, h1, h2, by simp [putCells, h3], ?_⟩⟩
    have e2 : xs.length * 1 = (T.stab xs).length := by rw [hsl, Nat.mul_one]
    rw [e2]
    exact st_take cur (T.stab xs) (by rw [hsl]; omega)
set_option maxRecDepth 100000 in
set_option maxHeartbeats 2000000 in
theorem wa_stable {O : Nat → Prop} {base : Nat} (b tb Bw : Nat) (T : Trl) (v : Value) (xs : List Int) (w : World) (hT : TrAt O w tb T) (c0 : w.cell? ⟨Bw, 0, none⟩ = some (.pointer (some ⟨b, 0, none⟩))) (c1 : w.cell? ⟨b, 1, none⟩ = some (.pointer (some ⟨tb, 0, none⟩)))
    (h : w.ownsRow base 39 1 v xs.length (xs.map (Value.int .i64))) (hv : ∀ g, v.ownBlock = some g → ¬ O g ∧ Bw ≠ g ∧ b ≠ g) (hl : xs.length < 20) :
    Calls Tryz.prog 107 #[v, .func (.func 108) #[] #[.pointer (some ⟨Bw, 0, none⟩)]] w fun e w' => e = .returned (.tuple #[]) ∧ w'.ownsRow base 39 1 v (T.stab xs).length ((T.stab xs).map (Value.int .i64)) ∧ Kept (fun g => v.ownBlock = some g) w w' := by
  have HI := Lib.hid (wa_ins b tb Bw T v xs w hT c0 c1 h hv (by omega))
  obtain ⟨A, c, rfl, _⟩ := mx_slice h
  obtain ⟨n, hn⟩ : ∃ n, xs.length = n := ⟨_, rfl⟩
  rw [hn] at HI hl ⊢
  have hq1 : decide ((20 : Int) ≤ (n : Int)) = false := by simp; omega
  have hq2 : decide ((20 : Int) < (n : Int)) = false := by simp; omega
  have HS := Lib.hid (show Calls Tryz.prog 141 #[.slice A n c, .int .i64 (n : Nat), .func (.func 108) #[] #[.pointer (some ⟨Bw, 0, none⟩)]] w fun e w' => e = .returned (.tuple #[]) ∧ w'.ownsRow base 39 1 (.slice A n c) (T.stab xs).length ((T.stab xs).map (Value.int .i64)) ∧ Kept (fun g => (Value.slice A n c).ownBlock = some g) w w' from by
    clear hT c0 c1 h hv hn
    go_enter Tryz.func141, Tryz.ntmps141
    go_wp2_with fail
    go_loopw [7, 8] (fun a i wq => a = .int .i64 0 ∧ i = .int .i64 20 ∧ wq = w) (fun _ _ _ => 0)
    case atStart => exact ⟨rfl, rfl, rfl⟩
    case round =>
      obtain ⟨rfl, rfl, rfl⟩ := hrel
      go_wp2_with fail
      refine HI.out.mono ?_
      rintro e w1 ⟨rfl, hr, hk⟩
      have HR := Lib.hid hr
      have HK := Lib.hid hk
      clear hr hk
      go_wp2_with fail
      go_loopw [6] (fun s wq => s = .int .i64 20 ∧ wq = w1) (fun _ _ => 0)
      case atStart => exact ⟨rfl, rfl⟩
      case round =>
        obtain ⟨rfl, rfl⟩ := hrel
        go_wp2_with fail
        go_end0
        exact ⟨rfl, HR.out, HK.out⟩)
  clear hT c0 c1 h hv hn HI hq1 hq2
  go_enter Tryz.func107, Tryz.ntmps107
  go_wp2_with fail
  refine HS.out.mono ?_
  rintro e w1 ⟨rfl, hr, hk⟩
  have HR := Lib.hid hr
  have HK := Lib.hid hk
  clear hr hk
  go_wp2_with fail
  go_end0
  exact ⟨rfl, HR.out, HK.out⟩
end Go.Proofs.YtobcnejecogfoaaGreat
