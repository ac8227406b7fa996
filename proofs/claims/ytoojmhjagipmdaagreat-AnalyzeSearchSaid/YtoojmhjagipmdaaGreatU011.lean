/- Levels of literals, in worlds that only grow; how literals that are false are ordered. The stable sort of literals that are false. Plain: the insertion sort keeps the order of equals: it is the insertion from the right, one after the other. Plain: what comes first among literals, by one look through the list. Plain: the reference's best, and what the watch sorts first. The trail: New. -/
import Derived.Test.YtoojmhjagipmdaaGreatU010
import Derived.Shelf.SlSortCmp.Insertion1
import Derived.Sort.LotD3
import Derived.Sort.LotA
import Derived.Test.YtoojmhjagipmdaaGreatU002
import Derived.Laws.OwnMore
namespace Go.Proofs.YtoojmhjagipmdaaGreat
open Go.RowKit Go.Maps Go.Shelf Go.Sort Go.Lib

/-- w' is w with new blocks, and with draws -/
def Grw (w w' : World) : Prop := ∃ (q : Nat) (os : Array Obj), w' = grow (w.drewN q) os
theorem Grw.refl (w : World) : Grw w w := ⟨0, #[], by rw [grow_empty]; rfl⟩
theorem Grw.drewN {w w' : World} (h : Grw w w') (n : Nat) : Grw w (w'.drewN n) := by
  obtain ⟨q, os, rfl⟩ := h
  exact ⟨q + n, os, by rw [← World.drewN_drewN]; rfl⟩
theorem Grw.drew {w w' : World} (h : Grw w w') : Grw w w'.drew := h.drewN 1
theorem Grw.alloc {w w' : World} (h : Grw w w') (o : Obj) : Grw w (w'.alloc o) := by
  obtain ⟨q, os, rfl⟩ := h
  exact ⟨q, os ++ #[o], by rw [alloc_eq_grow, grow_grow]⟩
theorem Grw.setCell {w w' : World} (h : Grw w w') {g : Nat} (hg : w.heap.size ≤ g) (o : Nat) (v : Value) : Grw w (w'.setCell ⟨g, o, none⟩ v) := by
  obtain ⟨q, os, rfl⟩ := h
  exact ⟨q, _, by rw [setCell_eq, mapBlock_grow_new _ _ _ _ (show (w.drewN q).heap.size ≤ g from hg)]⟩
theorem Grw.trans {a b c : World} (h : Grw a b) (k : Grw b c) : Grw a c := by
  obtain ⟨q, os, rfl⟩ := h
  obtain ⟨q', os', rfl⟩ := k
  refine ⟨q + q', os ++ os', ?_⟩
  rw [← World.drewN_drewN]
  show grow (grow ((a.drewN q).drewN q') os) os' = _
  rw [grow_grow]
theorem Grw.size {w w' : World} (h : Grw w w') : w.heap.size ≤ w'.heap.size := by
  obtain ⟨q, os, rfl⟩ := h
  rw [Sort.size_grow]
  show w.heap.size ≤ w.heap.size + _
  omega
theorem Grw.below {w w' : World} (h : Grw w w') : Below w.heap.size w w' := by
  obtain ⟨q, os, rfl⟩ := h
  refine ⟨rfl, rfl, rfl, Grw.size ⟨q, os, rfl⟩, fun k hk => ?_⟩
  show (w.heap ++ os)[k]? = _
  rw [Array.getElem?_append_left hk]
set_option maxHeartbeats 1000000 in
theorem tr_why_g {O : Nat → Prop} (b : Nat) (T : Trl) (v : Int) (w : World) (h : TrAt O w b T) :
    Calls Tryz.prog 57 #[.pointer (some ⟨b, 0, none⟩), .int .i64 v] w fun e w' => e = .returned (whyVal (T.why v)) ∧ Grw w w' := by
  obtain ⟨wa, hwa⟩ : ∃ x, w.alloc (.cells #[.int .i64 0, .int .i64 0, .int .i64 0] 103) = x := ⟨_, rfl⟩
  have hba : Below w.heap.size w wa := by rw [← hwa]; exact mx_al _ _
  have hga : Grw w wa := by rw [← hwa]; exact (Grw.refl w).alloc _
  have hbn : wa.heap[w.heap.size]? = some (.cells #[.int .i64 0, .int .i64 0, .int .i64 0] 103 (0, 0)) := by rw [← hwa]; exact World.alloc_heap_new _ _
  have h := h.below hba
  obtain ⟨hk, gv, cv, ov, sv, h⟩ := h
  have hst := tr_state b T gv cv ov sv v wa hk h
  have e0 : wa.cell? ⟨w.heap.size, 0, none⟩ = some (.int .i64 0) := mx_cell (j := 0) hbn
  have e1 : wa.cell? ⟨w.heap.size, 1, none⟩ = some (.int .i64 0) := mx_cell (j := 1) hbn
  have e2 : wa.cell? ⟨w.heap.size, 2, none⟩ = some (.int .i64 0) := mx_cell (j := 2) hbn
  have f0 := mx_free (j := 0) hbn
  have f1 := mx_free (j := 1) hbn
  have f2 := mx_free (j := 2) hbn
  have HWA := Lib.hid hwa
  have HGA := Lib.hid hga
  clear hwa hba hbn hga
  unfold Trl.why
  rcases hat : T.at v with _ | s
  · rw [hat, stateVal_none] at hst
    have HST := Lib.hid hst
    clear hst hat h hk
    go_enter Tryz.func57, Tryz.ntmps57
    go_wp2_with fail
    rw [HWA.out]
    refine HST.out.mono ?_
    rintro e w' ⟨rfl, rfl⟩
    go_wp2_with fail
    refine bodyPost_ret (v := .tuple #[.agg #[.int .i64 0, .int .i64 0, .int .i64 0], .bool false]) (by simp [results, Tryz.results57, go_sem, e0, e1, e2]) rfl ⟨rfl, ((HGA.out.setCell (Nat.le_refl _) _ _).setCell (Nat.le_refl _) _ _).setCell (Nat.le_refl _) _ _⟩
  · rw [hat, stateVal_some] at hst
    have hget := Trl.at_get hat
    obtain ⟨c0, c1, c2, c3⟩ := h.var hget
    obtain ⟨n, hn⟩ : ∃ n, v.toNat = n := ⟨_, rfl⟩
    rw [hn] at hst c0 c1 c2 c3
    have HST := Lib.hid hst
    clear hst hat hget h hk hn
    by_cases hz : s.value = 0
    · have q0 : (s.value == 0) = true := by simpa using hz
      have HZ := Lib.hid hz
      simp only [hz, if_true]
      clear hz
      go_enter Tryz.func57, Tryz.ntmps57
      go_wp2_with fail
      rw [HWA.out]
      refine HST.out.mono ?_
      rintro e w' ⟨rfl, rfl⟩
      go_wp2_with fail
      refine bodyPost_ret (v := .tuple #[.agg #[.int .i64 0, .int .i64 0, .int .i64 0], .bool false]) (by simp [results, Tryz.results57, go_sem, e0, e1, e2]) rfl ⟨rfl, ((HGA.out.setCell (Nat.le_refl _) _ _).setCell (Nat.le_refl _) _ _).setCell (Nat.le_refl _) _ _⟩
    · have q0 : (s.value == 0) = false := by simpa using hz
      simp only [hz, if_false]
      have HZ := Lib.hid hz
      clear hz
      go_enter Tryz.func57, Tryz.ntmps57
      go_wp2_with fail
      rw [HWA.out]
      refine HST.out.mono ?_
      rintro e w' ⟨rfl, rfl⟩
      go_wp2_with fail
      refine bodyPost_ret (v := .tuple #[.agg #[.int .i64 s.level, .int .i64 s.reason, .int .i64 s.place], .bool true]) (by simp [results, Tryz.results57, go_sem, e0, e1, e2]) rfl ⟨rfl, ((HGA.out.setCell (Nat.le_refl _) _ _).setCell (Nat.le_refl _) _ _).setCell (Nat.le_refl _) _ _⟩
theorem tr_level_g {O : Nat → Prop} (b : Nat) (T : Trl) (v : Int) (w : World) (h : TrAt O w b T) :
    Calls Tryz.prog 89 #[.pointer (some ⟨b, 0, none⟩), .int .i64 v] w fun e w' => e = .returned (.tuple #[.int .i64 (T.level v), .bool (T.why v).isSome]) ∧ Grw w w' := by
  have hc := tr_why_g b T v w h
  unfold Trl.level
  rcases hw : T.why v with _ | s
  · rw [hw, show whyVal none = .tuple #[.agg #[.int .i64 0, .int .i64 0, .int .i64 0], .bool false] from rfl] at hc
    have HC := Lib.hid hc
    clear hc hw
    go_enter Tryz.func89, Tryz.ntmps89
    go_wp2_with fail
    refine HC.out.mono ?_
    rintro e w' ⟨rfl, hb'⟩
    have HB' := Lib.hid hb'
    clear hb'
    go_wp2_with fail
    go_ret2
    exact ⟨rfl, HB'.out.alloc _⟩
  · rw [hw, show whyVal (some s) = .tuple #[.agg #[.int .i64 s.level, .int .i64 s.reason, .int .i64 s.place], .bool true] from rfl] at hc
    have HC := Lib.hid hc
    clear hc hw
    go_enter Tryz.func89, Tryz.ntmps89
    go_wp2_with fail
    refine HC.out.mono ?_
    rintro e w' ⟨rfl, hb'⟩
    have HB' := Lib.hid hb'
    clear hb'
    go_wp2_with fail
    go_ret2
    exact ⟨rfl, HB'.out.alloc _⟩
theorem ord_nan (x : Int) (w : World) : Calls Tryz.prog 155 #[.int .i64 x] w fun e w' => e = .returned (.bool false) ∧ w = w' := by
  have hx : (x != x) = false := by simp
  go_enter Tryz.func155, Tryz.ntmps155
  go_wp2_with fail
  go_ret
  exact ⟨rfl, rfl⟩
theorem ord_int (x y : Int) (w : World) : Calls Tryz.prog 121 #[.int .i64 x, .int .i64 y] w fun e w' => e = .returned (.int .i64 (ordI x y)) ∧ w = w' := by
  have HX := Lib.hid (ord_nan x w)
  have HY := Lib.hid (ord_nan y w)
  unfold ordI
  by_cases h1 : x < y
  · have q1 : decide (x < y) = true := by simpa using h1
    rw [if_pos h1]
    go_enter Tryz.func121, Tryz.ntmps121
    go_wp2_with fail
    refine HX.out.mono ?_
    rintro e w' ⟨rfl, rfl⟩
    go_wp2_with fail
    refine HY.out.mono ?_
    rintro e w' ⟨rfl, rfl⟩
    go_wp2_with fail
    go_ret
    exact ⟨rfl, rfl⟩
  · have q1 : decide (x < y) = false := by simpa using h1
    rw [if_neg h1]
    by_cases h2 : y < x
    · have q2 : decide (y < x) = true := by simpa using h2
      rw [if_pos h2]
      go_enter Tryz.func121, Tryz.ntmps121
      go_wp2_with fail
      refine HX.out.mono ?_
      rintro e w' ⟨rfl, rfl⟩
      go_wp2_with fail
      refine HY.out.mono ?_
      rintro e w' ⟨rfl, rfl⟩
      go_wp2_with fail
      go_ret
      exact ⟨rfl, rfl⟩
    · have q2 : decide (y < x) = false := by simpa using h2
      rw [if_neg h2]
      go_enter Tryz.func121, Tryz.ntmps121
      go_wp2_with fail
      refine HX.out.mono ?_
      rintro e w' ⟨rfl, rfl⟩
      go_wp2_with fail
      refine HY.out.mono ?_
      rintro e w' ⟨rfl, rfl⟩
      go_wp2_with fail
      go_ret
      exact ⟨rfl, rfl⟩
set_option maxRecDepth 100000 in
set_option maxHeartbeats 2000000 in
theorem wa_level {O : Nat → Prop} (b tb : Nat) (T : Trl) (l : Int) (w : World) (h : TrAt O w tb T) (c1 : w.cell? ⟨b, 1, none⟩ = some (.pointer (some ⟨tb, 0, none⟩))) :
    Calls Tryz.prog 147 #[.pointer (some ⟨b, 0, none⟩), .int .i64 l] w fun e w' => e = .returned (.int .i64 (T.level (litV l : Nat))) ∧ Grw w w' := by
  have hlt : b < w.heap.size := World.block_lt_of_cell? w _ c1
  have HL := Lib.hid (tr_level_g tb T (litV l : Nat) w.drew (h.below (mx_drew w)))
  have HV := Lib.hid (lit_var l w.drew)
  obtain ⟨v, hv⟩ : ∃ v : Int, ((litV l : Nat) : Int) = v := ⟨_, rfl⟩
  rw [hv] at HL HV ⊢
  obtain ⟨q, hq⟩ : ∃ q, (T.why v).isSome = q := ⟨_, rfl⟩
  obtain ⟨y, hy⟩ : ∃ y, T.level v = y := ⟨_, rfl⟩
  rw [hq, hy] at HL
  rw [hy]
  have HC := Lib.hid c1
  clear h hv hq hy c1
  go_enter Tryz.func147, Tryz.ntmps147
  go_upto_region 1 with fail
  refine wp_region_held_drew (S := fun w' => Below w.heap.size w w') (by kernel_rfl) (mx_drew w) (fun hS => ?_)
  refine takeE 0 8 ?_
  refine takeE 1 9 ?_
  refine takeE 2 10 ?_
  refine takeF 3 11 (fun wq hSw => (hSw.cell (p := ⟨b, 1, none⟩) hlt).trans HC.out) ?_
  refine takeE 4 12 ?_
  refine ready1 5 (fun K hK => ?_)
  go_simp
  refine HV.out.mono ?_
  rintro e w' ⟨rfl, rfl⟩
  refine hK.out _ _ hS (fun _ => ?_)
  clear hK
  refine ready1 6 (fun K hK => ?_)
  go_simp
  refine HL.out.mono ?_
  rintro e w1 ⟨rfl, hg⟩
  refine hK.out _ _ (hS.trans (hg.below.mono hS.size)) (fun _ => ?_)
  clear hK hS
  have HG := Lib.hid ((Grw.refl w).drew.trans hg)
  have hS : Below w.heap.size w w1 := HG.out.below
  clear hg
  refine takeE 7 7 ?_
  refine takeE 8 15 ?_
  refine takeE 9 16 ?_
  refine takeE 10 5 ?_
  refine takeE 11 6 ?_
  refine wpAnyH_done (by kernel_rfl) ?_ _
  clear hS
  go_wp2_with fail
  go_ret
  exact ⟨rfl, HG.out⟩
end Go.Proofs.YtoojmhjagipmdaaGreat
namespace Go.Proofs.YtoojmhjagipmdaaGreat
open Go.RowKit Go.Maps Go.Shelf Go.Sort Go.Lib

theorem lvOrd_lt (T : Trl) (a b : Int) : ltOf T.lvOrd a b = decide (T.level (litV b : Nat) < T.level (litV a : Nat)) := by
  unfold ltOf Trl.lvOrd ordI
  split
  · rename_i h
    simp [h]
  · rename_i h
    split
    · simp [h]
    · simp [h]
theorem lvOrd_swo (T : Trl) : SWO (ltOf T.lvOrd) where
  irrefl := fun a => by rw [lvOrd_lt]; simp
  trans := fun a b c h1 h2 => by
    rw [lvOrd_lt, decide_eq_true_eq] at *
    omega
  ntrans := fun a b c h1 h2 => by
    rw [lvOrd_lt, decide_eq_false_iff_not] at *
    omega
theorem stab_permIn (T : Trl) (xs : List Int) : PermIn 0 xs.toArray.size xs.toArray (Sort.insertionSort (ltOf T.lvOrd) xs.toArray 0 xs.length) := by
  have := (insertionSort_holds (lvOrd_swo T) xs.toArray 0 xs.toArray.size (Nat.zero_le _) (Nat.le_refl _)).1
  simpa using this
theorem stab_length (T : Trl) (xs : List Int) : (T.stab xs).length = xs.length := by
  have := (stab_permIn T xs).1
  unfold Trl.stab
  rw [Array.length_toList, this]
  simp
theorem stab_perm (T : Trl) (xs : List Int) : (T.stab xs).Perm xs := by
  obtain ⟨h1, _, h2⟩ := stab_permIn T xs
  rw [Array.extract_eq_self_of_le (by rw [h1]; exact Nat.le_refl _), Array.extract_eq_self_of_le (Nat.le_refl _)] at h2
  exact h2
theorem stab_mem {T : Trl} {xs : List Int} {x : Int} : x ∈ T.stab xs ↔ x ∈ xs := (stab_perm T xs).mem_iff
set_option maxRecDepth 100000 in
set_option maxHeartbeats 2000000 in
theorem wa_cmp {O : Nat → Prop} (b tb Bw : Nat) (T : Trl) (x y : Int) (w : World) (hT : TrAt O w tb T) (c0 : w.cell? ⟨Bw, 0, none⟩ = some (.pointer (some ⟨b, 0, none⟩))) (c1 : w.cell? ⟨b, 1, none⟩ = some (.pointer (some ⟨tb, 0, none⟩))) :
    Calls Tryz.prog 146 #[.int .i64 x, .int .i64 y, .pointer (some ⟨Bw, 0, none⟩)] w fun e w' => e = .returned (.int .i64 (T.lvOrd x y)) ∧ Grw w w' := by
  have hl0 : Bw < w.heap.size := World.block_lt_of_cell? w _ c0
  have hl1 : b < w.heap.size := World.block_lt_of_cell? w _ c1
  have HX := Lib.hid (fun (W : World) (h : Below w.heap.size w W) => wa_level b tb T x W (hT.below h) ((h.cell (p := ⟨b, 1, none⟩) hl1).trans c1))
  have HY := Lib.hid (fun (W : World) (h : Below w.heap.size w W) => wa_level b tb T y W (hT.below h) ((h.cell (p := ⟨b, 1, none⟩) hl1).trans c1))
  unfold Trl.lvOrd
  obtain ⟨p, hp⟩ : ∃ p, T.level (litV x : Nat) = p := ⟨_, rfl⟩
  obtain ⟨q, hq⟩ : ∃ q, T.level (litV y : Nat) = q := ⟨_, rfl⟩
  rw [hp] at HX ⊢
  rw [hq] at HY ⊢
  have HC := Lib.hid c0
  clear hT hp hq c0 c1
  go_enter Tryz.func146, Tryz.ntmps146
  go_upto_region 1 with fail
  refine wp_region_held_drew (S := fun w' => Below w.heap.size w w') (by kernel_rfl) (mx_drew w) (fun hS => ?_)
  refine takeF 0 6 (fun wq hSw => (hSw.cell (p := ⟨Bw, 0, none⟩) hl0).trans HC.out) ?_
  refine takeE 1 7 ?_
  refine takeF 3 9 (fun wq hSw => (hSw.cell (p := ⟨Bw, 0, none⟩) hl0).trans HC.out) ?_
  refine takeE 4 10 ?_
  refine ready1 2 (fun K hK => ?_)
  go_simp
  refine (HY.out _ hS).mono ?_
  rintro e w1 ⟨rfl, hg⟩
  refine hK.out _ _ (hS.trans (hg.below.mono hS.size)) (fun _ => ?_)
  clear hK hS
  have HG := Lib.hid ((Grw.refl w).drew.trans hg)
  have hS : Below w.heap.size w w1 := HG.out.below
  clear hg
  refine ready1 5 (fun K hK => ?_)
  go_simp
  refine (HX.out _ hS).mono ?_
  rintro e w2 ⟨rfl, hg⟩
  refine hK.out _ _ (hS.trans (hg.below.mono hS.size)) (fun _ => ?_)
  clear hK hS
  have HG2 := Lib.hid (HG.out.trans hg)
  have hS : Below w.heap.size w w2 := HG2.out.below
  clear hg
  refine ready1 6 (fun K hK => ?_)
  go_simp
  refine (ord_int q p w2).mono ?_
  rintro e w' ⟨rfl, rfl⟩
  refine hK.out _ _ hS (fun _ => ?_)
  clear hK
  refine takeE 7 5 ?_
  refine wpAnyH_done (by kernel_rfl) ?_ _
  clear hS
  go_wp2_with fail
  go_ret
  exact ⟨rfl, HG2.out⟩
theorem wa_cmp_lays {O : Nat → Prop} (b tb Bw : Nat) (T : Trl) (w : World) (hT : TrAt O w tb T) (c0 : w.cell? ⟨Bw, 0, none⟩ = some (.pointer (some ⟨b, 0, none⟩))) (c1 : w.cell? ⟨b, 1, none⟩ = some (.pointer (some ⟨tb, 0, none⟩))) (g size : Nat) (hg : ¬ O g ∧ Bw ≠ g ∧ b ≠ g) :
    CmpLays1 Tryz.prog 146 #[.pointer (some ⟨Bw, 0, none⟩)] (Value.int .i64) T.lvOrd g 0 size w := by
  intro m os dk _ x y
  have hk : Kept (fun k => some g = some k) w (sortWorld (Value.int .i64) w g 0 m dk os) := st_kept dk
  have hl0 : Bw < w.heap.size := World.block_lt_of_cell? w _ c0
  have hl1 : b < w.heap.size := World.block_lt_of_cell? w _ c1
  refine (wa_cmp b tb Bw T x y (sortWorld (Value.int .i64) w g 0 m dk os) (hT.kept hk (fun k hk e => hg.1 ((Option.some.inj e).symm ▸ hk))) ((hk.cell (p := ⟨Bw, 0, none⟩) hl0 (fun e => hg.2.1 (Option.some.inj e).symm)).trans c0) ((hk.cell (p := ⟨b, 1, none⟩) hl1 (fun e => hg.2.2 (Option.some.inj e).symm)).trans c1)).mono ?_
  rintro e w' ⟨rfl, q, os', rfl⟩
  exact ⟨rfl, q, os', rfl⟩
set_option maxRecDepth 100000 in
set_option maxHeartbeats 2000000 in
/-- the insertion sort of a row -/
theorem wa_ins {O : Nat → Prop} {base : Nat} (b tb Bw : Nat) (T : Trl) (v : Value) (xs : List Int) (w : World) (hT : TrAt O w tb T) (c0 : w.cell? ⟨Bw, 0, none⟩ = some (.pointer (some ⟨b, 0, none⟩))) (c1 : w.cell? ⟨b, 1, none⟩ = some (.pointer (some ⟨tb, 0, none⟩)))
    (h : w.ownsRow base 32 1 v xs.length (xs.map (Value.int .i64))) (hv : ∀ g, v.ownBlock = some g → ¬ O g ∧ Bw ≠ g ∧ b ≠ g) (hl : xs.length < 1000000) :
    Calls Tryz.prog 193 #[v, .int .i64 0, .int .i64 (xs.length : Nat), .func (.func 146) #[] #[.pointer (some ⟨Bw, 0, none⟩)]] w fun e w' => e = .returned (.tuple #[]) ∧ w'.ownsRow base 32 1 v (T.stab xs).length ((T.stab xs).map (Value.int .i64)) ∧ Kept (fun g => v.ownBlock = some g) w w' := by
  rcases h.2 with ⟨rfl, h0⟩ | ⟨g, cap, cur, rfl, hb, hg, h1, h2, h3, h4⟩
  · obtain rfl : xs = [] := List.eq_nil_of_length_eq_zero h0
    have hs : T.stab [] = [] := List.eq_nil_of_length_eq_zero (by rw [stab_length]; rfl)
    rw [hs]
    have HO := Lib.hid h
    clear h hv hT c0 c1 hl h0 hs
    show Calls Tryz.prog _ #[.slice none 0 0, .int .i64 0, .int .i64 0, _] w _
    go_enter Tryz.func193, Tryz.ntmps193
    go_wp2_with fail
    go_loopw [8] (fun iv wq => iv = .int .i64 1 ∧ wq = w) (fun _ _ => 0)
    case atStart => exact ⟨rfl, rfl⟩
    case round =>
      obtain ⟨rfl, rfl⟩ := hrel
      go_wp2_with fail
      go_end0
      exact ⟨rfl, HO.out, Kept.refl _ _⟩
  · have eg : ∀ args w, (callFunc 146 args).run Tryz.prog w = .ok (.enter 146 args) w := enters_of Tryz.func146 (by kernel_rfl) rfl
    have hH : Holds (Value.int .i64) w g 0 xs.toArray := st_holds hg (by simpa using h4)
    have H := Any.insertionSortCmpFunc_s Tryz.insLit (Value.int .i64) T.lvOrd 146 #[.pointer (some ⟨Bw, 0, none⟩)] g 0 cap 0 xs.length xs.toArray xs.toArray w w eg (wa_cmp_lays b tb Bw T w hT c0 c1 g _ (hv g rfl)) ⟨fun _ => rfl, hH, heap_lt hg⟩ rfl (SW.start hH) (Nat.zero_le _) (by simp) (by simp; omega)
    change Calls Tryz.prog 193 _ _ _ at H
    rw [List.size_toArray] at H
    refine H.mono ?_
    rintro e w' ⟨rfl, n, os, rfl⟩
    refine ⟨rfl, ?_, st_kept _⟩
    have hsl := stab_length T xs
    have e1 : Sort.insertionSort (ltOf T.lvOrd) xs.toArray 0 xs.length = (T.stab xs).toArray := by unfold Trl.stab; simp
    rw [e1, hsl]
    refine ⟨by simp [hsl], .inr ⟨g, cap, _, rfl, hb, st_heap _ hg, h1, h2, by simp [putCells, h3], ?_⟩⟩
    have e2 : xs.length * 1 = (T.stab xs).length := by rw [hsl, Nat.mul_one]
    rw [e2]
    exact st_take cur (T.stab xs) (by rw [hsl]; omega)
set_option maxRecDepth 100000 in
set_option maxHeartbeats 2000000 in
theorem wa_stable {O : Nat → Prop} {base : Nat} (b tb Bw : Nat) (T : Trl) (v : Value) (xs : List Int) (w : World) (hT : TrAt O w tb T) (c0 : w.cell? ⟨Bw, 0, none⟩ = some (.pointer (some ⟨b, 0, none⟩))) (c1 : w.cell? ⟨b, 1, none⟩ = some (.pointer (some ⟨tb, 0, none⟩)))
    (h : w.ownsRow base 32 1 v xs.length (xs.map (Value.int .i64))) (hv : ∀ g, v.ownBlock = some g → ¬ O g ∧ Bw ≠ g ∧ b ≠ g) (hl : xs.length < 20) :
    Calls Tryz.prog 145 #[v, .func (.func 146) #[] #[.pointer (some ⟨Bw, 0, none⟩)]] w fun e w' => e = .returned (.tuple #[]) ∧ w'.ownsRow base 32 1 v (T.stab xs).length ((T.stab xs).map (Value.int .i64)) ∧ Kept (fun g => v.ownBlock = some g) w w' := by
  have HI := Lib.hid (wa_ins b tb Bw T v xs w hT c0 c1 h hv (by omega))
  obtain ⟨A, c, rfl, _⟩ := mx_slice h
  obtain ⟨n, hn⟩ : ∃ n, xs.length = n := ⟨_, rfl⟩
  rw [hn] at HI hl ⊢
  have hq1 : decide ((20 : Int) ≤ (n : Int)) = false := by simp; omega
  have hq2 : decide ((20 : Int) < (n : Int)) = false := by simp; omega
  have HS := Lib.hid (show Calls Tryz.prog 179 #[.slice A n c, .int .i64 (n : Nat), .func (.func 146) #[] #[.pointer (some ⟨Bw, 0, none⟩)]] w fun e w' => e = .returned (.tuple #[]) ∧ w'.ownsRow base 32 1 (.slice A n c) (T.stab xs).length ((T.stab xs).map (Value.int .i64)) ∧ Kept (fun g => (Value.slice A n c).ownBlock = some g) w w' from by
    clear hT c0 c1 h hv hn
    go_enter Tryz.func179, Tryz.ntmps179
    go_wp2_with fail
    go_loopw [7, 8] (fun a i wq => a = .int .i64 0 ∧ i = .int .i64 20 ∧ wq = w) (fun _ _ _ => 0)
    case atStart => exact ⟨rfl, rfl, rfl⟩
    case round =>
      obtain ⟨rfl, rfl, rfl⟩ := hrel
      go_wp2_with fail
      refine HI.out.mono ?_
      rintro e w1 ⟨rfl, hr, hk⟩
      have HR := Lib.hid hr
      have HK := Lib.hid hk
      clear hr hk
      go_wp2_with fail
      go_loopw [6] (fun s wq => s = .int .i64 20 ∧ wq = w1) (fun _ _ => 0)
      case atStart => exact ⟨rfl, rfl⟩
      case round =>
        obtain ⟨rfl, rfl⟩ := hrel
        go_wp2_with fail
        go_end0
        exact ⟨rfl, HR.out, HK.out⟩)
  clear hT c0 c1 h hv hn HI hq1 hq2
  go_enter Tryz.func145, Tryz.ntmps145
  go_wp2_with fail
  refine HS.out.mono ?_
  rintro e w1 ⟨rfl, hr, hk⟩
  have HR := Lib.hid hr
  have HK := Lib.hid hk
  clear hr hk
  go_wp2_with fail
  go_end0
  exact ⟨rfl, HR.out, HK.out⟩
end Go.Proofs.YtoojmhjagipmdaaGreat
namespace Go.Proofs.YtoojmhjagipmdaaGreat
open Go.RowKit Go.Sort

/-- x comes into a list that lies the other way round -/
def insRev (lt : Int → Int → Bool) (x : Int) : List Int → List Int
  | [] => [x]
  | y :: r => if lt x y = true then y :: insRev lt x r else x :: y :: r
theorem get_at {d : Array Int} {a b : List Int} {x : Int} (h : d.toList = a ++ x :: b) : d[a.length]! = x := by
  have h1 : d.toList[a.length]? = some x := by rw [h]; simp
  rw [Array.getElem?_toList] at h1
  rw [getElem!_def, h1]
theorem swp_at {d : Array Int} {a b : List Int} {x y : Int} (h : d.toList = a ++ y :: x :: b) : (swp d (a.length + 1) a.length).toList = a ++ x :: y :: b := by
  have hy : d[a.length]! = y := get_at h
  have hx : d[a.length + 1]! = x := by
    have h2 : d.toList = (a ++ [y]) ++ x :: b := by rw [h]; simp
    have := get_at h2
    rwa [List.length_append, List.length_singleton] at this
  unfold swp
  rw [hx, hy, Array.toList_setIfInBounds, Array.toList_setIfInBounds, h]
  rw [List.set_append, if_neg (by omega), show a.length + 1 - a.length = 1 by omega, List.set_cons_succ, List.set_cons_zero, List.set_append, if_neg (by omega), Nat.sub_self, List.set_cons_zero]
theorem inner_eq (lt : Int → Int → Bool) (x : Int) : ∀ (r post : List Int) (d : Array Int), d.toList = r.reverse ++ x :: post → (insInner lt 0 r.length d).toList = (insRev lt x r).reverse ++ post := by
  intro r
  induction r with
  | nil =>
    intro post d h
    exact h
  | cons y r ih =>
    intro post d h
    have h' : d.toList = r.reverse ++ y :: x :: post := by rw [h]; simp
    have hy : d[r.length]! = y := by
      have := get_at h'
      rwa [List.length_reverse] at this
    have hx : d[r.length + 1]! = x := by
      have := get_at h
      rwa [List.length_reverse, List.length_cons] at this
    have hs := swp_at h'
    rw [List.length_reverse] at hs
    rw [List.length_cons]
    unfold insInner insRev
    rw [hx, hy]
    by_cases hl : lt x y = true
    · rw [if_pos hl, if_pos (by rw [hl]; simp), ih _ _ hs]
      simp
    · rw [if_neg hl, if_neg (by simp [hl]), h]
      simp
theorem outer_eq (lt : Int → Int → Bool) : ∀ (post r : List Int) (d : Array Int), d.toList = r.reverse ++ post → (insOuter lt 0 (r.length + post.length) r.length d).toList = (post.foldl (fun r x => insRev lt x r) r).reverse := by
  intro post
  induction post with
  | nil =>
    intro r d h
    unfold insOuter
    rw [if_neg (by simp), h]
    simp
  | cons x post ih =>
    intro r d h
    have hlen : (insRev lt x r).length = r.length + 1 := by
      clear ih h
      induction r with
      | nil => rfl
      | cons y r ih =>
        unfold insRev
        split
        · rw [List.length_cons, ih, List.length_cons]
        · rfl
    have hi := inner_eq lt x r post d h
    have := ih (insRev lt x r) _ hi
    rw [hlen] at this
    rw [insOuter, if_pos (by rw [List.length_cons]; omega), List.length_cons, show r.length + (post.length + 1) = r.length + 1 + post.length by omega, this]
    rfl
/-- the stable sort, plainly -/
theorem stab_eq (T : Trl) (xs : List Int) : T.stab xs = (xs.foldl (fun r x => insRev (ltOf T.lvOrd) x r) []).reverse := by
  unfold Trl.stab insertionSort
  cases xs with
  | nil =>
    unfold insOuter
    rw [if_neg (by simp)]
    rfl
  | cons x r =>
    have := outer_eq (ltOf T.lvOrd) r [x] (x :: r).toArray (by simp)
    rw [show ([x] : List Int).length + r.length = (x :: r).length by simp; omega] at this
    exact this
end Go.Proofs.YtoojmhjagipmdaaGreat
namespace Go.Proofs.YtoojmhjagipmdaaGreat
open Go.RowKit

section
variable (lv : Int → Int)
/-- x comes in, greater levels to the right -/
def insL (x : Int) (r : List Int) : List Int := insRev (fun x y => decide (lv y < lv x)) x r
theorem insL_cons (x y : Int) (r : List Int) : insL lv x (y :: r) = if lv y < lv x then y :: insL lv x r else x :: y :: r := by
  unfold insL
  rw [insRev]
  by_cases h : lv y < lv x
  · rw [if_pos h, if_pos (decide_eq_true h)]
  · rw [if_neg h, if_neg (by simpa using h)]
def SrtL (r : List Int) : Prop := r.Pairwise fun a b => lv a ≤ lv b
theorem insL_mem (x : Int) (r : List Int) (z : Int) : z ∈ insL lv x r ↔ z = x ∨ z ∈ r := by
  induction r with
  | nil => simp [insL, insRev]
  | cons y r ih =>
    rw [insL_cons]
    split
    · rw [List.mem_cons, ih, List.mem_cons]
      constructor
      · rintro (h | h | h)
        · exact .inr (.inl h)
        · exact .inl h
        · exact .inr (.inr h)
      · rintro (h | h | h)
        · exact .inr (.inl h)
        · exact .inl h
        · exact .inr (.inr h)
    · exact List.mem_cons
theorem insL_srt (x : Int) {r : List Int} (h : SrtL lv r) : SrtL lv (insL lv x r) := by
  unfold SrtL at *
  induction r with
  | nil => simp [insL, insRev]
  | cons y r ih =>
    rw [List.pairwise_cons] at h
    rw [insL_cons]
    split
    · rename_i hl
      rw [List.pairwise_cons]
      refine ⟨fun z hz => ?_, ih h.2⟩
      rcases (insL_mem lv x r z).1 hz with e | hz
      · rw [e]
        omega
      · exact h.1 z hz
    · rename_i hl
      rw [List.pairwise_cons, List.pairwise_cons]
      refine ⟨fun z hz => ?_, h.1, h.2⟩
      rcases List.mem_cons.1 hz with e | hz
      · rw [e]
        omega
      · have := h.1 z hz
        omega
end
end Go.Proofs.YtoojmhjagipmdaaGreat
namespace Go.Proofs.YtoojmhjagipmdaaGreat
open Go.RowKit

section
variable (lv : Int → Int)
def rMx (out : Int) : List Int → Int
  | [] => out
  | x :: r => rMx (if out = 0 ∨ lv out < lv x then x else out) r
/-- the reference's look for the greatest level, without one -/
def rMaxGo (wo out : Int) : List Int → Int
  | [] => out
  | x :: r => rMaxGo wo (if x ≠ wo ∧ (out = 0 ∨ lv out < lv x) then x else out) r
def foldL (r xs : List Int) : List Int := xs.foldl (fun r x => insL lv x r) r
theorem foldL_srt (xs : List Int) : ∀ {r : List Int}, SrtL lv r → SrtL lv (foldL lv r xs) := by
  induction xs with
  | nil => exact fun h => h
  | cons x xs ih => exact fun h => ih (insL_srt lv x h)
end
theorem stab_fold (T : Trl) (xs : List Int) : T.stab xs = (foldL (fun z => T.level (litV z : Nat)) [] xs).reverse := by
  rw [stab_eq]
  have e : ltOf T.lvOrd = fun x y => decide (T.level (litV y : Nat) < T.level (litV x : Nat)) := by
    funext x y
    unfold ltOf Trl.lvOrd ordI
    by_cases h : T.level (litV y : Nat) < T.level (litV x : Nat)
    · rw [if_pos h, decide_eq_true h]
      rfl
    · rw [if_neg h, decide_eq_false h]
      split <;> rfl
  rw [e]
  rfl
end Go.Proofs.YtoojmhjagipmdaaGreat
namespace Go.Proofs.YtoojmhjagipmdaaGreat
open Go.RowKit

theorem tinfo_state : (Tryz.prog.info? 150).map (fun i => (i.zero, i.size, i.bytes)) = some (some (.agg #[.int .i64 0, .int .i64 0, .int .i64 0, .int .i64 0]), 4, 32) := by kernel_rfl
theorem made_state (m : Nat) : (madeCells (Value.agg #[.int .i64 0, .int .i64 0, .int .i64 0, .int .i64 0]).cells (m * 4)).toList = (List.replicate m (⟨0, 0, 0, 0⟩ : TV)).flatMap TV.cells := by
  apply List.ext_getElem?
  intro q
  rw [tvCells_div, List.getElem?_replicate, Array.getElem?_toList]
  have hz : (Value.agg #[.int .i64 0, .int .i64 0, .int .i64 0, .int .i64 0]).cells = #[.int .i64 0, .int .i64 0, .int .i64 0, .int .i64 0] := rfl
  rw [hz]
  unfold madeCells
  rw [Array.getElem?_map]
  by_cases hq : q < m * 4
  · rw [if_pos (show q / 4 < m by omega), Array.getElem?_range, if_pos hq]
    have h4 : q % 4 = 0 ∨ q % 4 = 1 ∨ q % 4 = 2 ∨ q % 4 = 3 := by omega
    rcases h4 with e | e | e | e
    all_goals
      show some (#[Value.int .i64 0, .int .i64 0, .int .i64 0, .int .i64 0][q % 4]!) = _
      rw [e]
      rfl
  · rw [if_neg (show ¬ q / 4 < m by omega), Array.getElem?_range, if_neg hq]
    rfl
set_option maxRecDepth 100000 in
set_option maxHeartbeats 1000000 in
theorem tr_new (n : Nat) (w : World) (hn : n ≤ 1048576) :
    Calls Tryz.prog 101 #[.int .i64 (n : Int)] w fun e w' => ∃ b, e = .returned (.tuple #[.pointer (some ⟨b, 0, none⟩), .int .i64 0]) ∧ TrAt (fun g => w.heap.size ≤ g ∧ g < w'.heap.size) w' b ⟨List.replicate (n + 1) ⟨0, 0, 0, 0⟩, [], [0]⟩ ∧ Below w.heap.size w w' := by
  have q0 : decide ((n : Int) < 0) = false := by simp
  have q1 : decide ((1048576 : Int) < (n : Int)) = false := by simp; omega
  obtain ⟨i0, hi0, hz0, hz1, hz2⟩ := info_parts tinfo_state
  obtain ⟨w1, hrun, hown, hgr⟩ := run_make_full (P := Tryz.prog) (w := w) w.heap.size 151 150 i0 _ 4 Tryz.underlying151 hi0 hz0 hz1 .i64 .i64 (n + 1) (by rw [hz2]; omega) (by unfold maxLen; omega) (Nat.le_refl _)
  rw [made_state] at hown
  rw [show ((n + 1 : Nat) : Int) = (n : Int) + 1 from by omega] at hrun
  have hk1 : Below w.heap.size w w1 := (Below.refl _ _).grown hgr (Nat.le_refl _) (fun g hg => by cases hg)
  have HOWN := Lib.hid hown
  have HK1 := Lib.hid hk1
  have hz := hk1.size
  have hg1 := (own_lt hown w.heap.size rfl).2
  clear hown hgr hk1 hi0 hz0 hz1 hz2
  clear i0
  go_enter Tryz.func101, Tryz.ntmps101
  go_wp2_with fail
  obtain ⟨w2, hw2⟩ : ∃ x, w1.alloc (.cells #[.int .i64 0] 3) = x := ⟨_, rfl⟩
  have hb2 : Below w1.heap.size w1 w2 := by rw [← hw2]; exact mx_al _ _
  have ho2 : w2.ownsRow 0 3 1 (.slice (some ⟨w1.heap.size, 0, none⟩) 1 1) 1 [.int .i64 0] := by
    rw [← hw2]
    exact ⟨rfl, .inr ⟨w1.heap.size, 1, #[.int .i64 0], rfl, Nat.zero_le _, World.alloc_heap_new _ _, Nat.le_refl _, by decide, rfl, rfl⟩⟩
  have hz2 : w2.heap.size = w1.heap.size + 1 := by rw [← hw2]; simp
  obtain ⟨w3, hw3⟩ : ∃ x, w2.alloc (.cells #[.slice (some ⟨w.heap.size, 0, none⟩) (n + 1) (n + 1), .slice none 0 0, .slice (some ⟨w1.heap.size, 0, none⟩) 1 1, .bool true] 153) = x := ⟨_, rfl⟩
  have hb3 : Below w2.heap.size w2 w3 := by rw [← hw3]; exact mx_al _ _
  have hn3 : w3.heap[w2.heap.size]? = some (.cells #[.slice (some ⟨w.heap.size, 0, none⟩) (n + 1) (n + 1), .slice none 0 0, .slice (some ⟨w1.heap.size, 0, none⟩) 1 1, .bool true] 153 (0, 0)) := by rw [← hw3]; exact World.alloc_heap_new _ _
  have hz3 : w3.heap.size = w2.heap.size + 1 := by rw [← hw3]; simp
  rw [hw2, hw3]
  go_ret2
  refine ⟨w2.heap.size, by rw [hz2]; rfl, ⟨⟨?_, by simp, by simp, fun s hs => ?_⟩, w.heap.size, n + 1, .slice none 0 0, .slice (some ⟨w1.heap.size, 0, none⟩) 1 1, ⟨fun g hg => hg.2, ⟨by omega, by omega⟩, ⟨Nat.le_refl _, by omega⟩, ?_, ?_, World.ownsRow_nil _ _ _ _, (fun g hg => by cases hg), own_below ho2 hb3, fun g hg => ?_⟩⟩, HK1.out.trans ((hb2.trans (hb3.mono hb2.size)).mono HK1.out.size)⟩
  · show 1 ≤ (List.replicate (n + 1) _).length ∧ (List.replicate (n + 1) _).length ≤ 1048577
    rw [List.length_replicate]
    omega
  · rw [List.eq_of_mem_replicate hs]
    exact .inl rfl
  · show w3.heap[w2.heap.size]? = some (.cells #[.slice _ (List.replicate (n + 1) _).length _, _, _, _] _ _)
    rw [List.length_replicate]
    exact hn3
  · show w3.ownsRow 0 _ 4 (.slice _ (List.replicate (n + 1) _).length _) (List.replicate (n + 1) _).length _
    rw [List.length_replicate]
    exact own_mono (own_below (own_below HOWN.out hb2) hb3) (Nat.zero_le _)
  · obtain rfl : w1.heap.size = g := Option.some.inj hg
    omega
end Go.Proofs.YtoojmhjagipmdaaGreat
