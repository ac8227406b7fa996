/- AnalyzeSmall: the walk. -/
import Derived.Test.YtfbiaclpopjipaaGreatAs
import Derived.Test.YtfbiaclpopjipaaGreatDs
namespace Go.Proofs.YtfbiaclpopjipaaGreat
open Go.RowKit

theorem act_one (l : List ActP) : ∀ u ∈ l.flatMap ActP.cells, u.oneCell' = true := fun u hu => by
 obtain ⟨a, _, ha⟩ := List.mem_flatMap.1 hu
 simp only [ActP.cells, List.mem_cons, List.not_mem_nil, or_false] at ha
 rcases ha with rfl | rfl | rfl <;> rfl
theorem acts_own {w : World} {base : Nat} {v : Value} {l : List ActP} (h : w.ownsRow base 33 3 v l.length (l.flatMap ActP.cells)) : ActsIn w v l := by
 rcases h.2 with ⟨rfl, hn⟩ | ⟨g, cap, cur, rfl, _, hg, _, _, _, hx⟩
 ·
  rw [List.eq_nil_of_length_eq_zero hn]
  exact ActsIn.nil _
 ·
  exact acts_of_block hg rfl hx
set_option maxRecDepth 100000 in
set_option maxHeartbeats 1000000 in
theorem clone_acts (g cap : Nat) (l : List ActP) (w : World) (h : w.ownsRow 0 33 3 (.slice (some ⟨g, 0, none⟩) l.length cap) l.length (l.flatMap ActP.cells)) (hn : l.length ≤ 1000) :
  Calls Tryz.prog 9 #[.slice (some ⟨g, 0, none⟩) l.length cap] w fun e w' => ∃ v', e = .returned v' ∧ w'.ownsRow w.heap.size 33 3 v' l.length (l.flatMap ActP.cells) ∧ Below w.heap.size w w' := by
 obtain ⟨i0, hi, iz0, iz1, iz2⟩ := info_parts ainfo_act
 have hl := h.1
 have hq := fun w => Lib.run_eql_slice_nil (P := Tryz.prog) w 23 33 (some ⟨g, 0, none⟩) l.length cap 0 0 Tryz.underlying23
 have hgl : g < w.heap.size := (own_lt h g rfl).2
 have hnews : ∀ j u, (l.flatMap ActP.cells)[j]? = some u → (w.alloc (.cells #[] 33)).cell? ((⟨g, 0, none⟩ : Addr).add j) = some u := fun j u hj => by
  rw [addr_add, ((Below.refl _ _).alloc (Nat.le_refl _) _).cell (p := ⟨g, j, none⟩) hgl, ← addr_add]
  exact h.cells (g := g) rfl j u hj
 have h0 : (w.alloc (.cells #[] 33)).ownsRow w.heap.size 33 3 (.slice (some ⟨w.heap.size, 0, none⟩) 0 0) 0 [] := ⟨rfl, .inr ⟨w.heap.size, 0, #[], rfl, Nat.le_refl _, World.alloc_heap_new _ _, Nat.le_refl _, Nat.zero_le _, rfl, rfl⟩⟩
 have HN := Lib.hid hnews
 have H0 := Lib.hid h0
 have HL := Lib.hid hl
 clear h hnews h0 hl
 go_enter Tryz.func9, Tryz.ntmps9
 go_wp2_with (at_builtin; refine wpList_append_own_at _ rfl _ _ 23 rfl w.heap.size 33 i0 (.agg #[.bool false, .int .i64 0, .int .i64 0]) 3 24 Tryz.underlying23 hi iz0 iz1 iz2 rfl (by decide) _ _ _ rfl H0.out ⟨g, 0, none⟩ l.length cap (l.flatMap ActP.cells) rfl HL.out HN.out (act_one l) (by unfold maxLen; omega) (by omega) (by simp) ?_; intro v' w1 hown hgrow hnl hat)
 go_ret
 have hB : Below w.heap.size w w1 := ((Below.refl w.heap.size w).alloc (Nat.le_refl _) (.cells #[] 33)).grown hgrow (by simp) (fun g hg => by cases hg; exact Nat.le_refl _)
 exact ⟨_, rfl, by simpa using hown, hB⟩
set_option maxRecDepth 100000 in
set_option maxHeartbeats 2000000 in
theorem del_any (g cap i m base : Nat) (l : List ActP) (w : World) (h : w.ownsRow base 33 3 (.slice (some ⟨g, 0, none⟩) l.length cap) l.length (l.flatMap ActP.cells)) (hl : l.length = i + m + 1) (hb : l.length ≤ 1000) :
  Calls Tryz.prog 10 #[.slice (some ⟨g, 0, none⟩) l.length cap, .int .i64 (i : Int), .int .i64 ((i : Int) + 1)] w fun e w' => e = .returned (.slice (some ⟨g, 0, none⟩) (i + m) cap) ∧ ActsIn w' (.slice (some ⟨g, 0, none⟩) (i + m) cap) (l.eraseIdx i) ∧ Kept (fun k => k = g) w w' := by
 obtain ⟨i0, hi0, hz0, hz1, hz2⟩ := info_parts ainfo_act
 have hle : l.length ≤ cap := by
  obtain ⟨A, c, hv, hc⟩ := mx_slice h
  simp only [Value.slice.injEq, true_and] at hv
  rw [← hv.2] at hc
  exact hc
 obtain ⟨cs, hg, hcs, hcx, hm⟩ : ∃ cs : Array Value, w.heap[g]? = some (.cells cs 33 (0, 0)) ∧ cs.size = cap * 3 ∧ cs.toList.take (l.length * 3) = l.flatMap ActP.cells ∧ cap ≤ maxLen := by
  rcases h.2 with ⟨h1, _⟩ | ⟨g', cap', cur, hv, _, hg, _, hm, hs, hx⟩
  ·
   cases h1
  ·
   cases hv
   exact ⟨cur, hg, hs, hx, hm⟩
 have hfl : (l.flatMap ActP.cells).length = l.length * 3 := actCells_len l
 have hgD : w.drew.heap[g]? = some (.cells cs 33 (0, 0)) := hg
 obtain ⟨Ad, hAd, hAd2⟩ : ∃ Ad : Addr, (if cap = i + 1 then (some ⟨g, 0, none⟩ : Option Addr) else some ⟨g, (i + 1) * 3, none⟩) = some Ad ∧ (0 < m → Ad = ⟨g, (i + 1) * 3, none⟩) := by
  by_cases he : cap = i + 1
  ·
   rw [if_pos he]
   exact ⟨_, rfl, fun hm => by omega⟩
  ·
   rw [if_neg he]
   exact ⟨_, rfl, fun _ => rfl⟩
 obtain ⟨news, hnw⟩ : ∃ x, (l.drop (i + 1)).flatMap ActP.cells = x := ⟨_, rfl⟩
 have hnl0 : news.length = m * 3 := by rw [← hnw, actCells_len, List.length_drop]; omega
 have hnl : news.length = m * i0.size := by rw [hz1, hnl0]
 have hnews : ∀ j u, news[j]? = some u → w.drew.cell? (Ad.add j) = some u := fun j u hj => by
  have hj3 := (List.getElem?_eq_some_iff.1 hj).1
  rw [hAd2 (by omega), addr_add2, mx_cell hgD]
  have e1 : (l.flatMap ActP.cells).drop ((i + 1) * 3) = news := by
   rw [← hnw]
   conv => lhs; rw [← List.take_append_drop (i + 1) l, List.flatMap_append]
   rw [List.drop_append_of_le_length (by rw [actCells_len, List.length_take]; omega), List.drop_eq_nil_of_le (by rw [actCells_len, List.length_take]; omega), List.nil_append]
  rw [← e1, List.getElem?_drop, ← hcx, List.getElem?_take_of_lt (by omega), Array.getElem?_toList] at hj
  exact hj
 have h1 : ∀ u ∈ news, u.oneCell' = true := fun u hu => act_one (l.drop (i + 1)) u (by rw [hnw]; exact hu)
 have hrun := fun ty => run_append_room (P := Tryz.prog) w.drew 23 ty 33 i0 Tryz.underlying23 hi0 g i cap cs hgD Ad m (cap - (i + 1)) news hnl hnews h1 (by omega) (by rw [hnl, hz1, hcs]; omega)
 rw [hz1] at hrun
 obtain ⟨c2, hc2⟩ : ∃ x, (cs.toList.take (i * 3) ++ news ++ cs.toList.drop (i * 3 + news.length)).toArray = x := ⟨_, rfl⟩
 rw [hc2] at hrun
 obtain ⟨W2, hW2⟩ : ∃ x, w.drew.setRow g c2 = x := ⟨_, rfl⟩
 rw [hW2] at hrun
 have hb2 : W2.heap[g]? = some (.cells c2 33 (0, 0)) := by
  rw [← hW2]
  exact setRow_heap w.drew g cs _ _ _ hgD
 have hk2 : Kept (fun k => k = g) w W2 := by
  rw [← hW2]
  exact ⟨rfl, rfl, rfl, by simp, fun k _ hk => setRow_other w.drew g k _ hk⟩
 have hs2 : c2.size = cap * 3 := by
  rw [← hc2]
  simp only [List.size_toArray, List.length_append, List.length_take, List.length_drop, Array.length_toList, hcs, hnl0]
  omega
 have ht2 : c2.toList.take ((i + m) * 3) = (l.eraseIdx i).flatMap ActP.cells := by
  rw [← hc2, List.toList_toArray, List.eraseIdx_eq_take_drop_succ, List.flatMap_append, hnw]
  have e1 : cs.toList.take (i * 3) = (l.take i).flatMap ActP.cells := by
   have e2 : (l.flatMap ActP.cells).take (i * 3) = (l.take i).flatMap ActP.cells := by
    conv => lhs; rw [← List.take_append_drop i l, List.flatMap_append]
    rw [List.take_append_of_le_length (by rw [actCells_len, List.length_take]; omega), List.take_of_length_le (by rw [actCells_len, List.length_take]; omega)]
   rw [← e2, ← hcx, List.take_take, Nat.min_eq_left (by omega)]
  rw [e1]
  have e3 : ((l.take i).flatMap ActP.cells ++ news).length = (i + m) * 3 := by
   rw [List.length_append, actCells_len, List.length_take, hnl0]
   omega
  rw [List.take_append_of_le_length (Nat.le_of_eq e3.symm), List.take_of_length_le (Nat.le_of_eq e3)]
 have hcl := fun ty c => run_clear3 W2 ty g ((i + m) * 3) c (fun j hj => by rw [mx_cell hb2, Array.getElem?_eq_getElem (by omega)]; rfl) (fun j _ => mx_free hb2)
 obtain ⟨W3, hW3⟩ : ∃ x, W2.setCells g ((i + m) * 3) [.bool false, .int .i64 0, .int .i64 0] = x := ⟨_, rfl⟩
 rw [hW3] at hcl
 have hb3 : W3.heap[g]? = some (.cells (((c2.setIfInBounds ((i + m) * 3) (.bool false)).setIfInBounds ((i + m) * 3 + 1) (.int .i64 0)).setIfInBounds ((i + m) * 3 + 2) (.int .i64 0)) 33 (0, 0)) := by
  rw [← hW3]
  exact mx_set (j := (i + m) * 3 + 2) (mx_set (j := (i + m) * 3 + 1) (mx_set (j := (i + m) * 3) hb2 _) _) _
 have hk3 : Kept (fun k => k = g) w W3 := by
  rw [← hW3]
  exact ((hk2.setCell ⟨g, (i + m) * 3, none⟩ _ rfl).setCell ⟨g, (i + m) * 3 + 1, none⟩ _ rfl).setCell ⟨g, (i + m) * 3 + 2, none⟩ _ rfl
 have hA := acts_of_block (n := i + m) (c := cap) (l := l.eraseIdx i) hb3 (by rw [List.length_eraseIdx_of_lt (by omega)]; omega) (by
  rw [← ht2]
  simp only [Array.toList_setIfInBounds]
  rw [List.take_set_of_le (by omega), List.take_set_of_le (by omega), List.take_set_of_le (by omega)])
 have HRUN := Lib.hid hrun
 have HCL := Lib.hid hcl
 have HA := Lib.hid hA
 have HK3 := Lib.hid hk3
 clear hg hcs hgD hnl hnews h1 hrun hW2 hb2 hk2 hs2 ht2 hcl hW3 hb3 hk3 hA hi0 hz0 hz1 hz2 h hcx hfl hnw hnl0 hc2 hAd2
 have HAD := Lib.hid hAd
 clear hAd
 obtain ⟨L, hL⟩ : ∃ x, l.length = x := ⟨_, rfl⟩
 rw [hL] at hle hl hb ⊢
 clear hL
 unfold maxLen at hm
 have hic : i ≤ cap := by omega
 have hi1 : i + 1 ≤ L := by omega
 have hm2 : L - (i + 1) = m := by omega
 have cn1 : (0 : Int) ≤ (i : Int) + 1 := by omega
 have cn2 : (i : Int) ≤ (i : Int) + (m : Int) := by omega
 have hAd := HAD.out
 go_enter Tryz.func10, Tryz.ntmps10
 go_upto_region 5 with fail
 refine wp_region_held_drew (S := fun _ => True) (by kernel_rfl) trivial (fun hS => ?_)
 refine takeD 0 20 (v := ?_) rfl (by rfl) (by kernel_rfl) (by kernel_rfl) (by kernel_rfl) (fun _ _ _ h => h) (Or.inl ⟨by rfl, ?_⟩) (by assumption) ?_
 rotate_left
 ·
  intro wq hSw
  clear hSw
  go_simp
  try with_reducible rfl
 simp only [Act.put, List.setIfInBounds_toArray, List.set_cons_zero, List.set_cons_succ]
 refine takeD 1 21 (v := ?_) rfl (by rfl) (by kernel_rfl) (by kernel_rfl) (by kernel_rfl) (fun _ _ _ h => h) (Or.inl ⟨by rfl, ?_⟩) (by assumption) ?_
 rotate_left
 ·
  intro wq hSw
  clear hSw
  go_simp
  try with_reducible rfl
 simp only [Act.put, List.setIfInBounds_toArray, List.set_cons_zero, List.set_cons_succ]
 refine takeD 2 22 (v := ?_) rfl (by rfl) (by kernel_rfl) (by kernel_rfl) (by kernel_rfl) (fun _ _ _ h => h) (Or.inl ⟨by rfl, ?_⟩) (by assumption) ?_
 rotate_left
 ·
  intro wq hSw
  clear hSw
  go_simp
  try with_reducible rfl
 simp only [Act.put, List.setIfInBounds_toArray, List.set_cons_zero, List.set_cons_succ]
 refine takeD 3 23 (v := ?_) rfl (by rfl) (by kernel_rfl) (by kernel_rfl) (by kernel_rfl) (fun _ _ _ h => h) (Or.inl ⟨by rfl, ?_⟩) (by assumption) ?_
 rotate_left
 ·
  intro wq hSw
  clear hSw
  go_simp
  try with_reducible rfl
 simp only [Act.put, List.setIfInBounds_toArray, List.set_cons_zero, List.set_cons_succ]
 refine takeD 4 24 (v := ?_) rfl (by rfl) (by kernel_rfl) (by kernel_rfl) (by kernel_rfl) (fun _ _ _ h => h) (Or.inl ⟨by rfl, ?_⟩) (by assumption) ?_
 rotate_left
 ·
  intro wq hSw
  clear hSw
  go_simp
  try with_reducible rfl
 simp only [Act.put, List.setIfInBounds_toArray, List.set_cons_zero, List.set_cons_succ]
 refine takeD 5 25 (v := ?_) rfl (by rfl) (by kernel_rfl) (by kernel_rfl) (by kernel_rfl) (fun _ _ _ h => h) (Or.inl ⟨by rfl, ?_⟩) (by assumption) ?_
 rotate_left
 ·
  intro wq hSw
  clear hSw
  go_simp
  try with_reducible rfl
 simp only [Act.put, List.setIfInBounds_toArray, List.set_cons_zero, List.set_cons_succ]
 refine wpAnyH_ready (rs := [6]) (by kernel_rfl) (by simp) ?_
 refine AllReadyH.cons rfl (fun K hK => ?_) AllReadyH.nil
 rw [if_pos (by rfl)]
 refine wp_append_run 26 (by rfl) _ _ 23 rfl _ _ (by rfl) (by rfl) (by first | exact HRUN.out _ | (simp only [HAD.out]; exact HRUN.out _)) ?_
 refine hK.out _ _ trivial (fun _ => ?_)
 clear hK
 simp only [Act.put, List.setIfInBounds_toArray, List.set_cons_zero, List.set_cons_succ]
 refine takeD 7 0 (v := ?_) rfl (by rfl) (by kernel_rfl) (by kernel_rfl) (by kernel_rfl) (fun _ _ _ h => h) (Or.inl ⟨by rfl, ?_⟩) (by assumption) ?_
 rotate_left
 ·
  intro wq hSw
  clear hSw
  go_simp
  try with_reducible rfl
 simp only [Act.put, List.setIfInBounds_toArray, List.set_cons_zero]
 refine wpAnyH_done (by kernel_rfl) ?_ _
 have hcl := HCL.out
 go_wp2_with fail
 go_ret
 exact ⟨rfl, HA.out, HK3.out⟩
end Go.Proofs.YtfbiaclpopjipaaGreat
namespace Go.Proofs.YtfbiaclpopjipaaGreat
open Go.RowKit

theorem nil_start (w : World) : ∃ W0, ((w.alloc (.cells #[.slice none 0 0, .int .i64 0, .int .i64 0, .slice none 0 0, .slice none 0 0] 42)).alloc (.cells #[.int .i64 1] 43)) = W0 ∧ Below w.heap.size w W0 ∧ W0.heap[w.heap.size]? = some (.cells #[.slice none 0 0, .int .i64 0, .int .i64 0, .slice none 0 0, .slice none 0 0] 42 (0, 0)) ∧ W0.heap[w.heap.size + 1]? = some (.cells #[.int .i64 1] 43 (0, 0)) := by
 refine ⟨_, rfl, (mx_al _ _).alloc (by simp) _, ?_, ?_⟩
 ·
  rw [Below.heap_alloc _ _ _ (by simp)]
  exact World.alloc_heap_new _ _
 ·
  have := World.alloc_heap_new (w.alloc (.cells #[.slice none 0 0, .int .i64 0, .int .i64 0, .slice none 0 0, .slice none 0 0] 42)) (.cells #[.int .i64 1] 43)
  rwa [World.size_alloc] at this
set_option maxRecDepth 100000 in
set_option maxHeartbeats 4000000 in
theorem conf_nil (pa pb : Option Addr) (id : Int) (w : World) (hp : (pa = none) ∨ (∃ ad, pa = some ad ∧ pb = none)) :
  Calls Tryz.prog 12 #[.pointer pa, .pointer pb, .int .i64 id] w fun e w' => e = .returned (.tuple #[.agg #[.slice none 0 0, .int .i64 0, .int .i64 0, .slice none 0 0, .slice none 0 0], .int .i64 1]) ∧ Below w.heap.size w w' := by
 obtain ⟨W0, hW0, hb0, hs6, hs7⟩ := nil_start w
 have HW0 := Lib.hid hW0
 have HB0 := Lib.hid hb0
 have H6 := Lib.hid hs6
 have H7 := Lib.hid hs7
 clear hW0 hb0 hs6 hs7
 rcases hp with rfl | ⟨ad, rfl, rfl⟩
 all_goals
  refine (callsIn_wide (n := 9)).1 ?_
  refine callsIn_of_wp_marks Tryz.func12 rfl trivial ?_ rfl
  simp only [Tryz.ntmps12, List.size_toArray, List.length_cons, List.length_nil, Nat.reduceAdd, Nat.reduceSub, Array.replicate_succ, Array.replicate_zero, List.push_toArray, List.append_toArray, List.nil_append, List.cons_append]
  gi_wp2
  refine wpIn_wide.2 (wp_scope_straight ((wpIn_wide (n := 9)).1 ?_))
  gi_wp2_with fail
  rw [Exit.noGoto_ret, HW0.out]
  exact ⟨_, res_learned rfl H6.out H7.out _ rfl rfl, rfl, HB0.out⟩
theorem right_nil (b : Nat) (v : Int) (w : World) :
  Calls Tryz.prog 13 #[.pointer none, .pointer (some ⟨b, 0, none⟩), .int .i64 v] w fun e w' => e = .returned (.tuple #[.bool false, .int .i64 1]) ∧ Below w.heap.size w w' := by
 go_enter Tryz.func13, Tryz.ntmps13
 go_wp2_with fail
 go_ret2
 exact ⟨rfl, Below.refl _ _⟩
theorem level_nil (a : Nat) (v : Int) (w : World) :
  Calls Tryz.prog 14 #[.pointer (some ⟨a, 0, none⟩), .pointer none, .int .i64 v] w fun e w' => e = .returned (.tuple #[.int .i64 0, .int .i64 1]) ∧ Below w.heap.size w w' := by
 go_enter Tryz.func14, Tryz.ntmps14
 go_wp2_with fail
 go_ret2
 exact ⟨rfl, Below.refl _ _⟩
theorem levels_nil (u : Value) (w : World) :
  Calls Tryz.prog 15 #[.pointer none, u] w fun e w' => e = .returned (.tuple #[.int .i64 0, .int .i64 1]) ∧ Below w.heap.size w w' := by
 go_enter Tryz.func15, Tryz.ntmps15
 go_wp2_with fail
 go_ret2
 exact ⟨rfl, Below.refl _ _⟩
end Go.Proofs.YtfbiaclpopjipaaGreat
namespace Go.Proofs.YtfbiaclpopjipaaGreat
open Go.RowKit

theorem own_puts {w : World} {base size n c g : Nat} {e : TypeId} {xs : List Value} (j : Nat) (h : w.ownsRow base e size (.slice (some ⟨g, 0, none⟩) n c) n xs) (v : Value) :
  (w.setCell ⟨g, j, none⟩ v).ownsRow base e size (.slice (some ⟨g, 0, none⟩) n c) n (xs.set j v) := by
 obtain ⟨h0, h1⟩ := h
 rcases h1 with ⟨h1, _⟩ | ⟨g', cap, cur, hv, hb, hg, hle, hm, hs, hx⟩
 ·
  cases h1
 ·
  cases hv
  refine ⟨by rw [List.length_set, h0], .inr ⟨g, c, _, rfl, hb, mx_set hg _, hle, hm, by simpa using hs, ?_⟩⟩
  rw [Array.toList_setIfInBounds, List.take_set, hx]
theorem kept_below {O : Nat → Prop} {n : Nat} {w w' : World} (h : Kept O w w') (hO : ∀ g, O g → n ≤ g) (hn : n ≤ w.heap.size) : Below n w w' :=
 ⟨h.os, h.tape, h.output, h.size, fun k hk => h.block k (by omega) (fun ho => by have := hO k ho; omega)⟩
theorem own_free {w : World} {base size n c g : Nat} {e : TypeId} {xs : List Value} (h : w.ownsRow base e size (.slice (some ⟨g, 0, none⟩) n c) n xs) (j : Nat) : w.frozen? ⟨g, j, none⟩ = false := by
 rcases h.2 with ⟨h1, _⟩ | ⟨g', cap, cur, hv, _, hg, _⟩
 ·
  cases h1
 ·
  cases hv
  exact mx_free hg
theorem act_set (l : List ActP) (p : Nat) (x : ActP) (z : Int) (hx : l[p]? = some x) : (l.flatMap ActP.cells).set (p * 3 + 2) (.int .i64 z) = (l.set p ⟨x.push, x.l, z⟩).flatMap ActP.cells := by
 induction l generalizing p with
 | nil => cases hx
 | cons y l ih =>
  cases p with
  | zero =>
   obtain rfl := Option.some.inj hx
   rfl
  | succ p =>
   rw [List.set_cons_succ, List.flatMap_cons, List.flatMap_cons, ← ih p (by simpa using hx), List.set_append_right _ _ (by simp only [ActP.cells, List.length_cons, List.length_nil]; omega)]
   simp only [ActP.cells, List.length_cons, List.length_nil]
   congr 2
   omega
/-- an own row of calls -/
def ActsOwn (base : Nat) (w : World) (v : Value) (l : List ActP) : Prop := w.ownsRow base 33 3 v l.length (l.flatMap ActP.cells)
theorem own_acts_new (W : World) (l : List ActP) (n : Nat) (hl : l.length = n) (hn : n ≤ 1000) : (W.alloc (.cells (l.flatMap ActP.cells).toArray 33)).ownsRow W.heap.size 33 3 (.slice (some ⟨W.heap.size, 0, none⟩) n n) n (l.flatMap ActP.cells) := by
 subst hl
 refine ⟨actCells_len l, .inr ⟨_, _, _, rfl, Nat.le_refl _, World.alloc_heap_new _ _, Nat.le_refl _, by unfold maxLen; omega, ?_, ?_⟩⟩
 ·
  rw [List.size_toArray, actCells_len]
 ·
  rw [List.toList_toArray, List.take_of_length_le (Nat.le_of_eq (actCells_len l))]
def lowA : List ActP := [⟨false, 1, 0⟩, ⟨false, 2, 1⟩, ⟨false, 3, 2⟩, ⟨true, 0, 0⟩, ⟨false, 4, 3⟩, ⟨false, -5, 4⟩]
theorem ne_of_hat {v v' : Value} {b n : Nat} (hat : v'.ownBlock = v.ownBlock ∨ v'.ownBlock = some n) (h1 : ∀ g, v.ownBlock = some g → g ≠ b) (h2 : n ≠ b) : ∀ g, v'.ownBlock = some g → g ≠ b := fun g hg e => by
 rcases hat with h | h
 ·
  rw [h] at hg
  exact h1 g hg e
 ·
  rw [h] at hg
  exact h2 ((Option.some.inj hg).trans e)
/-- a row of five and one clauses -/
theorem cls6 (W : World) (u : Value) (c : List Int) (hu : IntsIn (fun g => g < W.heap.size) W u c) : ∃ W6, ((((((W.alloc (.cells #[.int .i64 2, .int .i64 (-1)] 35)).alloc (.cells #[.int .i64 3, .int .i64 (-2), .int .i64 (-2), .int .i64 (-1)] 35)).alloc (.cells #[.int .i64 4, .int .i64 (-3)] 35)).alloc (.cells #[.int .i64 (-5), .int .i64 (-4), .int .i64 (-1)] 35)).alloc (.cells #[.int .i64 1] 35)).alloc (.cells #[.slice (some ⟨W.heap.size, 0, none⟩) 2 2, .slice (some ⟨W.heap.size + 1, 0, none⟩) 4 4, .slice (some ⟨W.heap.size + 1 + 1, 0, none⟩) 2 2, .slice (some ⟨W.heap.size + 1 + 1 + 1, 0, none⟩) 3 3, u, .slice (some ⟨W.heap.size + 1 + 1 + 1 + 1, 0, none⟩) 1 1] 25)) = W6 ∧ Below W.heap.size W W6 ∧ W6.heap.size = W.heap.size + 6 ∧ ClsAt W6 (.slice (some ⟨W.heap.size + 1 + 1 + 1 + 1 + 1, 0, none⟩) 6 6) [[2, -1], [3, -2, -2, -1], [4, -3], [-5, -4, -1], c, [1]] := by
 obtain ⟨W1, h1⟩ : ∃ x, W.alloc (.cells #[.int .i64 2, .int .i64 (-1)] 35) = x := ⟨_, rfl⟩
 obtain ⟨W2, h2⟩ : ∃ x, W1.alloc (.cells #[.int .i64 3, .int .i64 (-2), .int .i64 (-2), .int .i64 (-1)] 35) = x := ⟨_, rfl⟩
 obtain ⟨W3, h3⟩ : ∃ x, W2.alloc (.cells #[.int .i64 4, .int .i64 (-3)] 35) = x := ⟨_, rfl⟩
 obtain ⟨W4, h4⟩ : ∃ x, W3.alloc (.cells #[.int .i64 (-5), .int .i64 (-4), .int .i64 (-1)] 35) = x := ⟨_, rfl⟩
 obtain ⟨W5, h5⟩ : ∃ x, W4.alloc (.cells #[.int .i64 1] 35) = x := ⟨_, rfl⟩
 rw [h1, h2, h3, h4, h5]
 obtain ⟨W6, h6⟩ : ∃ x, W5.alloc (.cells #[.slice (some ⟨W.heap.size, 0, none⟩) 2 2, .slice (some ⟨W.heap.size + 1, 0, none⟩) 4 4, .slice (some ⟨W.heap.size + 1 + 1, 0, none⟩) 2 2, .slice (some ⟨W.heap.size + 1 + 1 + 1, 0, none⟩) 3 3, u, .slice (some ⟨W.heap.size + 1 + 1 + 1 + 1, 0, none⟩) 1 1] 25) = x := ⟨_, rfl⟩
 have z1 : W1.heap.size = W.heap.size + 1 := by rw [← h1]; simp
 have z2 : W2.heap.size = W1.heap.size + 1 := by rw [← h2]; simp
 have z3 : W3.heap.size = W2.heap.size + 1 := by rw [← h3]; simp
 have z4 : W4.heap.size = W3.heap.size + 1 := by rw [← h4]; simp
 have z5 : W5.heap.size = W4.heap.size + 1 := by rw [← h5]; simp
 have z6 : W6.heap.size = W5.heap.size + 1 := by rw [← h6]; simp
 have b1 : Below W.heap.size W W1 := by rw [← h1]; exact mx_al _ _
 have b2 : Below W1.heap.size W1 W2 := by rw [← h2]; exact mx_al _ _
 have b3 : Below W2.heap.size W2 W3 := by rw [← h3]; exact mx_al _ _
 have b4 : Below W3.heap.size W3 W4 := by rw [← h4]; exact mx_al _ _
 have b5 : Below W4.heap.size W4 W5 := by rw [← h5]; exact mx_al _ _
 have b6 : Below W5.heap.size W5 W6 := by rw [← h6]; exact mx_al _ _
 have b46 := b5.trans (b6.mono b5.size)
 have b36 := b4.trans (b46.mono b4.size)
 have b26 := b3.trans (b36.mono b3.size)
 have b16 := b2.trans (b26.mono b2.size)
 have b06 := b1.trans (b16.mono b1.size)
 have n1 := mx_ints W [2, -1] 35
 have n2 := mx_ints W1 [3, -2, -2, -1] 35
 have n3 := mx_ints W2 [4, -3] 35
 have n4 := mx_ints W3 [-5, -4, -1] 35
 have n5 := mx_ints W4 [1] 35
 have e1 : IntsIn (fun g => g < W6.heap.size) W6 (.slice (some ⟨W.heap.size, 0, none⟩) 2 2) [2, -1] := by
  have k : Below W1.heap.size W1 W6 := b16
  rw [← h1] at k
  exact (n1.below k).mono (fun g hg => by rw [hg]; omega)
 have e2 : IntsIn (fun g => g < W6.heap.size) W6 (.slice (some ⟨W.heap.size + 1, 0, none⟩) 4 4) [3, -2, -2, -1] := by
  have k : Below W2.heap.size W2 W6 := b26
  rw [← h2] at k
  rw [← z1]
  exact (n2.below k).mono (fun g hg => by rw [hg]; omega)
 have e3 : IntsIn (fun g => g < W6.heap.size) W6 (.slice (some ⟨W.heap.size + 1 + 1, 0, none⟩) 2 2) [4, -3] := by
  have k : Below W3.heap.size W3 W6 := b36
  rw [← h3] at k
  rw [← z1, ← z2]
  exact (n3.below k).mono (fun g hg => by rw [hg]; omega)
 have e4 : IntsIn (fun g => g < W6.heap.size) W6 (.slice (some ⟨W.heap.size + 1 + 1 + 1, 0, none⟩) 3 3) [-5, -4, -1] := by
  have k : Below W4.heap.size W4 W6 := b46
  rw [← h4] at k
  rw [← z1, ← z2, ← z3]
  exact (n4.below k).mono (fun g hg => by rw [hg]; omega)
 have e5 : IntsIn (fun g => g < W6.heap.size) W6 (.slice (some ⟨W.heap.size + 1 + 1 + 1 + 1, 0, none⟩) 1 1) [1] := by
  have k : Below W5.heap.size W5 W6 := b6
  rw [← h5] at k
  rw [← z1, ← z2, ← z3, ← z4]
  exact (n5.below k).mono (fun g hg => by rw [hg]; omega)
 have ec := (hu.below b06).mono (O' := fun g => g < W6.heap.size) (fun g hg => by omega)
 have hblk := World.alloc_heap_new W5 (.cells #[.slice (some ⟨W.heap.size, 0, none⟩) 2 2, .slice (some ⟨W.heap.size + 1, 0, none⟩) 4 4, .slice (some ⟨W.heap.size + 1 + 1, 0, none⟩) 2 2, .slice (some ⟨W.heap.size + 1 + 1 + 1, 0, none⟩) 3 3, u, .slice (some ⟨W.heap.size + 1 + 1 + 1 + 1, 0, none⟩) 1 1] 25)
 rw [h6, show W5.heap.size = W.heap.size + 1 + 1 + 1 + 1 + 1 by omega] at hblk
 refine ⟨W6, h6, b06, by omega, _, 6, rfl, fun i xs hi => ?_⟩
 refine ⟨W.heap.size + 1 + 1 + 1 + 1 + 1, 0, ?_⟩
 rw [Nat.zero_add]
 match i, hi with
 | 0, hi => exact ⟨_, rfl, by omega, mx_cell (j := 0) hblk, by cases hi; exact e1⟩
 | 1, hi => exact ⟨_, rfl, by omega, mx_cell (j := 1) hblk, by cases hi; exact e2⟩
 | 2, hi => exact ⟨_, rfl, by omega, mx_cell (j := 2) hblk, by cases hi; exact e3⟩
 | 3, hi => exact ⟨_, rfl, by omega, mx_cell (j := 3) hblk, by cases hi; exact e4⟩
 | 4, hi => exact ⟨_, rfl, by omega, mx_cell (j := 4) hblk, by cases hi; exact ec⟩
 | 5, hi => exact ⟨_, rfl, by omega, mx_cell (j := 5) hblk, by cases hi; exact e5⟩
 | n + 6, hi => simp at hi
/-- the comparison says yes, of five variables -/
def TellsYes : Prop := ∀ (cs : List (List Int)) (acs : List ActP) (c : List Int) (cv av u : Value) (id v : Int) (w : World), ClsAt w cv cs → ActsIn w av acs → IntsIn (fun _ => True) w u c → cs.length ≤ 900 → (∀ c ∈ cs, c.length ≤ 900) → acs.length ≤ 90 → c.length ≤ 900 →
 Calls Tryz.prog 7 #[.int .i64 5, cv, av, .int .i64 id, .int .i64 v, u] w fun e w' => e = .returned (.bool true) ∧ Below w.heap.size w w'
set_option maxRecDepth 100000 in
set_option maxHeartbeats 16000000 in
theorem analyzeSmall_core (hte : TellsYes) (w : World) : Calls Tryz.prog 4 #[] w fun e w' => e = .returned (.bool true) ∧ Below w.heap.size w w' := by
 have HEX := Lib.hid (example_any w)
 have HTE := Lib.hid (show ∀ (cs : List (List Int)) (acs : List ActP) (c : List Int) (cv av u : Value) (id v : Int) (w : World), ClsAt w cv cs → ActsIn w av acs → IntsIn (fun _ => True) w u c → cs.length ≤ 900 → (∀ c ∈ cs, c.length ≤ 900) → acs.length ≤ 90 → c.length ≤ 900 → Calls Tryz.prog 7 #[.int .i64 5, cv, av, .int .i64 id, .int .i64 v, u] w fun e w' => e = .returned (.bool true) ∧ Below w.heap.size w w' from hte)
 clear hte
 have HAW := Lib.hid (fun w => awake_any w)
 go_enter Tryz.func4, Tryz.ntmps4
 go_wp2_with fail
 refine HEX.out.mono ?_
 rintro e w1 ⟨cv, g, W6, rfl, hc, hz6, hb6, hg, hwg, hb1⟩
 have HB1 := Lib.hid hb1
 have HCL := Lib.hid ((hc).below (by rw [hz6]; exact hb6))
 have hg1 := heap_lt hg
 have HAC := Lib.hid (show w1.ownsRow 0 33 3 (.slice (some ⟨g, 0, none⟩) 7 7) 7 (exA.flatMap ActP.cells) from ⟨by rw [actCells_len]; rfl, .inr ⟨g, 7, _, rfl, Nat.zero_le _, hg, Nat.le_refl _, by unfold maxLen; omega, by rw [List.size_toArray, actCells_len]; rfl, by rw [List.toList_toArray]; exact List.take_of_length_le (by rw [actCells_len]; exact Nat.le_refl _)⟩⟩)
 have HAI := Lib.hid (show ActsIn w1 (.slice (some ⟨g, 0, none⟩) 7 7) exA from acts_own HAC.out)
 have HEL := Lib.hid (show ∀ c ∈ exL, c.length ≤ 900 from by decide)
 obtain ⟨Ac, cc, rfl, _⟩ := hc
 rw [show exL.length = 5 from rfl] at HCL
 clear hz6 hb6 hg hwg hb1 HEX
 rw [show exL.length = 5 from rfl]
 go_wp2_with fail
 go_loopw [38] (fun iv wr => ∃ (k : Nat), k ≤ 7 ∧ iv = .int .i64 k ∧ Hid (Below w1.heap.size w1 wr)) (fun iv _ => 7 - (intOf iv).toNat)
 case atStart => exact ⟨0, Nat.zero_le _, rfl, Lib.hid (Below.refl _ _)⟩
 case round =>
  obtain ⟨k, hk, rfl, HW⟩ := hrel
  by_cases hlt : k < 7
  ·
   obtain ⟨wo, rfl⟩ : ∃ wo : World, wo = wr := ⟨_, rfl⟩
   have hdk : decide ((k : Int) < 7) = true := by simp; omega
   have w1' : IntKind.i64.wrap ((k : Int) + 1) = (k : Int) + 1 := IntWalk.i64_in _ (by omega)
   have hrem : (k : Int).tmod 5 = ((k % 5 : Nat) : Int) := by
    rw [Int.tmod_eq_emod_of_nonneg (by omega)]
    omega
   have hk5 : k % 5 < 5 := Nat.mod_lt _ (by decide)
   have hk5' : ((k % 5 : Nat) : Int) < 5 := by omega
   obtain ⟨k5, hk5e⟩ : ∃ q, k % 5 = q := ⟨_, rfl⟩
   rw [hk5e] at hrem hk5 hk5'
   obtain ⟨xa, hxa⟩ : ∃ q, exA[k]? = some q := ⟨exA[k]'hlt, List.getElem?_eq_getElem hlt⟩
   obtain ⟨ck, hck⟩ : ∃ q, exL[k5]? = some q := ⟨exL[k5]'hk5, List.getElem?_eq_getElem hk5⟩
   have HXA := Lib.hid hxa
   have HCK := Lib.hid hck
   have HREM := Lib.hid hrem
   clear hk5e hxa hck hrem
   go_wp2_with fail
   go_loopw [4] (fun bv wr => ∃ (z : Int), -1 ≤ z ∧ z ≤ 7 ∧ bv = .int .i64 z ∧ Hid (Below w1.heap.size w1 wr)) (fun bv _ => (7 - intOf bv).toNat)
   case atStart => exact ⟨-1, by decide, by decide, rfl, HW⟩
   case round =>
    obtain ⟨z, hz1, hz2, rfl, HW2⟩ := hrel
    by_cases hlz : z < 7
    ·
     have w2' : IntKind.i64.wrap (z + 1) = z + 1 := IntWalk.i64_in _ (by omega)
     have hdz : decide (z < 7) = true := by simpa using hlz
     have hcl := clone_acts g 7 exA wr (own_below HAC.out HW2.out) (by decide)
     rw [show exA.length = 7 from rfl] at hcl
     have HCN := Lib.hid hcl
     clear hcl
     go_wp2_with fail
     refine HCN.out.mono ?_
     rintro e x1 ⟨v', rfl, hown, hb⟩
     obtain ⟨go, co, cso, rfl, hco, hbo, hgo, hblk, _⟩ := mx_some hown (by decide)
     have HOW := Lib.hid hown
     have HBX := Lib.hid hb
     have hlen : k * 3 + 2 < (exA.flatMap ActP.cells).length := by rw [actCells_len, show exA.length = 7 from rfl]; omega
     obtain ⟨uo, huo⟩ : ∃ q, (exA.flatMap ActP.cells)[k * 3 + 2]? = some q := getElem_of hlen
     have p0 : x1.cell? ⟨go, k * 3 + 2, none⟩ = some uo := mx_at hown huo
     have fr := mx_free (j := k * 3 + 2) hblk
     obtain ⟨x2, hx2⟩ : ∃ q, x1.setCell ⟨go, k * 3 + 2, none⟩ (.int .i64 z) = q := ⟨_, rfl⟩
     have HX2 := Lib.hid hx2
     have HO2 := Lib.hid (show ActsIn x2 (.slice (some ⟨go, 0, none⟩) 7 co) (exA.set k ⟨xa.push, xa.l, z⟩) from by
      have h := own_puts (k * 3 + 2) HOW.out (.int .i64 z)
      rw [hx2, act_set exA k xa z HXA.out] at h
      exact acts_own (l := exA.set k ⟨xa.push, xa.l, z⟩) (by rw [List.length_set]; exact h))
     have HB2 := Lib.hid (show Below wr.heap.size wr x2 from by rw [← hx2]; exact HBX.out.setCell (p := ⟨go, k * 3 + 2, none⟩) hbo _)
     have HBW := Lib.hid (HW2.out.trans (HB2.out.mono HW2.out.size))
     have hkco : k < co := by omega
     clear hown hb hblk huo hx2 HCN hlen
     go_upto_region 10 with fail
     rw [HX2.out]
     clear p0 fr
     go_wp2_with fail
     go_loopw [52] (fun iv wr => ∃ (q : Nat), q ≤ 7 ∧ iv = .int .i64 q ∧ Hid (Below x2.heap.size x2 wr)) (fun iv _ => 7 - (intOf iv).toNat)
     case atStart => exact ⟨0, Nat.zero_le _, rfl, Lib.hid (Below.refl _ _)⟩
     case round =>
      obtain ⟨q, hq, rfl, HW3⟩ := hrel
      by_cases hlq : q < 7
      ·
       have HW13 := Lib.hid (HBW.out.trans (HW3.out.mono HBW.out.size))
       obtain ⟨A', c', hAc, hxs⟩ := HCL.out.below HW13.out
       simp only [Value.slice.injEq] at hAc
       obtain ⟨rfl, -, rfl⟩ := hAc
       obtain ⟨gl, ol, u, rfl, hgl, d0, hu⟩ := hxs k5 ck HCK.out
       have hrem := HREM.out
       have HT1 := Lib.hid (HTE.out exL (exA.set k ⟨xa.push, xa.l, z⟩) ck _ _ u (q : Int) z wr (HCL.out.below HW13.out) (HO2.out.below HW3.out) (hu.mono (fun _ _ => trivial)) (by decide) HEL.out (by rw [List.length_set]; decide) (HEL.out ck (List.mem_of_getElem? HCK.out)))
       clear hxs hu
       by_cases hz3 : z < 3
       ·
        have q3 : decide (z < 3) = true := by simpa using hz3
        go_wp2_with fail
        refine HT1.out.mono ?_
        rintro e y1 ⟨rfl, hb⟩
        have HY1 := Lib.hid (HW13.out.trans (hb.mono HW13.out.size))
        have HYB := Lib.hid (HW3.out.trans (hb.mono HW3.out.size))
        clear hb d0 HT1 hrem
        have hcl := clone_acts g 7 exA y1 (own_below HAC.out HY1.out) (by decide)
        rw [show exA.length = 7 from rfl] at hcl
        have HCN := Lib.hid hcl
        clear hcl
        go_wp2_with fail
        refine HCN.out.mono ?_
        rintro e y2 ⟨v', rfl, hown, hb⟩
        obtain ⟨gd, cd, csd, rfl, hcd, hbd, hgd, _, _⟩ := mx_some hown (by decide)
        have HYC := Lib.hid hb
        obtain ⟨m, hm⟩ : ∃ m, 7 = k + m + 1 := ⟨6 - k, by omega⟩
        have hdl := del_any gd cd k m y1.heap.size exA y2 hown hm (by decide)
        rw [show exA.length = 7 from rfl] at hdl
        have HDL := Lib.hid hdl
        clear hown hb hdl HCN hm
        go_wp2_with fail
        refine HDL.out.mono ?_
        rintro e y3 ⟨rfl, hai, hk3⟩
        have HB23 := Lib.hid (show Below y1.heap.size y1 y3 from HYC.out.trans (kept_below hk3 (fun g hg => by rw [hg]; exact hbd) HYC.out.size))
        have HT2 := Lib.hid (HTE.out exL (exA.eraseIdx k) [] _ _ (.slice none 0 0) (q : Int) (q : Int) y3 (HCL.out.below (HY1.out.trans (HB23.out.mono HY1.out.size))) hai (IntsIn.nil _ _) (by decide) HEL.out (by rw [List.length_eraseIdx_of_lt hlt]; decide) (Nat.zero_le _))
        clear hai hk3 HDL
        go_wp2_with fail
        refine HT2.out.mono ?_
        rintro e y4 ⟨rfl, hb⟩
        have HB24 := Lib.hid (HB23.out.trans (hb.mono HB23.out.size))
        clear hb HT2
        go_wp2_with fail
        go_roundw
        case rel => exact ⟨q + 1, by omega, by go_num, Lib.hid (HYB.out.trans (HB24.out.mono HYB.out.size))⟩
        case measure => simp [intOf]; omega
       ·
        have q3 : decide (z < 3) = false := by simpa using hz3
        go_wp2_with fail
        refine HT1.out.mono ?_
        rintro e y1 ⟨rfl, hb⟩
        have HYB := Lib.hid (HW3.out.trans (hb.mono HW3.out.size))
        clear hb d0 HT1 hrem
        go_wp2_with fail
        go_roundw
        case rel => exact ⟨q + 1, by omega, by go_num, HYB⟩
        case measure => simp [intOf]; omega
      ·
       obtain rfl : q = 7 := by omega
       go_wp2_with fail
       go_roundw
       case rel => exact ⟨z + 1, by omega, by omega, by rfl, Lib.hid (HBW.out.trans (HW3.out.mono HBW.out.size))⟩
       case measure => simp [intOf]; omega
    ·
     obtain rfl : z = 7 := by omega
     go_wp2_with fail
     go_roundw
     case rel => exact ⟨k + 1, by omega, by go_num, HW2⟩
     case measure => simp [intOf]; omega
  ·
   have hdk : decide ((k : Int) < 7) = false := by simp; omega
   obtain ⟨k0, rfl⟩ : ∃ q, q = k := ⟨_, rfl⟩
   obtain ⟨wa, rfl⟩ : ∃ wo : World, wo = wr := ⟨_, rfl⟩
   clear hlt
   have hln := own_acts_new wa lowA 6 rfl (by decide)
   rw [show (lowA.flatMap ActP.cells).toArray = #[.bool false, .int .i64 1, .int .i64 0, .bool false, .int .i64 2, .int .i64 1, .bool false, .int .i64 3, .int .i64 2, .bool true, .int .i64 0, .int .i64 0, .bool false, .int .i64 4, .int .i64 3, .bool false, .int .i64 (-5), .int .i64 4] from rfl] at hln
   obtain ⟨wl, hwl⟩ : ∃ x, wa.alloc (.cells #[.bool false, .int .i64 1, .int .i64 0, .bool false, .int .i64 2, .int .i64 1, .bool false, .int .i64 3, .int .i64 2, .bool true, .int .i64 0, .int .i64 0, .bool false, .int .i64 4, .int .i64 3, .bool false, .int .i64 (-5), .int .i64 4] 33) = x := ⟨_, rfl⟩
   rw [hwl] at hln
   obtain ⟨lb, hlb⟩ : ∃ x, wa.heap.size = x := ⟨_, rfl⟩
   rw [hlb] at hln
   have HLOW := Lib.hid hln
   have HWL := Lib.hid hwl
   have HLB := Lib.hid (show Below w1.heap.size w1 wl from HW.out.trans (by rw [← hwl]; exact (mx_al _ _).mono HW.out.size))
   clear hln hwl
   go_upto_region 18 with fail
   rw [HWL.out]
   clear hlb
   go_wp2_with fail
   go_loopw [92] (fun iv wr => ∃ (k : Nat), k ≤ 64 ∧ iv = .int .i64 k ∧ Hid (Below wl.heap.size wl wr)) (fun iv _ => 64 - (intOf iv).toNat)
   case atStart => exact ⟨0, Nat.zero_le _, rfl, Lib.hid (Below.refl _ _)⟩
   case round =>
    obtain ⟨k, hk, rfl, HV⟩ := hrel
    by_cases hlt : k < 64
    ·
     obtain ⟨wo, rfl⟩ : ∃ wo : World, wo = wr := ⟨_, rfl⟩
     have hdk : decide ((k : Int) < 64) = true := by simp; omega
     have w1' : IntKind.i64.wrap ((k : Int) + 1) = (k : Int) + 1 := IntWalk.i64_in _ (by omega)
     obtain ⟨i0, hi0, hi1, hi2, hi3⟩ := info_parts ainfo_lit
     obtain ⟨wd, hwd⟩ : ∃ x, wo.alloc (.cells #[] 35) = x := ⟨_, rfl⟩
     have hod := own_none wo wo.heap.size 35 1 (Nat.le_refl _)
     rw [hwd] at hod
     obtain ⟨we, hwe⟩ : ∃ x, wd.alloc (.cells #[.int .i64 (-1), .int .i64 (-2), .int .i64 (-3), .int .i64 (-4), .int .i64 5, .int .i64 5] 35) = x := ⟨_, rfl⟩
     have hbd : Below wo.heap.size wo wd := by rw [← hwd]; exact mx_al _ _
     have hbe : Below wd.heap.size wd we := by rw [← hwe]; exact mx_al _ _
     have hzd : wd.heap.size = wo.heap.size + 1 := by rw [← hwd]; simp
     have HSIX := Lib.hid (show we.heap[wo.heap.size + 1]? = some (.cells #[.int .i64 (-1), .int .i64 (-2), .int .i64 (-3), .int .i64 (-4), .int .i64 5, .int .i64 5] 35 (0, 0)) from by rw [← hzd, ← hwe]; exact World.alloc_heap_new _ _)
     have HOD := Lib.hid (own_below hod hbe)
     have HWD := Lib.hid hwd
     have HWE := Lib.hid hwe
     have HBE := Lib.hid (hbd.trans (hbe.mono hbd.size))
     clear hwd hod hwe hbd hbe
     go_upto_region 23 with fail
     rw [HWD.out, HWE.out]
     clear hzd
     go_wp2_with fail
     go_loopw [9, 98] (fun cv iv wr => ∃ (j : Nat) (ys : List Int), j ≤ 6 ∧ iv = .int .i64 j ∧ ys.length ≤ j ∧ Hid (wr.ownsRow wo.heap.size 35 1 cv ys.length (ys.map (Value.int .i64))) ∧ Hid (∀ gg, cv.ownBlock = some gg → gg ≠ wo.heap.size + 1) ∧ Hid (wr.heap[wo.heap.size + 1]? = some (.cells #[.int .i64 (-1), .int .i64 (-2), .int .i64 (-3), .int .i64 (-4), .int .i64 5, .int .i64 5] 35 (0, 0))) ∧ Hid (Below wo.heap.size wo wr)) (fun _ iv _ => 6 - (intOf iv).toNat)
     case atStart => exact ⟨0, [], Nat.zero_le _, rfl, Nat.le_refl _, HOD, Lib.hid (fun gg hgg e => by have h : wo.heap.size = gg := Option.some.inj hgg; omega), HSIX, HBE⟩
     case round =>
      obtain ⟨j, ys, hj, rfl, hys, HO, HNE, HSX, HJ⟩ := hrel
      obtain ⟨Ay, cy, rfl, _⟩ := mx_slice HO.out
      by_cases hlj : j < 6
      ·
       obtain ⟨x, hx⟩ : ∃ x : Int, (#[.int .i64 (-1), .int .i64 (-2), .int .i64 (-3), .int .i64 (-4), .int .i64 5, .int .i64 5] : Array Value)[j]? = some (.int .i64 x) := by
        match j, hlj with
        | 0, _ => exact ⟨-1, rfl⟩
        | 1, _ => exact ⟨-2, rfl⟩
        | 2, _ => exact ⟨-3, rfl⟩
        | 3, _ => exact ⟨-4, rfl⟩
        | 4, _ => exact ⟨5, rfl⟩
        | 5, _ => exact ⟨5, rfl⟩
        | n + 6, h => omega
       have d0 : wr.cell? ⟨wo.heap.size + 1, j, none⟩ = some (.int .i64 x) := (mx_cell (j := j) HSX.out).trans hx
       clear hx
       go_upto_if 107 with fail
       obtain ⟨bt, hbt⟩ : ∃ b : Bool, (bits BinOp.and IntKind.i64 ((k : Int) / 2 ^ j) 1 == 1) = b := ⟨_, rfl⟩
       rw [hbt]
       clear hbt d0
       cases bt with
       | true =>
        go_wp2_with (at_builtin; refine wpList_append_own_at _ rfl _ _ 25 rfl wo.heap.size 35 i0 (.int .i64 0) 1 8 Tryz.underlying25 hi0 hi1 hi2 hi3 rfl (by decide) _ ys.length _ rfl (own_below HO.out (mx_al wr (.cells #[.int .i64 x] 35))) ⟨wr.heap.size, 0, none⟩ 1 1 [.int .i64 x] rfl rfl (cell_one _ _ _) (by simp [Value.oneCell']) (by unfold maxLen; omega) (by omega) (by have := HJ.out.size; simp; omega) ?_; intro v' w9 hown hgrow hnl hat; have hBG := (HJ.out.trans ((mx_al wr (.cells #[.int .i64 x] 35)).mono HJ.out.size)).grown hgrow (by have := HJ.out.size; simp; omega) (fun g hg => (own_lt HO.out g hg).1); have hsx := (hgrow.block (wo.heap.size + 1) (by have := heap_lt HSX.out; simp; omega) (fun e => HNE.out _ e.symm rfl)).trans (((mx_al wr (.cells #[.int .i64 x] 35)).block (wo.heap.size + 1) (heap_lt HSX.out)).trans HSX.out); have hne := ne_of_hat (b := wo.heap.size + 1) hat HNE.out (by have := heap_lt HSX.out; simp; omega); obtain ⟨A7', k7', hv2, _⟩ := mx_slice hown; subst hv2; have HO9 := Lib.hid hown; have HB9 := Lib.hid hBG; have HS9 := Lib.hid hsx; have HN9 := Lib.hid hne; clear hown hgrow hnl hat hBG hsx hne)
        go_roundw
        case rel => exact ⟨j + 1, ys ++ [x], by omega, by go_num, by simp; omega, Lib.hid (by rw [List.length_append, List.map_append]; exact HO9.out), HN9, HS9, HB9⟩
        case measure => simp [intOf]; omega
       | false =>
        go_wp2_with fail
        go_roundw
        case rel => exact ⟨j + 1, ys, by omega, by go_num, by omega, HO, HNE, HSX, HJ⟩
        case measure => simp [intOf]; omega
      ·
       have hdj : decide ((j : Int) < 6) = false := by simp; omega
       obtain ⟨wf, rfl⟩ : ∃ wo : World, wo = wr := ⟨_, rfl⟩
       have HBF := Lib.hid (HV.out.trans (HJ.out.mono HV.out.size))
       have HCI := Lib.hid (show IntsIn (fun g => g < wf.heap.size) wf (.slice Ay ys.length cy) ys from (IntsIn.of_own HO.out).mono (fun g hg => (own_lt HO.out g hg.2).2))
       clear HO HJ HNE HSX hlj
       go_wp2_with fail
       go_loopw [113] (fun iv wr => ∃ (m : Nat), m ≤ 4 ∧ iv = .int .i64 m ∧ Hid (Below wf.heap.size wf wr)) (fun iv _ => 4 - (intOf iv).toNat)
       case atStart => exact ⟨0, Nat.zero_le _, rfl, Lib.hid (Below.refl _ _)⟩
       case round =>
        obtain ⟨m, hm, rfl, HM⟩ := hrel
        by_cases hlm : m < 4
        ·
         obtain ⟨wp, rfl⟩ : ∃ wo : World, wo = wr := ⟨_, rfl⟩
         obtain ⟨W6, h6, hb6, hz6, hc6⟩ := cls6 wp (.slice Ay ys.length cy) ys ((HCI.out.below HM.out).mono (fun g hg => by have := HM.out.size; omega))
         have H6 := Lib.hid h6
         have HC6 := Lib.hid hc6
         have HBP := Lib.hid hb6
         have HBW := Lib.hid (HBF.out.trans ((HM.out.trans (hb6.mono HM.out.size)).mono HBF.out.size))
         have hdm : decide ((m : Int) < 4) = true := by simp; omega
         clear h6 hb6 hz6 hc6
         go_upto_region 32 with fail
         rw [H6.out]
         have hcl := clone_acts lb 6 lowA W6 (own_mono (own_below HLOW.out HBW.out) (Nat.zero_le _)) (by decide)
         rw [show lowA.length = 6 from rfl] at hcl
         have HCN := Lib.hid hcl
         clear hcl
         go_wp2_with fail
         refine HCN.out.mono ?_
         rintro e x1 ⟨v', rfl, hown, hb⟩
         obtain ⟨gm, cm, csm, rfl, hcm, hbm, hgm, hblk, _⟩ := mx_some hown (by decide)
         have HOW := Lib.hid hown
         have HBX := Lib.hid hb
         have p0 : x1.cell? ⟨gm, 2, none⟩ = some (.int .i64 0) := mx_at hown (j := 2) rfl
         have fr := mx_free (j := 2) hblk
         have HBM := Lib.hid hbm
         clear hown hb hblk hbm HCN
         have hc6 : 0 < cm := by omega
         go_upto_if 127 with fail
         clear p0 fr
         obtain ⟨bt, hbt⟩ : ∃ b : Bool, ((m : Int) % 2 == 1) = b := ⟨_, rfl⟩
         rw [hbt]
         clear hbt
         go_cut [14] (fun mv wx => mv = .slice (some ⟨gm, 0, none⟩) 6 cm ∧ ∃ l' : List ActP, l'.length = 6 ∧ Hid (wx.ownsRow W6.heap.size 33 3 (.slice (some ⟨gm, 0, none⟩) 6 cm) 6 (l'.flatMap ActP.cells)) ∧ Hid (Below W6.heap.size W6 wx))
         case first =>
          cases bt with
          | true =>
           have p0 : x1.cell? ⟨gm, 2, none⟩ = some (.int .i64 0) := mx_at HOW.out (j := 2) rfl
           have fr := own_free HOW.out 2
           go_wp2_with fail
           go_meet
           exact ⟨rfl, lowA.set 0 ⟨false, 1, 6⟩, rfl, Lib.hid (own_puts 2 HOW.out (.int .i64 6)), Lib.hid (HBX.out.setCell (p := ⟨gm, 2, none⟩) HBM.out _)⟩
          | false =>
           go_wp2_with fail
           go_meet
           exact ⟨rfl, lowA, rfl, HOW, HBX⟩
         case rest =>
          obtain ⟨rfl, l', hl', HO2, HB2⟩ := hcut
          obtain ⟨xc, rfl⟩ : ∃ q : World, q = wc := ⟨_, rfl⟩
          go_upto_if 132 with fail
          obtain ⟨bu, hbu⟩ : ∃ b : Bool, decide ((1 : Int) < (m : Int)) = b := ⟨_, rfl⟩
          rw [hbu]
          clear hbu
          go_cut [14] (fun mv wx => mv = .slice (some ⟨gm, 0, none⟩) 6 cm ∧ ∃ l' : List ActP, l'.length = 6 ∧ Hid (wx.ownsRow W6.heap.size 33 3 (.slice (some ⟨gm, 0, none⟩) 6 cm) 6 (l'.flatMap ActP.cells)) ∧ Hid (Below W6.heap.size W6 wx))
          case first =>
           cases bu with
           | true =>
            obtain ⟨a0, a1, a2, a3, a4, a5, rfl⟩ : ∃ a0 a1 a2 a3 a4 a5, l' = [a0, a1, a2, a3, a4, a5] := by
             match l', hl' with
             | [a, b, c, d, e, f], _ => exact ⟨a, b, c, d, e, f, rfl⟩
            go_upto_region 36 with fail
            refine wp_region_held_drew (S := fun w' => Below W6.heap.size W6 w') (by kernel_rfl) (HB2.out.trans ((mx_drew xc).mono HB2.out.size)) (fun hS => ?_)
            have HOD := Lib.hid (own_below HO2.out (mx_drew xc))
            obtain ⟨wD, hwD⟩ : ∃ x, (xc).drew = x := ⟨_, rfl⟩
            rw [hwD] at hS HOD ⊢
            clear hwD
            refine takeD 0 133 (v := ?_) rfl (by rfl) (by kernel_rfl) (by kernel_rfl) (by kernel_rfl) (fun _ _ _ h => h) (Or.inl ⟨by rfl, ?_⟩) (by assumption) ?_
            rotate_left
            ·
             intro wq hSw
             clear hSw
             go_simp
             try with_reducible rfl
            simp only [Act.put, List.setIfInBounds_toArray, List.set_cons_zero, List.set_cons_succ]
            refine takeD 1 134 (v := ?_) rfl (by rfl) (by kernel_rfl) (by kernel_rfl) (by kernel_rfl) (fun _ _ _ h => h) (Or.inl ⟨by rfl, ?_⟩) (by assumption) ?_
            rotate_left
            ·
             intro wq hSw
             clear hSw
             go_simp
             try with_reducible rfl
            simp only [Act.put, List.setIfInBounds_toArray, List.set_cons_zero, List.set_cons_succ]
            refine takeD 2 135 (v := ?_) rfl (by rfl) (by kernel_rfl) (by kernel_rfl) (by kernel_rfl) (fun _ _ _ h => h) (Or.inl ⟨by rfl, ?_⟩) (by assumption) ?_
            rotate_left
            ·
             intro wq hSw
             clear hSw
             go_simp
             try with_reducible rfl
            simp only [Act.put, List.setIfInBounds_toArray, List.set_cons_zero, List.set_cons_succ]
            refine takeD 3 136 (v := ?_) rfl (by rfl) (by kernel_rfl) (by kernel_rfl) (by kernel_rfl) (fun _ _ _ h => h) (Or.inl ⟨by rfl, ?_⟩) (by assumption) ?_
            rotate_left
            ·
             intro wq hSw
             clear hSw
             go_simp
             try with_reducible rfl
            simp only [Act.put, List.setIfInBounds_toArray, List.set_cons_zero, List.set_cons_succ]
            refine takeD 5 138 (v := ?_) rfl (by rfl) (by kernel_rfl) (by kernel_rfl) (by kernel_rfl) (fun _ _ _ h => h) (Or.inl ⟨by rfl, ?_⟩) (by assumption) ?_
            rotate_left
            ·
             intro wq hSw
             clear hSw
             go_simp
             try with_reducible rfl
            simp only [Act.put, List.setIfInBounds_toArray, List.set_cons_zero, List.set_cons_succ]
            refine takeD 6 139 (v := ?_) rfl (by rfl) (by kernel_rfl) (by kernel_rfl) (by kernel_rfl) (fun _ _ _ h => h) (Or.inl ⟨by rfl, ?_⟩) (by assumption) ?_
            rotate_left
            ·
             intro wq hSw
             clear hSw
             go_simp
             try with_reducible rfl
            simp only [Act.put, List.setIfInBounds_toArray, List.set_cons_zero, List.set_cons_succ]
            refine wpAnyH_ready (rs := [4, 7]) (by kernel_rfl) (by simp) ?_
            refine AllReadyH.cons rfl (fun K hK => ?_) (AllReadyH.cons rfl (fun K hK => ?_) AllReadyH.nil)
            ·
             have q0 := mx_at HOD.out (j := 12) rfl
             have q1 := mx_at HOD.out (j := 13) rfl
             have q2 := mx_at HOD.out (j := 14) rfl
             go_simp
             refine hK.out _ _ hS (fun _ => ?_)
             clear hK q0 q1 q2
             have q0 := mx_at HOD.out (j := 9) rfl
             have q1 := mx_at HOD.out (j := 10) rfl
             have q2 := mx_at HOD.out (j := 11) rfl
             refine wpAnyH_ready (rs := [7]) (by kernel_rfl) (by simp) ?_
             refine AllReadyH.cons rfl (fun K hK => ?_) AllReadyH.nil
             go_simp
             refine hK.out _ _ hS (fun _ => ?_)
             clear hK q0 q1 q2
             refine takeD 8 141 (v := ?_) rfl (by rfl) (by kernel_rfl) (by kernel_rfl) (by kernel_rfl) (fun _ _ _ h => h) (Or.inl ⟨by rfl, ?_⟩) (by assumption) ?_
             rotate_left
             ·
              intro wq hSw
              clear hSw
              go_simp
              try with_reducible rfl
             simp only [Act.put, List.setIfInBounds_toArray, List.set_cons_zero, List.set_cons_succ]
             have q0 := mx_at HOD.out (j := 9) rfl
             have q1 := mx_at HOD.out (j := 10) rfl
             have q2 := mx_at HOD.out (j := 11) rfl
             have f0 := own_free HOD.out 9
             have f1 := own_free HOD.out 10
             have f2 := own_free HOD.out 11
             refine wpAnyH_ready (rs := [9]) (by kernel_rfl) (by simp) ?_
             refine AllReadyH.cons rfl (fun K hK => ?_) AllReadyH.nil
             go_simp
             have HPx2a := Lib.hid (own_puts 11 (own_puts 10 (own_puts 9 HOD.out (.bool a4.push)) (.int .i64 a4.l)) (.int .i64 a4.by_))
             obtain ⟨x2a, hx2a⟩ : ∃ q, ((wD.setCell ⟨gm, 9, none⟩ (.bool a4.push)).setCell ⟨gm, 10, none⟩ (.int .i64 a4.l)).setCell ⟨gm, 11, none⟩ (.int .i64 a4.by_) = q := ⟨_, rfl⟩
             rw [hx2a] at HPx2a ⊢
             have hSN : Below W6.heap.size W6 x2a := by rw [← hx2a]; exact ((hS.setCell (p := ⟨gm, 9, none⟩) HBM.out _).setCell (p := ⟨gm, 10, none⟩) HBM.out _).setCell (p := ⟨gm, 11, none⟩) HBM.out _
             have HOx2a := Lib.hid (show x2a.ownsRow W6.heap.size 33 3 (.slice (some ⟨gm, 0, none⟩) 6 cm) 6 (([a0, a1, a2, a4, a4, a5] : List ActP).flatMap ActP.cells) from HPx2a.out)
             refine hK.out _ _ hSN (fun _ => ?_)
             clear hK hS hx2a q0 q1 q2 f0 f1 f2
             have hS := hSN
             clear hSN
             refine takeD 10 142 (v := ?_) rfl (by rfl) (by kernel_rfl) (by kernel_rfl) (by kernel_rfl) (fun _ _ _ h => h) (Or.inl ⟨by rfl, ?_⟩) (by assumption) ?_
             rotate_left
             ·
              intro wq hSw
              clear hSw
              go_simp
              try with_reducible rfl
             simp only [Act.put, List.setIfInBounds_toArray, List.set_cons_zero, List.set_cons_succ]
             have q0 := mx_at HOx2a.out (j := 12) rfl
             have q1 := mx_at HOx2a.out (j := 13) rfl
             have q2 := mx_at HOx2a.out (j := 14) rfl
             have f0 := own_free HOx2a.out 12
             have f1 := own_free HOx2a.out 13
             have f2 := own_free HOx2a.out 14
             refine wpAnyH_ready (rs := [11]) (by kernel_rfl) (by simp) ?_
             refine AllReadyH.cons rfl (fun K hK => ?_) AllReadyH.nil
             go_simp
             have HPx2 := Lib.hid (own_puts 14 (own_puts 13 (own_puts 12 HOx2a.out (.bool a3.push)) (.int .i64 a3.l)) (.int .i64 a3.by_))
             obtain ⟨x2, hx2⟩ : ∃ q, ((x2a.setCell ⟨gm, 12, none⟩ (.bool a3.push)).setCell ⟨gm, 13, none⟩ (.int .i64 a3.l)).setCell ⟨gm, 14, none⟩ (.int .i64 a3.by_) = q := ⟨_, rfl⟩
             rw [hx2] at HPx2 ⊢
             have hSN : Below W6.heap.size W6 x2 := by rw [← hx2]; exact ((hS.setCell (p := ⟨gm, 12, none⟩) HBM.out _).setCell (p := ⟨gm, 13, none⟩) HBM.out _).setCell (p := ⟨gm, 14, none⟩) HBM.out _
             have HOx2 := Lib.hid (show x2.ownsRow W6.heap.size 33 3 (.slice (some ⟨gm, 0, none⟩) 6 cm) 6 (([a0, a1, a2, a4, a3, a5] : List ActP).flatMap ActP.cells) from HPx2.out)
             refine hK.out _ _ hSN (fun _ => ?_)
             clear hK hS hx2 q0 q1 q2 f0 f1 f2
             have hS := hSN
             clear hSN
             refine wpAnyH_done (by kernel_rfl) ?_ _
             go_wp2_with fail
             go_meet
             exact ⟨rfl, [a0, a1, a2, a4, a3, a5], rfl, HOx2, Lib.hid hS⟩
            ·
             have q0 := mx_at HOD.out (j := 9) rfl
             have q1 := mx_at HOD.out (j := 10) rfl
             have q2 := mx_at HOD.out (j := 11) rfl
             go_simp
             refine hK.out _ _ hS (fun _ => ?_)
             clear hK q0 q1 q2
             have q0 := mx_at HOD.out (j := 12) rfl
             have q1 := mx_at HOD.out (j := 13) rfl
             have q2 := mx_at HOD.out (j := 14) rfl
             refine wpAnyH_ready (rs := [4]) (by kernel_rfl) (by simp) ?_
             refine AllReadyH.cons rfl (fun K hK => ?_) AllReadyH.nil
             go_simp
             refine hK.out _ _ hS (fun _ => ?_)
             clear hK q0 q1 q2
             refine takeD 8 141 (v := ?_) rfl (by rfl) (by kernel_rfl) (by kernel_rfl) (by kernel_rfl) (fun _ _ _ h => h) (Or.inl ⟨by rfl, ?_⟩) (by assumption) ?_
             rotate_left
             ·
              intro wq hSw
              clear hSw
              go_simp
              try with_reducible rfl
             simp only [Act.put, List.setIfInBounds_toArray, List.set_cons_zero, List.set_cons_succ]
             have q0 := mx_at HOD.out (j := 9) rfl
             have q1 := mx_at HOD.out (j := 10) rfl
             have q2 := mx_at HOD.out (j := 11) rfl
             have f0 := own_free HOD.out 9
             have f1 := own_free HOD.out 10
             have f2 := own_free HOD.out 11
             refine wpAnyH_ready (rs := [9]) (by kernel_rfl) (by simp) ?_
             refine AllReadyH.cons rfl (fun K hK => ?_) AllReadyH.nil
             go_simp
             have HPx2a := Lib.hid (own_puts 11 (own_puts 10 (own_puts 9 HOD.out (.bool a4.push)) (.int .i64 a4.l)) (.int .i64 a4.by_))
             obtain ⟨x2a, hx2a⟩ : ∃ q, ((wD.setCell ⟨gm, 9, none⟩ (.bool a4.push)).setCell ⟨gm, 10, none⟩ (.int .i64 a4.l)).setCell ⟨gm, 11, none⟩ (.int .i64 a4.by_) = q := ⟨_, rfl⟩
             rw [hx2a] at HPx2a ⊢
             have hSN : Below W6.heap.size W6 x2a := by rw [← hx2a]; exact ((hS.setCell (p := ⟨gm, 9, none⟩) HBM.out _).setCell (p := ⟨gm, 10, none⟩) HBM.out _).setCell (p := ⟨gm, 11, none⟩) HBM.out _
             have HOx2a := Lib.hid (show x2a.ownsRow W6.heap.size 33 3 (.slice (some ⟨gm, 0, none⟩) 6 cm) 6 (([a0, a1, a2, a4, a4, a5] : List ActP).flatMap ActP.cells) from HPx2a.out)
             refine hK.out _ _ hSN (fun _ => ?_)
             clear hK hS hx2a q0 q1 q2 f0 f1 f2
             have hS := hSN
             clear hSN
             refine takeD 10 142 (v := ?_) rfl (by rfl) (by kernel_rfl) (by kernel_rfl) (by kernel_rfl) (fun _ _ _ h => h) (Or.inl ⟨by rfl, ?_⟩) (by assumption) ?_
             rotate_left
             ·
              intro wq hSw
              clear hSw
              go_simp
              try with_reducible rfl
             simp only [Act.put, List.setIfInBounds_toArray, List.set_cons_zero, List.set_cons_succ]
             have q0 := mx_at HOx2a.out (j := 12) rfl
             have q1 := mx_at HOx2a.out (j := 13) rfl
             have q2 := mx_at HOx2a.out (j := 14) rfl
             have f0 := own_free HOx2a.out 12
             have f1 := own_free HOx2a.out 13
             have f2 := own_free HOx2a.out 14
             refine wpAnyH_ready (rs := [11]) (by kernel_rfl) (by simp) ?_
             refine AllReadyH.cons rfl (fun K hK => ?_) AllReadyH.nil
             go_simp
             have HPx2 := Lib.hid (own_puts 14 (own_puts 13 (own_puts 12 HOx2a.out (.bool a3.push)) (.int .i64 a3.l)) (.int .i64 a3.by_))
             obtain ⟨x2, hx2⟩ : ∃ q, ((x2a.setCell ⟨gm, 12, none⟩ (.bool a3.push)).setCell ⟨gm, 13, none⟩ (.int .i64 a3.l)).setCell ⟨gm, 14, none⟩ (.int .i64 a3.by_) = q := ⟨_, rfl⟩
             rw [hx2] at HPx2 ⊢
             have hSN : Below W6.heap.size W6 x2 := by rw [← hx2]; exact ((hS.setCell (p := ⟨gm, 12, none⟩) HBM.out _).setCell (p := ⟨gm, 13, none⟩) HBM.out _).setCell (p := ⟨gm, 14, none⟩) HBM.out _
             have HOx2 := Lib.hid (show x2.ownsRow W6.heap.size 33 3 (.slice (some ⟨gm, 0, none⟩) 6 cm) 6 (([a0, a1, a2, a4, a3, a5] : List ActP).flatMap ActP.cells) from HPx2.out)
             refine hK.out _ _ hSN (fun _ => ?_)
             clear hK hS hx2 q0 q1 q2 f0 f1 f2
             have hS := hSN
             clear hSN
             refine wpAnyH_done (by kernel_rfl) ?_ _
             go_wp2_with fail
             go_meet
             exact ⟨rfl, [a0, a1, a2, a4, a3, a5], rfl, HOx2, Lib.hid hS⟩
           | false =>
            go_wp2_with fail
            go_meet
            exact ⟨rfl, l', hl', HO2, HB2⟩
          case rest =>
           obtain ⟨rfl, l2, hl2, HO3, HB3⟩ := hcut
           have HT := Lib.hid (HTE.out [[2, -1], [3, -2, -2, -1], [4, -3], [-5, -4, -1], ys, [1]] l2 ys _ (.slice (some ⟨gm, 0, none⟩) 6 cm) (.slice Ay ys.length cy) 5 3 wc (HC6.out.below HB3.out) (acts_own (l := l2) (by rw [hl2]; exact HO3.out)) ((HCI.out.below (HM.out.trans ((HBP.out.trans (HB3.out.mono HBP.out.size)).mono HM.out.size))).mono (fun _ _ => trivial)) (by simp only [List.length_cons, List.length_nil]; omega) (fun c hc => by
            simp only [List.mem_cons, List.not_mem_nil, or_false] at hc
            rcases hc with rfl | rfl | rfl | rfl | rfl | rfl
            ·
             decide
            ·
             decide
            ·
             decide
            ·
             decide
            ·
             omega
            ·
             decide) (by omega) (by omega))
           go_wp2_with fail
           refine HT.out.mono ?_
           rintro e y1 ⟨rfl, hb⟩
           have HY := Lib.hid (HM.out.trans ((HBP.out.trans ((HB3.out.trans (hb.mono HB3.out.size)).mono HBP.out.size)).mono HM.out.size))
           clear hb HT
           go_wp2_with fail
           go_roundw
           case rel => exact ⟨m + 1, by omega, by go_num, HY⟩
           case measure => simp [intOf]; omega
        ·
         have hdm : decide ((m : Int) < 4) = false := by simp; omega
         go_wp2_with fail
         go_roundw
         case rel => exact ⟨k + 1, by omega, by go_num, Lib.hid (HBF.out.trans (HM.out.mono HBF.out.size))⟩
         case measure => simp [intOf]; omega
    ·
     have hdk : decide ((k : Int) < 64) = false := by simp; omega
     obtain ⟨wb, rfl⟩ : ∃ wo : World, wo = wr := ⟨_, rfl⟩
     have HBB := Lib.hid (HLB.out.trans (HV.out.mono HLB.out.size))
     clear hlt
     obtain ⟨wn, hwn⟩ : ∃ x, wb.alloc (.cells #[.int .i64 (-9223372036854775808), .int .i64 (-1), .int .i64 0, .int .i64 1, .int .i64 5, .int .i64 6, .int .i64 1048576, .int .i64 1073741825, .int .i64 9223372036854775807] 3) = x := ⟨_, rfl⟩
     have Hwn := Lib.hid hwn
     have Kwn := Lib.hid (show Below wb.heap.size wb wn from by rw [← hwn]; exact mx_al _ _)
     have Bwn := Lib.hid (show wn.heap[wb.heap.size]? = some (.cells #[.int .i64 (-9223372036854775808), .int .i64 (-1), .int .i64 0, .int .i64 1, .int .i64 5, .int .i64 6, .int .i64 1048576, .int .i64 1073741825, .int .i64 9223372036854775807] 3 (0, 0)) from by rw [← hwn]; exact World.alloc_heap_new _ _)
     clear hwn
     have HBN := Lib.hid (HBB.out.trans (Kwn.out.mono HBB.out.size))
     go_upto_region 42 with fail
     rw [Hwn.out]
     go_wp2_with fail
     go_loopw [152] (fun iv wr => ∃ (q : Nat), q ≤ 9 ∧ iv = .int .i64 q ∧ Hid (Below wn.heap.size wn wr)) (fun iv _ => 9 - (intOf iv).toNat)
     case atStart => exact ⟨0, Nat.zero_le _, rfl, Lib.hid (Below.refl _ _)⟩
     case round =>
      obtain ⟨q, hq, rfl, HQ⟩ := hrel
      by_cases hlq : q < 9
      ·
       obtain ⟨x, hx⟩ : ∃ x : Int, (#[.int .i64 (-9223372036854775808), .int .i64 (-1), .int .i64 0, .int .i64 1, .int .i64 5, .int .i64 6, .int .i64 1048576, .int .i64 1073741825, .int .i64 9223372036854775807] : Array Value)[q]? = some (.int .i64 x) := by
        match q, hlq with
        | 0, _ => exact ⟨-9223372036854775808, rfl⟩
        | 1, _ => exact ⟨-1, rfl⟩
        | 2, _ => exact ⟨0, rfl⟩
        | 3, _ => exact ⟨1, rfl⟩
        | 4, _ => exact ⟨5, rfl⟩
        | 5, _ => exact ⟨6, rfl⟩
        | 6, _ => exact ⟨1048576, rfl⟩
        | 7, _ => exact ⟨1073741825, rfl⟩
        | 8, _ => exact ⟨9223372036854775807, rfl⟩
        | n + 9, h => omega
       have d0 : wr.cell? ⟨wb.heap.size, q, none⟩ = some (.int .i64 x) := (HQ.out.cell (p := ⟨wb.heap.size, q, none⟩) (heap_lt Bwn.out)).trans ((mx_cell (j := q) Bwn.out).trans hx)
       obtain ⟨x5, hx5⟩ : ∃ y, wr.alloc (.cells #[.int .i64 1, .int .i64 x] 35) = y := ⟨_, rfl⟩
       have hb5 : Below wr.heap.size wr x5 := by rw [← hx5]; exact mx_al _ _
       have hB5 := HBN.out.trans ((HQ.out.trans (hb5.mono HQ.out.size)).mono HBN.out.size)
       have HIX := Lib.hid (show IntsIn (fun _ => True) x5 (.slice (some ⟨wr.heap.size, 0, none⟩) 2 2) [1, x] from by rw [← hx5]; exact (mx_ints wr [1, x] 35).mono (fun _ _ => trivial))
       have HT := Lib.hid (HTE.out exL exA [1, x] _ _ _ x x x5 (HCL.out.below hB5) (HAI.out.below hB5) HIX.out (by decide) HEL.out (by decide) (by simp only [List.length_cons, List.length_nil]; omega))
       have HX5 := Lib.hid hx5
       have HQ5 := Lib.hid (HQ.out.trans (hb5.mono HQ.out.size))
       clear hx hx5 hb5 hB5
       go_wp2_with fail
       rw [HX5.out]
       refine HT.out.mono ?_
       rintro e y1 ⟨rfl, hb⟩
       have HY := Lib.hid (HQ5.out.trans (hb.mono HQ5.out.size))
       clear hb HT d0
       go_wp2_with fail
       go_roundw
       case rel => exact ⟨q + 1, by omega, by go_num, HY⟩
       case measure => simp [intOf]; omega
      ·
       have hdq : decide ((q : Int) < 9) = false := by simp; omega
       obtain ⟨wz, rfl⟩ : ∃ wo : World, wo = wr := ⟨_, rfl⟩
       have HZ := Lib.hid (HBN.out.trans (HQ.out.mono HBN.out.size))
       clear hlq
       have hpt : Calls Tryz.prog 11 #[.int .i64 2, .slice none 0 0, .slice none 0 0] wz fun e w' => ∃ a b, e = .returned (.tuple #[.pointer (some ⟨a, 0, none⟩), .pointer (some ⟨b, 0, none⟩), .bool true]) ∧ Below wz.heap.size wz w' := by
        refine (put_any 2 _ _ [] [] wz (by decide) (ClsAt.nil _) (ActsIn.nil _) (by decide) (fun c h => by cases h) (by decide)).mono ?_
        rintro e w' ⟨a, b, rfl, _, hb⟩
        exact ⟨a, b, rfl, hb⟩
       have HPT := Lib.hid hpt
       clear hpt
       go_wp2_with fail
       refine HPT.out.mono ?_
       rintro e v1 ⟨a, b, rfl, hb⟩
       have HV1 := Lib.hid (HZ.out.trans (hb.mono HZ.out.size))
       clear hb HPT
       go_wp2_with fail
       refine (conf_nil none _ 1 v1 (.inl rfl)).mono ?_
       rintro e v2 ⟨rfl, hb⟩
       have HV2 := Lib.hid (HV1.out.trans (hb.mono HV1.out.size))
       clear hb
       obtain ⟨v3, hv3⟩ : ∃ x, v2.alloc (.cells #[.slice none 0 0, .int .i64 0, .int .i64 0, .slice none 0 0, .slice none 0 0] 42) = x := ⟨_, rfl⟩
       have Hv3 := Lib.hid hv3
       have Kv3 := Lib.hid (show Below v2.heap.size v2 v3 from by rw [← hv3]; exact mx_al _ _)
       have Bv3 := Lib.hid (show v3.heap[v2.heap.size]? = some (.cells #[.slice none 0 0, .int .i64 0, .int .i64 0, .slice none 0 0, .slice none 0 0] 42 (0, 0)) from by rw [← hv3]; exact World.alloc_heap_new _ _)
       clear hv3
       have HV3 := Lib.hid (HV2.out.trans (Kv3.out.mono HV2.out.size))
       go_upto_region 51 with fail
       rw [Hv3.out]
       go_wp2_with fail
       refine (conf_nil _ none 1 v3 (.inr ⟨_, rfl, rfl⟩)).mono ?_
       rintro e v4 ⟨rfl, hb⟩
       have HV4 := Lib.hid (HV3.out.trans (hb.mono HV3.out.size))
       have HK4 := Lib.hid hb
       clear hb
       obtain ⟨v5, hv5⟩ : ∃ x, v4.alloc (.cells #[.slice none 0 0, .int .i64 0, .int .i64 0, .slice none 0 0, .slice none 0 0] 42) = x := ⟨_, rfl⟩
       have Hv5 := Lib.hid hv5
       have Kv5 := Lib.hid (show Below v4.heap.size v4 v5 from by rw [← hv5]; exact mx_al _ _)
       have Bv5 := Lib.hid (show v5.heap[v4.heap.size]? = some (.cells #[.slice none 0 0, .int .i64 0, .int .i64 0, .slice none 0 0, .slice none 0 0] 42 (0, 0)) from by rw [← hv5]; exact World.alloc_heap_new _ _)
       clear hv5
       have HV5 := Lib.hid (HV4.out.trans (Kv5.out.mono HV4.out.size))
       have HK5 := Lib.hid (HK4.out.trans (Kv5.out.mono HK4.out.size))
       go_upto_region 52 with fail
       rw [Hv5.out]
       go_wp2_with fail
       refine (right_nil _ 1 v5).mono ?_
       rintro e v6 ⟨rfl, hb⟩
       have HV6 := Lib.hid (HV5.out.trans (hb.mono HV5.out.size))
       have HL6 := Lib.hid hb
       clear hb
       go_wp2_with fail
       refine (level_nil _ 1 v6).mono ?_
       rintro e v7 ⟨rfl, hb⟩
       have HV7 := Lib.hid (HV6.out.trans (hb.mono HV6.out.size))
       have HL7 := Lib.hid (HL6.out.trans (hb.mono HL6.out.size))
       clear hb
       go_wp2_with fail
       refine (levels_nil _ _).mono ?_
       rintro e v9 ⟨rfl, hb⟩
       have HV9 := Lib.hid (HV7.out.trans (((mx_al v7 _).trans (hb.mono (mx_al v7 _).size)).mono HV7.out.size))
       have HL9 := Lib.hid (HL7.out.trans (((mx_al v7 _).trans (hb.mono (mx_al v7 _).size)).mono HL7.out.size))
       clear hb
       obtain ⟨va, hva⟩ : ∃ x, v9.alloc (.cells #[.int .i64 1, .int .i64 1, .int .i64 1, .int .i64 1, .int .i64 1] 43) = x := ⟨_, rfl⟩
       have Hva := Lib.hid hva
       have Kva := Lib.hid (show Below v9.heap.size v9 va from by rw [← hva]; exact mx_al _ _)
       have Bva := Lib.hid (show va.heap[v9.heap.size]? = some (.cells #[.int .i64 1, .int .i64 1, .int .i64 1, .int .i64 1, .int .i64 1] 43 (0, 0)) from by rw [← hva]; exact World.alloc_heap_new _ _)
       clear hva
       go_upto_region 56 with fail
       rw [Hva.out]
       go_wp2_with fail
       go_loopw [204] (fun iv wr => ∃ (j : Nat), j ≤ 5 ∧ iv = .int .i64 j ∧ Hid (Below va.heap.size va wr)) (fun iv _ => 5 - (intOf iv).toNat)
       case atStart => exact ⟨0, Nat.zero_le _, rfl, Lib.hid (Below.refl _ _)⟩
       case round =>
        obtain ⟨j, hj, rfl, HJ⟩ := hrel
        by_cases hlj : j < 5
        ·
         have hx : (#[.int .i64 1, .int .i64 1, .int .i64 1, .int .i64 1, .int .i64 1] : Array Value)[j]? = some (.int .i64 1) := by
          match j, hlj with
          | 0, _ => rfl
          | 1, _ => rfl
          | 2, _ => rfl
          | 3, _ => rfl
          | 4, _ => rfl
          | n + 5, h => omega
         have d0 : wr.cell? ⟨v9.heap.size, j, none⟩ = some (.int .i64 1) := (HJ.out.cell (p := ⟨v9.heap.size, j, none⟩) (heap_lt Bva.out)).trans ((mx_cell (j := j) Bva.out).trans hx)
         clear hx
         go_wp2_with fail
         go_roundw
         case rel => exact ⟨j + 1, by omega, by go_num, HJ⟩
         case measure => simp [intOf]; omega
        ·
         have hdj : decide ((j : Int) < 5) = false := by simp; omega
         have HE := Lib.hid (HL9.out.trans ((Kva.out.trans (HJ.out.mono Kva.out.size)).mono HL9.out.size))
         have b3 := (HK5.out.trans (HE.out.mono HK5.out.size)).block v2.heap.size (heap_lt Bv3.out)
         have b5 := HE.out.block v4.heap.size (heap_lt Bv5.out)
         have p0 := mx_cell (j := 0) (b3.trans Bv3.out)
         have p3 := mx_cell (j := 3) (b5.trans Bv5.out)
         have HF := Lib.hid (HB1.out.trans ((HV9.out.trans ((Kva.out.trans (HJ.out.mono Kva.out.size)).mono HV9.out.size)).mono HB1.out.size))
         clear b3 b5
         go_wp2_with fail
         refine (HAW.out _).mono ?_
         rintro e w' ⟨rfl, hb⟩
         go_wp2_with fail
         go_ret
         exact ⟨rfl, HF.out.trans (hb.mono HF.out.size)⟩
end Go.Proofs.YtfbiaclpopjipaaGreat
