/- Rising rows of integers: a number's place, put in, taken out. -/
import Derived.Test.YtobcnejecogfoaaGreatQ10
import Derived.Test.YtobcnejecogfoaaGreatShelf
import Derived.Test.YtobcnejecogfoaaGreatQ08
import Derived.Test.YtobcnejecogfoaaGreatQ11
import Derived.Shelf.SlSortFuncK.RowK2
import Derived.Deep.Upon
namespace Go.Proofs.YtobcnejecogfoaaGreat
open Go.RowKit Go.Lib Go.Shelf Go.Sort

theorem own_of_cells {w : World} {base g n cap : Nat} {e : TypeId} {cur : Array Value} {xs : List Value} (hg : w.heap[g]? = some (.cells cur e (0, 0))) (hb : base ≤ g) (hn : n ≤ cap) (hc : cap ≤ maxLen) (hs : cur.size = cap) (hl : xs.length = n)
    (hx : ∀ j x, xs[j]? = some x → w.cell? ⟨g, j, none⟩ = some x) : w.ownsRow base e 1 (.slice (some ⟨g, 0, none⟩) n cap) n xs := by
  refine ⟨by omega, .inr ⟨g, cap, cur, rfl, hb, hg, hn, hc, by omega, ?_⟩⟩
  rw [Nat.mul_one]
  apply List.ext_getElem?
  intro j
  rw [List.getElem?_take]
  by_cases hj : j < n
  · rw [if_pos hj]
    have hjx : xs[j]? = some xs[j] := List.getElem?_eq_getElem (by omega)
    have := hx j _ hjx
    rw [mx_cell hg] at this
    rw [hjx, Array.getElem?_toList]
    exact this
  · rw [if_neg hj, List.getElem?_eq_none (by omega)]
theorem block_setCells {g : Nat} {e : TypeId} {fz : Nat × Nat} (vs : List Value) : ∀ (o : Nat) (w : World) (cur : Array Value), w.heap[g]? = some (.cells cur e fz) → ∃ cur', (w.setCells g o vs).heap[g]? = some (.cells cur' e fz) ∧ cur'.size = cur.size := by
  induction vs with
  | nil => exact fun o w cur h => ⟨cur, h, rfl⟩
  | cons v r ih =>
    intro o w cur h
    obtain ⟨c', h1, h2⟩ := ih (o + 1) (w.setCell ⟨g, o, none⟩ v) _ (mx_set h v)
    exact ⟨c', h1, by rw [h2]; simp⟩
theorem kept_setCells (w : World) (g o : Nat) (vs : List Value) : Kept (fun k => k = g) w (w.setCells g o vs) := by
  induction vs generalizing o w with
  | nil => exact Kept.refl _ _
  | cons v r ih => exact (Kept.setCell (Kept.refl (fun k => k = g) w) _ _ rfl).trans (ih _ _) (fun _ _ h => h)
theorem ints_one (r : List Int) : ∀ v ∈ r.map (Value.int .i64), v.oneCell' = true := fun v hv => by
  obtain ⟨x, _, rfl⟩ := List.mem_map.1 hv
  rfl
/-- where a number belongs in a rising row -/
theorem row_search {base : Nat} (v : Value) (r : List Int) (x : Int) (w : World) (h : w.ownsRow base 3 1 v r.length (r.map (Value.int .i64))) (hr : r.Pairwise (· < ·)) (hl : r.length ≤ 1073741824) :
    Calls Tryz.prog 111 #[v, .int .i64 x] w fun e w' => e = .returned (.tuple #[.int .i64 (r.countP (· < x) : Nat), .bool (r.contains x)]) ∧ ∃ q, w' = w.drewN q := by
  rcases h.2 with ⟨rfl, h0⟩ | ⟨g, cap, cur, rfl, hb, hg, h1, h2, h3, h4⟩
  · obtain rfl : r = [] := List.eq_nil_of_length_eq_zero h0
    refine (Tryz.slices_BinarySearch_int_empty none 0 x w).mono ?_
    rintro e w' ⟨rfl, rfl⟩
    exact ⟨rfl, 0, rfl⟩
  · refine (Tryz.slices_BinarySearch_int g 0 r.length cap r x w (Nat.le_refl _) (by omega) (fun j hj => ?_) ?_).mono ?_
    · rw [Nat.zero_add]
      refine mx_at h ?_
      rw [List.getElem?_map, List.getElem?_eq_getElem hj]
      simp [List.getD_eq_getElem?_getD, List.getElem?_eq_getElem hj]
    · rw [List.take_length]
      exact hr.imp (fun h => Int.le_of_lt h)
    · rintro e w' ⟨rfl, hq⟩
      rw [List.take_length]
      exact ⟨rfl, hq⟩
theorem row_delete {base : Nat} (v : Value) (r : List Int) (i : Nat) (w : World) (h : w.ownsRow base 3 1 v r.length (r.map (Value.int .i64))) (hi : i < r.length) :
    Calls Tryz.prog 117 #[v, .int .i64 (i : Nat), .int .i64 ((i : Int) + 1)] w fun e w' => ∃ v', e = .returned v' ∧ w'.ownsRow base 3 1 v' (r.length - 1) ((r.eraseIdx i).map (Value.int .i64)) ∧ Kept (fun g => v.ownBlock = some g) w w' ∧ v'.ownBlock = v.ownBlock := by
  rcases h.2 with ⟨rfl, h0⟩ | ⟨g, cap, cur, rfl, hb, hg, h1, h2, h3, h4⟩
  · omega
  · have hle : (r.eraseIdx i).length = r.length - 1 := by rw [List.length_eraseIdx, if_pos hi]
    have H := Tryz.slices_Delete_int g 0 cap i (i + 1) r w (st_holds hg (by simpa using h4)) h1 h2 (by omega) (by omega)
    rw [show ((i + 1 : Nat) : Int) = (i : Int) + 1 from by omega] at H
    refine H.mono ?_
    rintro e w' ⟨rfl, q, rfl⟩
    have e1 : i + 1 - i = 1 := by omega
    rw [e1, ← List.eraseIdx_eq_take_drop_succ]
    refine ⟨_, rfl, ?_, st_kept1 _, rfl⟩
    refine ⟨by simp [hle], .inr ⟨g, cap, _, rfl, hb, st_heap1 _ hg, by omega, h2, by simp [putCells, h3], ?_⟩⟩
    have ht := st_take cur (r.eraseIdx i ++ [0]) (by rw [List.length_append, hle, List.length_singleton]; omega)
    have e2 : (r.length - 1) * 1 = (r.eraseIdx i).length := by rw [hle, Nat.mul_one]
    rw [e2]
    have e3 := congrArg (List.take (r.eraseIdx i).length) ht
    rw [List.take_take, Nat.min_eq_left (by simp)] at e3
    rw [show List.replicate 1 (0 : Int) = [0] from rfl, e3, List.map_append, List.take_append_of_le_length (by simp), List.take_of_length_le (by simp)]
theorem insI_get {r : List Int} {x : Int} {i : Nat} (hi : r.countP (· < x) = i) (hil : i ≤ r.length) (j : Nat) : (insI r x)[j]? = if j < i then r[j]? else if j = i then some x else r[j - 1]? := by
  unfold insI
  rw [hi]
  have hl : (r.take i).length = i := by rw [List.length_take]; omega
  by_cases h1 : j < i
  · rw [if_pos h1, List.getElem?_append_left (by omega), List.getElem?_take, if_pos h1]
  · rw [if_neg h1, List.getElem?_append_right (by omega), hl]
    by_cases h2 : j = i
    · rw [if_pos h2, h2, Nat.sub_self]
      rfl
    · rw [if_neg h2]
      obtain ⟨k, hk⟩ : ∃ k, j - i = k + 1 := ⟨j - i - 1, by omega⟩
      rw [hk, List.getElem?_cons_succ, List.getElem?_drop]
      congr 1
      omega
/-- rows in which a number was put in, by what their cells hold -/
theorem own_insI {w : World} {base g n cap i : Nat} {cur : Array Value} {r : List Int} {x : Int} (hg : w.heap[g]? = some (.cells cur 3 (0, 0))) (hb : base ≤ g) (hn : r.length + 1 ≤ cap) (hc : cap ≤ maxLen) (hs : cur.size = cap) (hrn : r.length = n) (hi : r.countP (· < x) = i) (hil : i ≤ n)
    (h1 : ∀ j y, j < i → r[j]? = some y → w.cell? ⟨g, j, none⟩ = some (.int .i64 y)) (h2 : w.cell? ⟨g, i, none⟩ = some (.int .i64 x)) (h3 : ∀ j y, i ≤ j → r[j]? = some y → w.cell? ⟨g, j + 1, none⟩ = some (.int .i64 y)) :
    w.ownsRow base 3 1 (.slice (some ⟨g, 0, none⟩) (n + 1) cap) (n + 1) ((insI r x).map (Value.int .i64)) := by
  refine own_of_cells hg hb (by omega) hc hs (by rw [List.length_map, insI_length]; omega) (fun j u hu => ?_)
  rw [List.getElem?_map, Option.map_eq_some_iff] at hu
  obtain ⟨y, hy, rfl⟩ := hu
  rw [insI_get hi (by omega)] at hy
  split at hy
  · rename_i hj
    exact h1 j y hj hy
  · split at hy
    · rename_i hj
      rw [hj, h2, Option.some.inj hy]
    · rename_i hj hj2
      have := h3 (j - 1) y (by omega) hy
      rwa [show j - 1 + 1 = j by omega] at this
theorem zero_size (k : Nat) : (Builtin.zeroCells (Value.int .i64 0).cells k).size = k := by
  show (Builtin.zeroCells #[Value.int .i64 0] k).size = k
  simp [Builtin.zeroCells]
theorem row_insert {base vb : Nat} (v : Value) (r : List Int) (x : Int) (w : World) (h : w.ownsRow base 3 1 v r.length (r.map (Value.int .i64))) (hbase : base ≤ w.heap.size) (hvb : w.heap[vb]? = some (.cells #[.int .i64 x] 3 (0, 0))) (hne : v.ownBlock ≠ some vb) (hl : r.length ≤ 1073741824) :
    Calls Tryz.prog 112 #[v, .int .i64 (r.countP (· < x) : Nat), .slice (some ⟨vb, 0, none⟩) 1 1] w fun e w' => ∃ v', e = .returned v' ∧ w'.ownsRow base 3 1 v' (r.length + 1) ((insI r x).map (Value.int .i64)) ∧ Kept (fun g => v.ownBlock = some g) w w' ∧ (v'.ownBlock = v.ownBlock ∨ v'.ownBlock = some w.heap.size) := by
  have hvs : ∀ (W : World), Below w.heap.size w W → ∀ j u, [Value.int .i64 x][j]? = some u → W.cell? ⟨vb, 0 + j, none⟩ = some u := fun W hW j u hu => by
    match j, hu with
    | 0, hu =>
      rw [(hW.cell (p := ⟨vb, 0 + 0, none⟩) (heap_lt hvb)), mx_cell hvb]
      exact hu
  have hvs0 := hvs w (Below.refl _ _)
  have h1v : ∀ u ∈ [Value.int .i64 x], u.oneCell' = true := fun u hu => by rw [List.mem_singleton.1 hu]; rfl
  obtain ⟨i, hi⟩ : ∃ i, r.countP (· < x) = i := ⟨_, rfl⟩
  have hil : i ≤ r.length := by rw [← hi]; exact countP_le_len r x
  obtain ⟨n, hn⟩ : ∃ n, r.length = n := ⟨_, rfl⟩
  have hget : ∀ j y, r[j]? = some y → (r.map (Value.int .i64))[j]? = some (Value.int .i64 y) := fun j y hj => by rw [List.getElem?_map, hj]; rfl
  have hml : (r.map (Value.int .i64)).length = n := by rw [List.length_map, hn]
  rw [hi]
  rw [hn] at h hl hil ⊢
  -- a new block, all of its cells written
  have fresh : ∀ (W : World) (cur : Array Value) (c : Nat), W.heap[w.heap.size]? = some (.cells cur 3 (0, 0)) → cur.size = c → n + 1 ≤ c → c ≤ maxLen → (∀ j y, j < i → r[j]? = some y → W.cell? ⟨w.heap.size, j, none⟩ = some (.int .i64 y)) → W.cell? ⟨w.heap.size, i, none⟩ = some (.int .i64 x) → (∀ j y, i ≤ j → r[j]? = some y → W.cell? ⟨w.heap.size, j + 1, none⟩ = some (.int .i64 y)) →
      W.ownsRow base 3 1 (.slice (some ⟨w.heap.size, 0, none⟩) (n + 1) c) (n + 1) ((insI r x).map (Value.int .i64)) := fun W cur c hW hs hc hm h1 h2 h3 =>
    own_insI hW hbase (by omega) hm hs hn hi hil h1 h2 h3
  rcases h.2 with ⟨rfl, h0⟩ | ⟨g, cap, cur, rfl, hb, hg, h1, h2, h3, h4⟩
  · obtain rfl : r = [] := List.eq_nil_of_length_eq_zero (by omega)
    obtain rfl : n = 0 := by rw [← hn]; rfl
    obtain rfl : i = 0 := by omega
    have H := Tryz.slices_Insert_int_end_grow none 0 0 vb 0 1 1 [] [.int .i64 x] w (by omega) (by omega) (by omega) (by decide) rfl rfl (fun _ => rfl) (fun a ha => by cases ha) hvs0 h1v
    refine H.mono ?_
    rintro e w' ⟨rfl, rfl⟩
    have hge := grownCap_ge w 1 0 3
    have hmx := grownCap_le_maxLen w 1 0 3 (by unfold maxLen; omega)
    refine ⟨_, rfl, ?_, (Kept.drew (Kept.refl _ w) 1).alloc _, .inr rfl⟩
    refine fresh _ _ _ (World.alloc_heap_new w.drew _) ?_ hge hmx (fun j y hj => by omega) ?_ (fun j y _ hj => by simp at hj)
    · rw [Array.size_append, zero_size]
      simp
      omega
    · rw [show w.heap.size = w.drew.heap.size from rfl, cell_new, Array.getElem?_append_left (by simp)]
      rfl
  · have hcell : ∀ (W : World), Below w.heap.size w W → ∀ j y, r[j]? = some y → W.cell? ⟨g, j, none⟩ = some (.int .i64 y) := fun W hW j y hj => (hW.cell (p := ⟨g, j, none⟩) (heap_lt hg)).trans (mx_at h (hget j y hj))
    have hcs : ∀ j u, (r.map (Value.int .i64))[j]? = some u → w.cell? ⟨g, 0 + j, none⟩ = some u := fun j u hu => by rw [Nat.zero_add]; exact mx_at h hu
    have hsp : ∀ j, j < cap → (w.cell? ⟨g, j, none⟩).isSome = true := fun j hj => by
      rw [mx_cell hg, Array.getElem?_eq_getElem (by omega)]
      rfl
    have hfz : ∀ j, w.frozen? ⟨g, j, none⟩ = false := fun j => by simp [World.frozen?, hg]
    have hgv : vb ≠ g := fun e => hne (by rw [e]; rfl)
    by_cases hin : i < n
    · by_cases hroom : n + 1 ≤ cap
      · have H := Tryz.slices_Insert_int_shift g 0 n cap i vb 0 1 1 (r.map (Value.int .i64)) [.int .i64 x] w hin (by omega) hroom (by unfold maxLen at h2; omega) hgv hml rfl hcs (fun j hj => by rw [Nat.zero_add]; exact hsp j (by omega)) (fun j _ => by rw [Nat.zero_add]; exact hfz j) hvs0 (ints_one r) h1v 3 3 1 cap (by simp [World.shape?, hvb]) (by simp [World.shape?, hg]; omega) (by omega) (by simp [World.frozen?, hvb]) (by simp [World.frozen?, hvb])
        refine H.mono ?_
        rintro e w' ⟨rfl, rfl⟩
        obtain ⟨c1, hc1, hs1⟩ := block_setCells ((r.map (Value.int .i64)).drop i) (0 + (i + 1)) w.drew cur hg
        obtain ⟨c2, hc2, hs2⟩ := block_setCells [Value.int .i64 x] (0 + i) _ c1 hc1
        have hdl : ((r.map (Value.int .i64)).drop i).length = n - i := by rw [List.length_drop, hml]
        have q1 : ∀ j, j < ((r.map (Value.int .i64)).drop i).length → (w.drew.cell? ⟨g, 0 + (i + 1) + j, none⟩).isSome = true := fun j hj => hsp _ (by omega)
        refine ⟨_, rfl, ?_, ((((Kept.drew (Kept.refl _ w) 1).trans (kept_setCells _ _ _ _) (fun _ _ h => h)).trans (kept_setCells _ _ _ _) (fun _ _ h => h)).mono (fun k _ h => by rw [h]; rfl)), .inl rfl⟩
        refine own_insI hc2 hb (by omega) h2 (by omega) hn hi hil (fun j y hj hy => ?_) ?_ (fun j y hj hy => ?_)
        · rw [World.cell?_setCells_out _ _ _ _ _ (fun _ _ => .inl (by show j < 0 + i; omega)), World.cell?_setCells_out _ _ _ _ _ (fun _ _ => .inl (by show j < 0 + (i + 1); omega))]
          exact hcell w.drew (mx_drew w) j y hy
        · have := World.cell?_setCells_in g [Value.int .i64 x] (0 + i) (w.drew.setCells g (0 + (i + 1)) ((r.map (Value.int .i64)).drop i)) (fun j hj => by
            have : j = 0 := by simpa using hj
            subst this
            rw [World.cell?_setCells_out _ _ _ _ _ (fun _ _ => .inl (by show 0 + i + 0 < 0 + (i + 1); omega))]
            exact hsp _ (by omega)) 0 (by simp)
          rw [show 0 + i + 0 = i by omega] at this
          exact this
        · have hjn := (List.getElem?_eq_some_iff.1 hy).1
          have := World.cell?_setCells_in g ((r.map (Value.int .i64)).drop i) (0 + (i + 1)) w.drew q1 (j - i) (by omega)
          rw [World.cell?_setCells_out _ _ _ _ _ (fun _ _ => .inr (by show 0 + i + 1 ≤ j + 1; omega)), show j + 1 = 0 + (i + 1) + (j - i) by omega, this]
          have hm := hget j y hy
          rw [← List.getElem?_eq_getElem, List.getElem?_drop, show i + (j - i) = j by omega, hm]
      · have H := Tryz.slices_Insert_int_grow g 0 n cap i vb 0 1 1 (r.map (Value.int .i64)) [.int .i64 x] w hin (by omega) h1 (by omega) (by omega) hml rfl hcs hvs0 (ints_one r) h1v
        refine H.mono ?_
        rintro e w' ⟨rfl, rfl⟩
        have hge := grownCap_ge w (n + 1) cap 3
        have hmx := grownCap_le_maxLen w (n + 1) cap 3 (by unfold maxLen; omega)
        obtain ⟨G, hG⟩ : ∃ G, grownCap w (n + 1) cap 3 = G := ⟨_, rfl⟩
        rw [hG] at hge hmx ⊢
        obtain ⟨C, hC⟩ : ∃ C, ((r.map (Value.int .i64)).take i).toArray ++ Builtin.zeroCells (Value.int .i64 0).cells (n + 1 - i) ++ Builtin.zeroCells (Value.int .i64 0).cells (G - (n + 1)) = C := ⟨_, rfl⟩
        have hCs : C.size = G := by
          rw [← hC, Array.size_append, Array.size_append, zero_size, zero_size]
          simp
          omega
        have hCx : ∀ j y, j < i → r[j]? = some y → C[j]? = some (Value.int .i64 y) := fun j y hj hy => by
          have hjn := (List.getElem?_eq_some_iff.1 hy).1
          rw [← hC, Array.append_assoc, Array.getElem?_append_left (by simp; omega)]
          rw [List.getElem?_toArray, List.getElem?_take, if_pos hj]
          exact hget j y hy
        rw [hC]
        obtain ⟨W0, hW0⟩ : ∃ W, w.alloc (.cells C 3) = W := ⟨_, rfl⟩
        have hb0 : Below w.heap.size w W0 := by rw [← hW0]; exact mx_al _ _
        have hg0 : W0.heap[w.heap.size]? = some (.cells C 3 (0, 0)) := by rw [← hW0]; exact World.alloc_heap_new _ _
        rw [hW0]
        obtain ⟨c1, hc1, hs1⟩ := block_setCells [Value.int .i64 x] i W0.drew C hg0
        obtain ⟨c2, hc2, hs2⟩ := block_setCells ((r.map (Value.int .i64)).drop i) (i + 1) _ c1 (show (W0.drew.setCells w.heap.size i [.int .i64 x]).drew.heap[w.heap.size]? = _ from hc1)
        have hdl : ((r.map (Value.int .i64)).drop i).length = n - i := by rw [List.length_drop, hml]
        have hs0 : ∀ j, j < G → (W0.drew.cell? ⟨w.heap.size, j, none⟩).isSome = true := fun j hj => by
          rw [show W0.drew.cell? ⟨w.heap.size, j, none⟩ = C[j]? from mx_cell (w := W0.drew) hg0, Array.getElem?_eq_getElem (by omega)]
          rfl
        have hs1' : ∀ j, j < G → ((W0.drew.setCells w.heap.size i [.int .i64 x]).drew.cell? ⟨w.heap.size, j, none⟩).isSome = true := fun j hj => World.isSome_setCells w.heap.size [Value.int .i64 x] i W0.drew ⟨w.heap.size, j, none⟩ (hs0 j hj)
        have hkb : Below w.heap.size w ((W0.drew.setCells w.heap.size i [.int .i64 x]).drew.setCells w.heap.size (i + 1) ((r.map (Value.int .i64)).drop i)) :=
          ((hb0.drew.trans ((kept_setCells _ _ _ _).below (fun k e => by omega) (by show w.heap.size ≤ W0.heap.size; exact hb0.size))).drew).trans ((kept_setCells _ _ _ _).below (fun k e => by omega) (by show w.heap.size ≤ (W0.drew.setCells w.heap.size i [.int .i64 x]).heap.size; have := (kept_setCells W0.drew w.heap.size i [.int .i64 x]).size; have h0 : w.heap.size ≤ W0.drew.heap.size := hb0.size; omega))
        refine ⟨_, rfl, ?_, Kept.of_below hkb, .inr rfl⟩
        refine fresh _ c2 G hc2 (by omega) hge hmx (fun j y hj hy => ?_) ?_ (fun j y hj hy => ?_)
        · rw [World.cell?_setCells_out _ _ _ _ _ (fun _ _ => .inl (by show j < i + 1; omega))]
          show (W0.drew.setCells w.heap.size i [.int .i64 x]).cell? _ = _
          rw [World.cell?_setCells_out _ _ _ _ _ (fun _ _ => .inl (by show j < i; omega)), show W0.drew.cell? ⟨w.heap.size, j, none⟩ = C[j]? from mx_cell (w := W0.drew) hg0]
          exact hCx j y hj hy
        · rw [World.cell?_setCells_out _ _ _ _ _ (fun _ _ => .inl (by show i < i + 1; omega))]
          have := World.cell?_setCells_in w.heap.size [Value.int .i64 x] i W0.drew (fun j hj => hs0 _ (by simp at hj; omega)) 0 (by simp)
          exact this
        · have hjn := (List.getElem?_eq_some_iff.1 hy).1
          have := World.cell?_setCells_in w.heap.size ((r.map (Value.int .i64)).drop i) (i + 1) (W0.drew.setCells w.heap.size i [.int .i64 x]).drew (fun j hj => hs1' _ (by omega)) (j - i) (by omega)
          rw [show j + 1 = i + 1 + (j - i) by omega, this]
          have hm := hget j y hy
          rw [← List.getElem?_eq_getElem, List.getElem?_drop, show i + (j - i) = j by omega, hm]
    · obtain rfl : i = n := by omega
      by_cases hroom : i + 1 ≤ cap
      · have H := Tryz.slices_Insert_int_end_room g 0 i cap vb 0 1 1 [.int .i64 x] w (by omega) hroom (by unfold maxLen at h2; omega) rfl (fun j hj => hsp _ (by omega)) (fun j _ => hfz _) hvs0 h1v
        refine H.mono ?_
        rintro e w' ⟨rfl, rfl⟩
        obtain ⟨c2, hc2, hs2⟩ := block_setCells [Value.int .i64 x] (0 + i) _ cur hg
        refine ⟨_, rfl, ?_, (kept_setCells _ _ _ _).mono (fun k _ h => by rw [h]; rfl), .inl rfl⟩
        refine own_insI hc2 hb (by omega) h2 (by omega) hn hi hil (fun j y hj hy => ?_) ?_ (fun j y hj hy => ?_)
        · rw [World.cell?_setCells_out _ _ _ _ _ (fun _ _ => .inl (by show j < 0 + i; omega))]
          exact hcell w (Below.refl _ _) j y hy
        · have := World.cell?_setCells_in g [Value.int .i64 x] (0 + i) w (fun j hj => hsp _ (by simp at hj; omega)) 0 (by simp)
          rw [show 0 + i + 0 = i by omega] at this
          exact this
        · have hjn := (List.getElem?_eq_some_iff.1 hy).1
          omega
      · have H := Tryz.slices_Insert_int_end_grow (some ⟨g, 0, none⟩) i cap vb 0 1 1 (r.map (Value.int .i64)) [.int .i64 x] w (by omega) h1 (by omega) (by omega) hml rfl (fun h => by cases h) (fun a ha j u hu => by
          obtain rfl := Option.some.inj ha
          rw [addr_add2]
          exact hcs j u hu) hvs0 h1v
        refine H.mono ?_
        rintro e w' ⟨rfl, rfl⟩
        have hge := grownCap_ge w (i + 1) cap 3
        have hmx := grownCap_le_maxLen w (i + 1) cap 3 (by unfold maxLen; omega)
        refine ⟨_, rfl, ?_, (Kept.drew (Kept.refl _ w) 1).alloc _, .inr rfl⟩
        refine fresh _ _ _ (World.alloc_heap_new w.drew _) ?_ hge hmx (fun j y hj hy => ?_) ?_ (fun j y hj hy => ?_)
        · rw [Array.size_append, zero_size]
          simp
          omega
        · have hjn := (List.getElem?_eq_some_iff.1 hy).1
          rw [show w.heap.size = w.drew.heap.size from rfl, cell_new, Array.getElem?_append_left (by simp; omega), List.getElem?_toArray, List.getElem?_append_left (by simp; omega)]
          exact hget j y hy
        · rw [show w.heap.size = w.drew.heap.size from rfl, cell_new, Array.getElem?_append_left (by simp; omega), List.getElem?_toArray, List.getElem?_append_right (by omega), hml, Nat.sub_self]
          rfl
        · have hjn := (List.getElem?_eq_some_iff.1 hy).1
          omega
end Go.Proofs.YtobcnejecogfoaaGreat
