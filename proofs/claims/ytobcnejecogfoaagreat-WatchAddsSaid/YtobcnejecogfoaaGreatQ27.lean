/- The watch: By. The watch: Back. The watch: New. The trail: New. Clauses in memory. An arena and a trail that are apart, in own blocks; clauses added, calls played. -/
import Derived.Test.YtobcnejecogfoaaGreatQ26
import Derived.Test.YtobcnejecogfoaaGreatQ05
import Derived.Laws.OwnMore
import Derived.Test.YtobcnejecogfoaaGreatQ00
import Derived.Test.YtobcnejecogfoaaGreatQ18
namespace Go.Proofs.YtobcnejecogfoaaGreat
open Go.RowKit Go.Maps Go.Shelf

theorem wa_by_none (b ab tb : Nat) (A : Arn) (T : Trl) (S : Wst) (id : Int) (w : World) (lab : Nat → Nat) (h : SysAt w lab b ab tb A T S) (hwf : (Lit.int .i64 id).wf = true) (hk : S.kn id = none) :
    Calls Tryz.prog 35 #[.pointer (some ⟨b, 0, none⟩), .int .i64 id] w fun e w' => e = .returned (.tuple #[.slice none 0 0, .int .i64 130]) ∧ w = w' := by
  obtain ⟨hb, kb, ob, K, F, tg, hm⟩ := h.wa
  have c2 : w.cell? ⟨b, 2, none⟩ = some (.map (some kb)) := mx_cell (j := 2) hm.block
  have hlk := hm.lookK hwf
  rw [(hm.knNone hk).2] at hlk
  clear h hb hm hk
  go_enter Tryz.func35, Tryz.ntmps35
  go_wp2_with fail
  go_ret2
  exact ⟨rfl, rfl⟩
set_option maxRecDepth 100000 in
set_option maxHeartbeats 4000000 in
theorem wa_by (b ab tb : Nat) (A : Arn) (T : Trl) (S : Wst) (id : Int) (k : Kn) (w : World) (lab : Nat → Nat) (h : SysAt w lab b ab tb A T S) (hwf : (Lit.int .i64 id).wf = true) (hk : S.kn id = some k) :
    Calls Tryz.prog 35 #[.pointer (some ⟨b, 0, none⟩), .int .i64 id] w fun e w' => ∃ v, e = .returned (.tuple #[v, .int .i64 0]) ∧ w'.ownsRow w.heap.size 39 1 v (k.lits.filter k.by_.contains).length ((k.lits.filter k.by_.contains).map (Value.int .i64)) ∧ Below w.heap.size w w' := by
  obtain ⟨i0, hi, hz0, hz1, hz2⟩ := info_parts cinfo_lit
  obtain ⟨hb, kb, ob, K, F, tg, hm⟩ := h.wa
  have c2 : w.cell? ⟨b, 2, none⟩ = some (.map (some kb)) := mx_cell (j := 2) hm.block
  have hlk := hm.lookK hwf
  obtain ⟨x, hx, hxk, hkx, hkv⟩ := hm.knAt hk
  rw [hkv] at hlk
  have hkb := hb.kn hk
  have hblk := hkx.block
  have hltx := heap_lt hblk
  have hby := hkx.by_
  have hlv := hkx.ls
  rw [hxk] at hby hlv
  obtain ⟨Ab, cb, hbv, _⟩ := mx_slice hby
  obtain ⟨Al, cl, hlvv, _⟩ := mx_slice hlv
  rw [hbv] at hby hblk
  rw [hlvv] at hlv hblk
  obtain ⟨c, hc⟩ : ∃ c, k.lits = c := ⟨_, rfl⟩
  obtain ⟨bs, hbs⟩ : ∃ c, k.by_ = c := ⟨_, rfl⟩
  have hcl : c.length ≤ 4096 := by rw [← hc]; exact hkb.2.2.1
  have hbl : bs.length ≤ 2 := by
    rw [← hbs]
    rcases hkb.2.1 with h | ⟨_, _, _, h, _⟩ <;> rw [h] <;> simp
  rw [hc] at hlv hblk
  rw [hbs] at hby hblk
  rw [hc, hbs]
  obtain ⟨n, hn⟩ : ∃ n, c.length = n := ⟨_, rfl⟩
  obtain ⟨m, hm2⟩ : ∃ n, bs.length = n := ⟨_, rfl⟩
  rw [hn] at hlv hblk hcl
  rw [hm2] at hby hblk
  have HOW := Lib.hid hlv
  have HBY := Lib.hid hby
  have HBK := Lib.hid hblk
  have HN := Lib.hid hn
  have HML := Lib.hid hm2
  have d1 : w.cell? ⟨x.g, 1, none⟩ = some (.slice Al n cl) := mx_cell (j := 1) hblk
  clear h hb hm hk hx hxk hkx hkv hkb hblk hby hlv hbv hlvv hc hbs hn hm2
  go_enter Tryz.func35, Tryz.ntmps35
  go_wp2_with fail
  go_loopw [7, 25] (fun ov iv wq => ∃ j : Nat, j ≤ n ∧ iv = .int .i64 j ∧ Hid (wq.ownsRow w.heap.size 39 1 ov ((c.take j).filter bs.contains).length (((c.take j).filter bs.contains).map (Value.int .i64))) ∧ Hid (Below w.heap.size w wq)) (fun _ iv _ => n - (intOf iv).toNat)
  case atStart => exact ⟨0, Nat.zero_le _, rfl, Lib.hid (World.ownsRow_nil _ _ _ _), Lib.hid (Below.refl _ _)⟩
  case round =>
    obtain ⟨j, hj, rfl, HO, HBQ⟩ := hrel
    clear d1 c2 hlk
    by_cases hlt : j < n
    · obtain ⟨y, hy⟩ := getElem_of (l := c) (i := j) (by rw [HN.out]; exact hlt)
      obtain ⟨g, cap, hv, hg, e0⟩ := own_get (by rw [HN.out]; exact HOW.out) hy
      simp only [Value.slice.injEq] at hv
      obtain ⟨rfl, hnx, rfl⟩ := hv
      clear hnx
      have e1 := (HBQ.out.cell (p := ⟨g, j, none⟩) hg).trans e0
      have d0 : wr.cell? ⟨x.g, 0, none⟩ = some (.slice Ab m cb) := mx_cell (j := 0) ((HBQ.out.block _ hltx).trans HBK.out)
      have hfl := List.length_filter_le bs.contains (c.take j)
      rw [List.length_take] at hfl
      have hsn : (c.take (j + 1)).filter bs.contains = if bs.contains y = true then (c.take j).filter bs.contains ++ [y] else (c.take j).filter bs.contains := by
        rw [show c.take (j + 1) = c.take j ++ [y] from by rw [List.take_add_one, hy]; rfl, List.filter_append]
        by_cases hq : bs.contains y = true
        · rw [if_pos hq, List.filter_cons_of_pos hq]; rfl
        · rw [if_neg hq, List.filter_cons_of_neg hq]; exact List.append_nil _
      obtain ⟨xs, hxs⟩ : ∃ z, (c.take j).filter bs.contains = z := ⟨_, rfl⟩
      rw [hxs] at HO hfl hsn
      obtain ⟨Ao, co, rfl, _⟩ := mx_slice HO.out
      have HCT := Lib.hid (contains_l (.slice Ab m cb) bs y wr (by have h2 := IntsIn.of_own (show wr.ownsRow 0 39 1 (.slice Ab m cb) bs.length (bs.map (Value.int .i64)) from by rw [HML.out]; exact own_below HBY.out HBQ.out); exact h2) (by omega))
      have hz := HBQ.out.size
      obtain ⟨q, hq⟩ : ∃ q, bs.contains y = q := ⟨_, rfl⟩
      rw [hq] at hsn HCT
      clear hy e0 hxs hq
      cases q with
      | false =>
        have HSN := Lib.hid (show (c.take (j + 1)).filter bs.contains = xs from hsn)
        clear hsn
        go_wp2_with fail
        refine HCT.out.mono ?_
        rintro e w1 ⟨rfl, rfl⟩
        go_wp2_with fail
        go_roundw
        case rel =>
          refine ⟨j + 1, by omega, by go_num, ?_, HBQ⟩
          rw [HSN.out]
          exact HO
        case measure => simp [intOf]; omega
      | true =>
        have HSN := Lib.hid (show (c.take (j + 1)).filter bs.contains = xs ++ [y] from hsn)
        clear hsn
        go_wp2_with fail
        refine HCT.out.mono ?_
        rintro e w1 ⟨rfl, rfl⟩
        go_wp2_with (at_builtin; refine wpList_append_own_at _ rfl _ _ 40 rfl w.heap.size 39 i0 (.int .i64 0) 1 8 Tryz.underlying40 hi hz0 hz1 hz2 rfl (by decide) _ xs.length _ rfl (own_below HO.out (mx_al wr _)) ⟨wr.heap.size, 0, none⟩ 1 1 [.int .i64 y] rfl rfl (cell_one_new' _ _ _) (by simp [Value.oneCell']) (by unfold maxLen; omega) (by omega) (by simp; omega) ?_; intro v' w2' hown hgrow hnl2 hat)
        have HO2' := Lib.hid hown
        have HB2' := Lib.hid (HBQ.out.trans (((mx_al wr (.cells #[.int .i64 y] 39)).mono hz).grown hgrow (by simp; omega) (fun g hg => (own_lt HO.out g hg).1)))
        clear hown hgrow hnl2 hat
        go_wp2
        go_roundw
        case rel =>
          refine ⟨j + 1, by omega, by go_num, ?_, HB2'⟩
          rw [HSN.out, List.length_append, List.map_append]
          exact HO2'
        case measure => simp [intOf]; omega
    · obtain rfl : j = n := by omega
      have ho := HO.out
      rw [List.take_of_length_le (by rw [HN.out]; exact Nat.le_refl _)] at ho
      obtain ⟨Ao, co, rfl, _⟩ := mx_slice ho
      have HO2 := Lib.hid ho
      clear ho
      go_wp2_with fail
      go_ret2
      exact ⟨_, rfl, HO2.out, HBQ.out⟩
end Go.Proofs.YtobcnejecogfoaaGreat
namespace Go.Proofs.YtobcnejecogfoaaGreat
open Go.RowKit Go.Maps Go.Shelf

theorem free_at {w : World} {b j : Nat} {cs : Array Value} {t : TypeId} (h : w.heap[b]? = some (.cells cs t (0, 0))) : w.frozen? ⟨b, j, none⟩ = false := free_of_block h
set_option maxRecDepth 100000 in
set_option maxHeartbeats 4000000 in
theorem wa_back (b ab tb : Nat) (A : Arn) (T T2 : Trl) (S : Wst) (j : Int) (er : Int) (w : World) (lab : Nat → Nat) (h : SysAt w lab b ab tb A T S)
    (hc : Calls Tryz.prog 54 #[.pointer (some ⟨tb, 0, none⟩), .int .i64 j] w fun r w' => r = .returned (.int .i64 er) ∧ TrNext (fun g => lab g = 2) w w' tb T2) :
    Calls Tryz.prog 17 #[.pointer (some ⟨b, 0, none⟩), .int .i64 j] w fun r w' => r = .returned (.int .i64 er) ∧ SysNext w w' lab b ab tb A T2 ⟨S.known, S.of, min S.looked T2.order.length⟩ := by
  have c1 := h.c1
  obtain ⟨n, hn1⟩ : ∃ n, S.looked = n := ⟨_, rfl⟩
  obtain ⟨m, hm1⟩ : ∃ m, T2.order.length = m := ⟨_, rfl⟩
  rw [hn1, hm1]
  have HM := Lib.hid hm1
  have HN := Lib.hid hn1
  clear hn1 hm1
  have HS := Lib.hid h
  have HC := Lib.hid hc
  clear h hc
  go_enter Tryz.func17, Tryz.ntmps17
  go_wp2_with fail
  refine HC.out.mono ?_
  rintro e X ⟨rfl, hn⟩
  obtain ⟨lab1, hsy, hl1⟩ := HS.out.tr_next hn
  have HSY := Lib.hid hsy
  have HL1 := Lib.hid hl1
  have HC1 := Lib.hid hsy.c1
  have HC4 := Lib.hid hsy.c4
  have hbl : b < X.heap.size := World.block_lt_of_cell? X _ hsy.c1
  rw [HN.out] at HC4
  clear hn hsy hl1 c1
  go_upto_region 4 with fail
  refine wp_region_sink_at (fun w' => Below X.heap.size X w') (by kernel_rfl) (by rfl) (by kernel_rfl) (mx_drew X) (fun hS => ?_)
  refine takeE 0 14 ?_
  refine takeE 1 15 ?_
  refine takeE 2 16 ?_
  refine takeE 3 17 ?_
  refine takeF 4 18 (fun wq hSw => (hSw.cell (p := ⟨b, 4, none⟩) hbl).trans HC4.out) ?_
  refine takeE 5 19 ?_
  refine takeE 6 20 ?_
  refine takeE 7 21 ?_
  refine takeF 8 22 (fun wq hSw => (hSw.cell (p := ⟨b, 1, none⟩) hbl).trans HC1.out) ?_
  refine ready1 9 (fun K hK => ?_)
  go_simp
  refine (tr_len tb T2 _ (HSY.out.tr.below hS)).mono ?_
  rintro e w' ⟨rfl, rfl⟩
  rw [HM.out]
  refine hK.out _ _ hS (fun _ => ?_)
  clear hK
  refine takeE 10 24 ?_
  refine takeE 11 25 ?_
  refine takeE 12 26 ?_
  refine wpAnyH_done (by kernel_rfl) ?_ _
  refine lastPost_normal ?_
  have d4 := (hS.cell (p := ⟨b, 4, none⟩) hbl).trans HC4.out
  obtain ⟨kb2, ob2, hbx⟩ := (HSY.out.below hS).box
  have f4 := free_at (j := 4) hbx
  clear hbx
  refine wpOp_step rfl (fun KK hKK => ?_)
  go_simp
  refine hKK _ _ ?_
  clear hKK d4 f4
  go_wp2_with fail
  go_ret
  have hz := (HSY.out.setLooked (min n m)).after (mx_drew _)
  refine ⟨rfl, ?_⟩
  have := SysNext.trans HL1.out hz
  have e : ((min n m : Nat) : Int) = min (n : Int) (m : Int) := by omega
  rwa [e] at this
end Go.Proofs.YtobcnejecogfoaaGreat
namespace Go.Proofs.YtobcnejecogfoaaGreat
open Go.RowKit Go.Maps Go.Shelf

/-- how labels go on behind New -/
def labNew (w : World) (lab : Nat → Nat) (g : Nat) : Nat := if g < w.heap.size then lab g else if g < w.heap.size + 3 then 3 else 0
theorem Labs.made {w w' : World} {lab : Nat → Nat} (hb : Below w.heap.size w w') : Labs lab (labNew w lab) w w' :=
  ⟨Kept.of_below hb, fun _ hg => if_pos hg⟩
set_option maxRecDepth 100000 in
set_option maxHeartbeats 2000000 in
theorem wa_new (ab tb : Nat) (w : World) :
    Calls Tryz.prog 24 #[.pointer (some ⟨ab, 0, none⟩), .pointer (some ⟨tb, 0, none⟩)] w fun e w' => e = .returned (.tuple #[.pointer (some ⟨w.heap.size + 2, 0, none⟩), .int .i64 0]) ∧ w' = ((w.alloc (.map #[] 0)).alloc (.map #[] 0)).alloc (.cells #[.pointer (some ⟨ab, 0, none⟩), .pointer (some ⟨tb, 0, none⟩), .map (some w.heap.size), .map (some (w.heap.size + 1)), .int .i64 0] 88) := by
  have hmm := @run_makeMap Tryz.prog
  go_enter Tryz.func24, Tryz.ntmps24
  go_wp2
  go_ret2
  exact ⟨rfl, rfl⟩
end Go.Proofs.YtobcnejecogfoaaGreat
namespace Go.Proofs.YtobcnejecogfoaaGreat
open Go.RowKit

theorem tinfo_state : (Tryz.prog.info? 110).map (fun i => (i.zero, i.size, i.bytes)) = some (some (.agg #[.int .i64 0, .int .i64 0, .int .i64 0, .int .i64 0]), 4, 32) := by kernel_rfl
theorem made_state (m : Nat) : (madeCells (Value.agg #[.int .i64 0, .int .i64 0, .int .i64 0, .int .i64 0]).cells (m * 4)).toList = (List.replicate m (⟨0, 0, 0, 0⟩ : TV)).flatMap TV.cells := by
  apply List.ext_getElem?
  intro q
  rw [tvCells_div, List.getElem?_replicate, Array.getElem?_toList]
  have hz : (Value.agg #[.int .i64 0, .int .i64 0, .int .i64 0, .int .i64 0]).cells = #[.int .i64 0, .int .i64 0, .int .i64 0, .int .i64 0] := rfl
  rw [hz]
  unfold madeCells
  rw [Array.getElem?_map]
  by_cases hq : q < m * 4
  · rw [if_pos (show q / 4 < m by omega), Array.getElem?_range, if_pos hq]
    have h4 : q % 4 = 0 ∨ q % 4 = 1 ∨ q % 4 = 2 ∨ q % 4 = 3 := by omega
    rcases h4 with e | e | e | e
    all_goals
      show some (#[Value.int .i64 0, .int .i64 0, .int .i64 0, .int .i64 0][q % 4]!) = _
      rw [e]
      rfl
  · rw [if_neg (show ¬ q / 4 < m by omega), Array.getElem?_range, if_neg hq]
    rfl
set_option maxRecDepth 100000 in
set_option maxHeartbeats 1000000 in
theorem tr_new (n : Nat) (w : World) (hn : n ≤ 1048576) :
    Calls Tryz.prog 61 #[.int .i64 (n : Int)] w fun e w' => ∃ b, e = .returned (.tuple #[.pointer (some ⟨b, 0, none⟩), .int .i64 0]) ∧ TrAt (fun g => w.heap.size ≤ g ∧ g < w'.heap.size) w' b ⟨List.replicate (n + 1) ⟨0, 0, 0, 0⟩, [], [0]⟩ ∧ Below w.heap.size w w' := by
  have q0 : decide ((n : Int) < 0) = false := by simp
  have q1 : decide ((1048576 : Int) < (n : Int)) = false := by simp; omega
  obtain ⟨i0, hi0, hz0, hz1, hz2⟩ := info_parts tinfo_state
  obtain ⟨w1, hrun, hown, hgr⟩ := run_make_full (P := Tryz.prog) (w := w) w.heap.size 89 110 i0 _ 4 Tryz.underlying89 hi0 hz0 hz1 .i64 .i64 (n + 1) (by rw [hz2]; omega) (by unfold maxLen; omega) (Nat.le_refl _)
  rw [made_state] at hown
  rw [show ((n + 1 : Nat) : Int) = (n : Int) + 1 from by omega] at hrun
  have hk1 : Below w.heap.size w w1 := (Below.refl _ _).grown hgr (Nat.le_refl _) (fun g hg => by cases hg)
  have HOWN := Lib.hid hown
  have HK1 := Lib.hid hk1
  have hz := hk1.size
  have hg1 := (own_lt hown w.heap.size rfl).2
  clear hown hgr hk1 hi0 hz0 hz1 hz2
  clear i0
  go_enter Tryz.func61, Tryz.ntmps61
  go_wp2_with fail
  obtain ⟨w2, hw2⟩ : ∃ x, w1.alloc (.cells #[.int .i64 0] 3) = x := ⟨_, rfl⟩
  have hb2 : Below w1.heap.size w1 w2 := by rw [← hw2]; exact mx_al _ _
  have ho2 : w2.ownsRow 0 3 1 (.slice (some ⟨w1.heap.size, 0, none⟩) 1 1) 1 [.int .i64 0] := by
    rw [← hw2]
    exact ⟨rfl, .inr ⟨w1.heap.size, 1, #[.int .i64 0], rfl, Nat.zero_le _, World.alloc_heap_new _ _, Nat.le_refl _, by decide, rfl, rfl⟩⟩
  have hz2 : w2.heap.size = w1.heap.size + 1 := by rw [← hw2]; simp
  obtain ⟨w3, hw3⟩ : ∃ x, w2.alloc (.cells #[.slice (some ⟨w.heap.size, 0, none⟩) (n + 1) (n + 1), .slice none 0 0, .slice (some ⟨w1.heap.size, 0, none⟩) 1 1, .bool true] 91) = x := ⟨_, rfl⟩
  have hb3 : Below w2.heap.size w2 w3 := by rw [← hw3]; exact mx_al _ _
  have hn3 : w3.heap[w2.heap.size]? = some (.cells #[.slice (some ⟨w.heap.size, 0, none⟩) (n + 1) (n + 1), .slice none 0 0, .slice (some ⟨w1.heap.size, 0, none⟩) 1 1, .bool true] 91 (0, 0)) := by rw [← hw3]; exact World.alloc_heap_new _ _
  have hz3 : w3.heap.size = w2.heap.size + 1 := by rw [← hw3]; simp
  rw [hw2, hw3]
  go_ret2
  refine ⟨w2.heap.size, by rw [hz2]; rfl, ⟨⟨?_, by simp, by simp, fun s hs => ?_⟩, w.heap.size, n + 1, .slice none 0 0, .slice (some ⟨w1.heap.size, 0, none⟩) 1 1, ⟨fun g hg => hg.2, ⟨by omega, by omega⟩, ⟨Nat.le_refl _, by omega⟩, ?_, ?_, World.ownsRow_nil _ _ _ _, (fun g hg => by cases hg), own_below ho2 hb3, fun g hg => ?_⟩⟩, HK1.out.trans ((hb2.trans (hb3.mono hb2.size)).mono HK1.out.size)⟩
  · show 1 ≤ (List.replicate (n + 1) _).length ∧ (List.replicate (n + 1) _).length ≤ 1048577
    rw [List.length_replicate]
    omega
  · rw [List.eq_of_mem_replicate hs]
    exact .inl rfl
  · show w3.heap[w2.heap.size]? = some (.cells #[.slice _ (List.replicate (n + 1) _).length _, _, _, _] _ _)
    rw [List.length_replicate]
    exact hn3
  · show w3.ownsRow 0 _ 4 (.slice _ (List.replicate (n + 1) _).length _) (List.replicate (n + 1) _).length _
    rw [List.length_replicate]
    exact own_mono (own_below (own_below HOWN.out hb2) hb3) (Nat.zero_le _)
  · obtain rfl : w1.heap.size = g := Option.some.inj hg
    omega
end Go.Proofs.YtobcnejecogfoaaGreat
namespace Go.Proofs.YtobcnejecogfoaaGreat
open Go.RowKit

/-- clauses in memory -/
def ClsAt (w : World) (v : Value) (cs : List (List Int)) : Prop :=
  ∃ A c, v = .slice A cs.length c ∧ ∀ i xs, cs[i]? = some xs → ∃ g o u, A = some ⟨g, o, none⟩ ∧ g < w.heap.size ∧ w.cell? ⟨g, o + i, none⟩ = some u ∧ IntsIn (fun g => g < w.heap.size) w u xs
theorem ClsAt.below {w w' : World} {v : Value} {cs : List (List Int)} (h : ClsAt w v cs) (hb : Below w.heap.size w w') : ClsAt w' v cs := by
  obtain ⟨A, c, hv, hx⟩ := h
  refine ⟨A, c, hv, fun i xs hi => ?_⟩
  obtain ⟨g, o, u, h1, h2, h3, h4⟩ := hx i xs hi
  exact ⟨g, o, u, h1, Nat.lt_of_lt_of_le h2 hb.size, (hb.cell (p := ⟨g, o + i, none⟩) h2).trans h3, (h4.below hb).mono (fun g hg => Nat.lt_of_lt_of_le hg hb.size)⟩
theorem ClsAt.nil (w : World) : ClsAt w (.slice none 0 0) [] := ⟨none, 0, rfl, fun i xs h => by simp at h⟩
end Go.Proofs.YtobcnejecogfoaaGreat
namespace Go.Proofs.YtobcnejecogfoaaGreat
open Go.RowKit

/-- a call of a trail -/
structure ActP where
  push : Bool
  l : Int
  by_ : Int
def ActsIn (w : World) (v : Value) (acs : List ActP) : Prop :=
  ∃ A c, v = .slice A acs.length c ∧ ∀ i a, acs[i]? = some a → ∃ g o, A = some ⟨g, o, none⟩ ∧ g < w.heap.size ∧ w.cell? ⟨g, o + i * 3, none⟩ = some (.bool a.push) ∧ w.cell? ⟨g, o + i * 3 + 1, none⟩ = some (.int .i64 a.l) ∧ w.cell? ⟨g, o + i * 3 + 2, none⟩ = some (.int .i64 a.by_)
theorem ActsIn.below {w w' : World} {v : Value} {acs : List ActP} (h : ActsIn w v acs) (hb : Below w.heap.size w w') : ActsIn w' v acs := by
  obtain ⟨A, c, hv, hx⟩ := h
  refine ⟨A, c, hv, fun i a hi => ?_⟩
  obtain ⟨g, o, h1, h2, h3, h4, h5⟩ := hx i a hi
  exact ⟨g, o, h1, Nat.lt_of_lt_of_le h2 hb.size, (hb.cell (p := ⟨g, o + i * 3, none⟩) h2).trans h3, (hb.cell (p := ⟨g, o + i * 3 + 1, none⟩) h2).trans h4, (hb.cell (p := ⟨g, o + i * 3 + 2, none⟩) h2).trans h5⟩
theorem ActsIn.nil (w : World) : ActsIn w (.slice none 0 0) [] := ⟨none, 0, rfl, fun i xs h => by simp at h⟩
def Arn.put (A : Arn) (id : Int) (c : List Int) : Arn := if clauseB c = true then A.add id c else A
def addAll : Arn → Nat → List (List Int) → Arn
  | A, _, [] => A
  | A, i, c :: cs => addAll (A.put ((i : Int) + 1) c) (i + 1) cs
def Trl.play (T : Trl) (a : ActP) : Trl := if a.push = true then T.push else T.assigned a.l a.by_
def playAll : Trl → List ActP → Trl
  | T, [] => T
  | T, a :: acs => playAll (T.play a) acs
def arn0 : Arn := ⟨[], [], 0, 0, 0⟩
def trl0 (n : Nat) : Trl := ⟨List.replicate (n + 1) ⟨0, 0, 0, 0⟩, [], [0]⟩
structure Arn.Low (A : Arn) (k : Nat) : Prop where
  last : A.last ≤ (k : Int)
  used : A.used ≤ k * 1000
  store : A.store.length ≤ k * 1000
  all : A.all.length ≤ k
  count : A.count ≤ k
theorem Arn.Low.next {A : Arn} {k : Nat} (h : A.Low k) (c : List Int) (hc : c.length ≤ 1000) : (A.put ((k : Int) + 1) c).Low (k + 1) := by
  obtain ⟨h1, h2, h3, h4, h5⟩ := h
  have e : (k + 1) * 1000 = k * 1000 + 1000 := Nat.succ_mul k 1000
  have u1 : A.used + c.length ≤ (k + 1) * 1000 := e ▸ Nat.add_le_add h2 hc
  have u2 : A.store.length + c.length ≤ (k + 1) * 1000 := e ▸ Nat.add_le_add h3 hc
  have v1 : A.used ≤ (k + 1) * 1000 := Nat.le_trans (Nat.le_add_right _ _) u1
  have v2 : A.store.length ≤ (k + 1) * 1000 := Nat.le_trans (Nat.le_add_right _ _) u2
  clear e h2 h3
  unfold Arn.put
  split
  · refine ⟨?_, u1, ?_, ?_, ?_⟩
    · simp [Arn.add]
    · simp only [Arn.add, List.length_append]
      exact u2
    · simp only [Arn.add, List.length_append, List.length_cons, List.length_nil]
      exact Nat.succ_le_succ h4
    · simp only [Arn.add]
      exact Nat.succ_le_succ h5
  · exact ⟨by clear u1 u2 v1 v2; omega, v1, v2, Nat.le_succ_of_le h4, Nat.le_succ_of_le h5⟩
structure Trl.Low (T : Trl) (k : Nat) : Prop where
  order : T.order.length ≤ k
  starts : T.starts.length ≤ k + 1
theorem Trl.Low.next {T : Trl} {k : Nat} (h : T.Low k) (a : ActP) : (T.play a).Low (k + 1) := by
  obtain ⟨h1, h2⟩ := h
  unfold Trl.play
  split
  · exact ⟨by simp only [Trl.push]; omega, by simp only [Trl.push, List.length_append, List.length_cons, List.length_nil]; omega⟩
  · unfold Trl.assigned
    split
    · exact ⟨by simp only [Trl.assign, List.length_append, List.length_cons, List.length_nil]; omega, by simp only [Trl.assign]; omega⟩
    · exact ⟨by omega, by omega⟩
/-- an arena and a trail, apart from each other, in blocks of one's own -/
def PutAt (n : Nat) (w : World) (a b : Nat) (A : Arn) (T : Trl) : Prop :=
  n ≤ w.heap.size ∧ ∃ OA OT : Nat → Prop, ArAt OA w a A ∧ TrAt OT w b T ∧ (∀ g, OA g → n ≤ g) ∧ (∀ g, OT g → n ≤ g) ∧ ∀ g, OA g → ¬ OT g
theorem PutAt.below {n : Nat} {w w' : World} {a b : Nat} {A : Arn} {T : Trl} (h : PutAt n w a b A T) (hb : Below w.heap.size w w') : PutAt n w' a b A T := by
  obtain ⟨h0, OA, OT, h1, h2, h3⟩ := h
  exact ⟨Nat.le_trans h0 hb.size, OA, OT, h1.below hb, h2.below hb, h3⟩
theorem ArAt.own {O : Nat → Prop} {w : World} {a : Nat} {A : Arn} (h : ArAt O w a A) : ∀ g, O g → g < w.heap.size := by
  obtain ⟨_, stv, alv, hm⟩ := h
  exact hm.own
theorem TrAt.own {O : Nat → Prop} {w : World} {b : Nat} {T : Trl} (h : TrAt O w b T) : ∀ g, O g → g < w.heap.size := by
  obtain ⟨_, gv, cv, ov, sv, hm⟩ := h
  exact hm.own
theorem PutAt.arena {n : Nat} {w w' : World} {a b : Nat} {A' : Arn} {T : Trl} {OA OT : Nat → Prop} (h0 : n ≤ w.heap.size) (h2 : TrAt OT w b T) (h3 : ∀ g, OA g → n ≤ g) (h4 : ∀ g, OT g → n ≤ g) (h5 : ∀ g, OA g → ¬ OT g) (k : ArNext OA w w' a A') : PutAt n w' a b A' T ∧ Below n w w' := by
  obtain ⟨hA, hk⟩ := k
  have ho := h2.own
  refine ⟨⟨Nat.le_trans h0 hk.size, _, OT, hA, h2.kept hk (fun g hg ha => h5 g ha hg), fun g hg => ?_, h4, fun g hg ht => ?_⟩, hk.below h3 h0⟩
  · rcases hg with hg | hg
    · exact h3 g hg
    · omega
  · rcases hg with hg | hg
    · exact h5 g hg ht
    · have := ho g ht
      omega
theorem PutAt.trail {n : Nat} {w w' : World} {a b : Nat} {A : Arn} {T' : Trl} {OA OT : Nat → Prop} (h0 : n ≤ w.heap.size) (h2 : ArAt OA w a A) (h3 : ∀ g, OA g → n ≤ g) (h4 : ∀ g, OT g → n ≤ g) (h5 : ∀ g, OA g → ¬ OT g) (k : TrNext OT w w' b T') : PutAt n w' a b A T' ∧ Below n w w' := by
  obtain ⟨hT, hk⟩ := k
  have ho := h2.own
  refine ⟨⟨Nat.le_trans h0 hk.size, OA, _, h2.kept hk h5, hT, h3, fun g hg => ?_, fun g hg ht => ?_⟩, hk.below h4 h0⟩
  · rcases hg with hg | hg
    · exact h4 g hg
    · omega
  · rcases ht with ht | ht
    · exact h5 g hg ht
    · have := ho g hg
      omega
theorem put_add {n : Nat} {w : World} {a b : Nat} {A : Arn} {T : Trl} {k : Nat} (cv : Value) (c : List Int) (h : PutAt n w a b A T) (hl : A.Low k) (hk : k < 1000) (hc : IntsIn (fun g => g < w.heap.size) w cv c) (hcl : c.length ≤ 1000) :
    Calls Tryz.prog 62 #[.pointer (some ⟨a, 0, none⟩), .int .i64 ((k : Int) + 1), cv] w fun e w' => (∃ x : Int, e = .returned (.int .i64 x)) ∧ PutAt n w' a b (A.put ((k : Int) + 1) c) T ∧ Below n w w' := by
  obtain ⟨h0, OA, OT, h1, h2, h3, h4, h5⟩ := h
  obtain ⟨l1, l2, l3, l4, l5⟩ := hl
  cases hr : clauseB c with
  | true =>
    have e : A.put ((k : Int) + 1) c = A.add ((k : Int) + 1) c := by unfold Arn.put; rw [if_pos hr]
    rw [e]
    refine (ar_add a A ((k : Int) + 1) cv c w h1 hc hr (by omega) (by omega) (by omega) (by omega) (by omega) (by omega) (by omega)).mono ?_
    rintro e w' ⟨rfl, hn⟩
    exact ⟨⟨_, rfl⟩, PutAt.arena h0 h2 h3 h4 h5 hn⟩
  | false =>
    have e : A.put ((k : Int) + 1) c = A := by unfold Arn.put; rw [if_neg (by rw [hr]; decide)]
    rw [e]
    refine (ar_add_bad a A ((k : Int) + 1) cv c w h1 hc hr (by omega)).mono ?_
    rintro e w' ⟨rfl, rfl⟩
    exact ⟨⟨_, rfl⟩, ⟨h0, OA, OT, h1, h2, h3, h4, h5⟩, Below.refl _ _⟩
theorem put_push {n : Nat} {w : World} {a b : Nat} {A : Arn} {T : Trl} {k : Nat} (h : PutAt n w a b A T) (hl : T.Low k) (hk : k < 1000) :
    Calls Tryz.prog 25 #[.pointer (some ⟨b, 0, none⟩)] w fun e w' => e = .returned (.int .i64 0) ∧ PutAt n w' a b A T.push ∧ Below n w w' := by
  obtain ⟨h0, OA, OT, h1, h2, h3, h4, h5⟩ := h
  have := hl.starts
  refine (tr_push b T w h2 (by omega)).mono ?_
  rintro e w' ⟨rfl, hn⟩
  exact ⟨rfl, PutAt.trail h0 h1 h3 h4 h5 hn⟩
theorem put_assign {n : Nat} {w : World} {a b : Nat} {A : Arn} {T : Trl} {k : Nat} (l r : Int) (h : PutAt n w a b A T) (hl : T.Low k) (hk : k < 1000) :
    Calls Tryz.prog 27 #[.pointer (some ⟨b, 0, none⟩), .int .i64 l, .int .i64 r] w fun e w' => e = .returned (.int .i64 (T.assignErr l r : Nat)) ∧ PutAt n w' a b A (T.assigned l r) ∧ Below n w w' := by
  obtain ⟨h0, OA, OT, h1, h2, h3, h4, h5⟩ := h
  have := hl.order
  refine (tr_assign b T l r w h2 (by omega)).mono ?_
  rintro e w' ⟨rfl, hn⟩
  exact ⟨rfl, PutAt.trail h0 h1 h3 h4 h5 hn⟩
end Go.Proofs.YtobcnejecogfoaaGreat
