/- The watch: By. The watch: Back. The watch: New. Plain: what an arena returns behind Add and Delete. Rows of integers that came in, and rows of such rows. -/
import Derived.Test.YtobcnejecogfoaaGreatQ28
import Derived.Test.YtobcnejecogfoaaGreatQ24
import Derived.Test.YtobcnejecogfoaaGreatQ00
namespace Go.Proofs.YtobcnejecogfoaaGreat
open Go.RowKit Go.Maps Go.Shelf

theorem wa_by_none (b ab tb : Nat) (A : Arn) (T : Trl) (S : Wst) (id : Int) (w : World) (lab : Nat → Nat) (h : SysAt w lab b ab tb A T S) (hwf : (Lit.int .i64 id).wf = true) (hk : S.kn id = none) :
    Calls Tryz.prog 35 #[.pointer (some ⟨b, 0, none⟩), .int .i64 id] w fun e w' => e = .returned (.tuple #[.slice none 0 0, .int .i64 130]) ∧ w = w' := by
  obtain ⟨hb, kb, ob, K, F, tg, hm⟩ := h.wa
  have c2 : w.cell? ⟨b, 2, none⟩ = some (.map (some kb)) := mx_cell (j := 2) hm.block
  have hlk := hm.lookK hwf
  rw [(hm.knNone hk).2] at hlk
  clear h hb hm hk
  go_enter Tryz.func35, Tryz.ntmps35
  go_wp2_with fail
  go_ret2
  exact ⟨rfl, rfl⟩
set_option maxRecDepth 100000 in
set_option maxHeartbeats 4000000 in
theorem wa_by (b ab tb : Nat) (A : Arn) (T : Trl) (S : Wst) (id : Int) (k : Kn) (w : World) (lab : Nat → Nat) (h : SysAt w lab b ab tb A T S) (hwf : (Lit.int .i64 id).wf = true) (hk : S.kn id = some k) :
    Calls Tryz.prog 35 #[.pointer (some ⟨b, 0, none⟩), .int .i64 id] w fun e w' => ∃ v, e = .returned (.tuple #[v, .int .i64 0]) ∧ w'.ownsRow w.heap.size 39 1 v (k.lits.filter k.by_.contains).length ((k.lits.filter k.by_.contains).map (Value.int .i64)) ∧ Below w.heap.size w w' := by
  obtain ⟨i0, hi, hz0, hz1, hz2⟩ := info_parts cinfo_lit
  obtain ⟨hb, kb, ob, K, F, tg, hm⟩ := h.wa
  have c2 : w.cell? ⟨b, 2, none⟩ = some (.map (some kb)) := mx_cell (j := 2) hm.block
  have hlk := hm.lookK hwf
  obtain ⟨x, hx, hxk, hkx, hkv⟩ := hm.knAt hk
  rw [hkv] at hlk
  have hkb := hb.kn hk
  have hblk := hkx.block
  have hltx := heap_lt hblk
  have hby := hkx.by_
  have hlv := hkx.ls
  rw [hxk] at hby hlv
  obtain ⟨Ab, cb, hbv, _⟩ := mx_slice hby
  obtain ⟨Al, cl, hlvv, _⟩ := mx_slice hlv
  rw [hbv] at hby hblk
  rw [hlvv] at hlv hblk
  obtain ⟨c, hc⟩ : ∃ c, k.lits = c := ⟨_, rfl⟩
  obtain ⟨bs, hbs⟩ : ∃ c, k.by_ = c := ⟨_, rfl⟩
  have hcl : c.length ≤ 4096 := by rw [← hc]; exact hkb.2.2.1
  have hbl : bs.length ≤ 2 := by
    rw [← hbs]
    rcases hkb.2.1 with h | ⟨_, _, _, h, _⟩ <;> rw [h] <;> simp
  rw [hc] at hlv hblk
  rw [hbs] at hby hblk
  rw [hc, hbs]
  obtain ⟨n, hn⟩ : ∃ n, c.length = n := ⟨_, rfl⟩
  obtain ⟨m, hm2⟩ : ∃ n, bs.length = n := ⟨_, rfl⟩
  rw [hn] at hlv hblk hcl
  rw [hm2] at hby hblk
  have HOW := Lib.hid hlv
  have HBY := Lib.hid hby
  have HBK := Lib.hid hblk
  have HN := Lib.hid hn
  have HML := Lib.hid hm2
  have d1 : w.cell? ⟨x.g, 1, none⟩ = some (.slice Al n cl) := mx_cell (j := 1) hblk
  clear h hb hm hk hx hxk hkx hkv hkb hblk hby hlv hbv hlvv hc hbs hn hm2
  go_enter Tryz.func35, Tryz.ntmps35
  go_wp2_with fail
  go_loopw [7, 25] (fun ov iv wq => ∃ j : Nat, j ≤ n ∧ iv = .int .i64 j ∧ Hid (wq.ownsRow w.heap.size 39 1 ov ((c.take j).filter bs.contains).length (((c.take j).filter bs.contains).map (Value.int .i64))) ∧ Hid (Below w.heap.size w wq)) (fun _ iv _ => n - (intOf iv).toNat)
  case atStart => exact ⟨0, Nat.zero_le _, rfl, Lib.hid (World.ownsRow_nil _ _ _ _), Lib.hid (Below.refl _ _)⟩
  case round =>
    obtain ⟨j, hj, rfl, HO, HBQ⟩ := hrel
    clear d1 c2 hlk
    by_cases hlt : j < n
    · obtain ⟨y, hy⟩ := getElem_of (l := c) (i := j) (by rw [HN.out]; exact hlt)
      obtain ⟨g, cap, hv, hg, e0⟩ := own_get (by rw [HN.out]; exact HOW.out) hy
      simp only [Value.slice.injEq] at hv
      obtain ⟨rfl, hnx, rfl⟩ := hv
      clear hnx
      have e1 := (HBQ.out.cell (p := ⟨g, j, none⟩) hg).trans e0
      have d0 : wr.cell? ⟨x.g, 0, none⟩ = some (.slice Ab m cb) := mx_cell (j := 0) ((HBQ.out.block _ hltx).trans HBK.out)
      have hfl := List.length_filter_le bs.contains (c.take j)
      rw [List.length_take] at hfl
      have hsn : (c.take (j + 1)).filter bs.contains = if bs.contains y = true then (c.take j).filter bs.contains ++ [y] else (c.take j).filter bs.contains := by
        rw [show c.take (j + 1) = c.take j ++ [y] from by rw [List.take_add_one, hy]; rfl, List.filter_append]
        by_cases hq : bs.contains y = true
        · rw [if_pos hq, List.filter_cons_of_pos hq]; rfl
        · rw [if_neg hq, List.filter_cons_of_neg hq]; exact List.append_nil _
      obtain ⟨xs, hxs⟩ : ∃ z, (c.take j).filter bs.contains = z := ⟨_, rfl⟩
      rw [hxs] at HO hfl hsn
      obtain ⟨Ao, co, rfl, _⟩ := mx_slice HO.out
      have HCT := Lib.hid (contains_l (.slice Ab m cb) bs y wr (by have h2 := IntsIn.of_own (show wr.ownsRow 0 39 1 (.slice Ab m cb) bs.length (bs.map (Value.int .i64)) from by rw [HML.out]; exact own_below HBY.out HBQ.out); exact h2) (by omega))
      have hz := HBQ.out.size
      obtain ⟨q, hq⟩ : ∃ q, bs.contains y = q := ⟨_, rfl⟩
      rw [hq] at hsn HCT
      clear hy e0 hxs hq
      cases q with
      | false =>
        have HSN := Lib.hid (show (c.take (j + 1)).filter bs.contains = xs from hsn)
        clear hsn
        go_wp2_with fail
        refine HCT.out.mono ?_
        rintro e w1 ⟨rfl, rfl⟩
        go_wp2_with fail
        go_roundw
        case rel =>
          refine ⟨j + 1, by omega, by go_num, ?_, HBQ⟩
          rw [HSN.out]
          exact HO
        case measure => simp [intOf]; omega
      | true =>
        have HSN := Lib.hid (show (c.take (j + 1)).filter bs.contains = xs ++ [y] from hsn)
        clear hsn
        go_wp2_with fail
        refine HCT.out.mono ?_
        rintro e w1 ⟨rfl, rfl⟩
        go_wp2_with (at_builtin; refine wpList_append_own_at _ rfl _ _ 40 rfl w.heap.size 39 i0 (.int .i64 0) 1 8 Tryz.underlying40 hi hz0 hz1 hz2 rfl (by decide) _ xs.length _ rfl (own_below HO.out (mx_al wr _)) ⟨wr.heap.size, 0, none⟩ 1 1 [.int .i64 y] rfl rfl (cell_one_new' _ _ _) (by simp [Value.oneCell']) (by unfold maxLen; omega) (by omega) (by simp; omega) ?_; intro v' w2' hown hgrow hnl2 hat)
        have HO2' := Lib.hid hown
        have HB2' := Lib.hid (HBQ.out.trans (((mx_al wr (.cells #[.int .i64 y] 39)).mono hz).grown hgrow (by simp; omega) (fun g hg => (own_lt HO.out g hg).1)))
        clear hown hgrow hnl2 hat
        go_wp2
        go_roundw
        case rel =>
          refine ⟨j + 1, by omega, by go_num, ?_, HB2'⟩
          rw [HSN.out, List.length_append, List.map_append]
          exact HO2'
        case measure => simp [intOf]; omega
    · obtain rfl : j = n := by omega
      have ho := HO.out
      rw [List.take_of_length_le (by rw [HN.out]; exact Nat.le_refl _)] at ho
      obtain ⟨Ao, co, rfl, _⟩ := mx_slice ho
      have HO2 := Lib.hid ho
      clear ho
      go_wp2_with fail
      go_ret2
      exact ⟨_, rfl, HO2.out, HBQ.out⟩
end Go.Proofs.YtobcnejecogfoaaGreat
namespace Go.Proofs.YtobcnejecogfoaaGreat
open Go.RowKit Go.Maps Go.Shelf

theorem free_at {w : World} {b j : Nat} {cs : Array Value} {t : TypeId} (h : w.heap[b]? = some (.cells cs t (0, 0))) : w.frozen? ⟨b, j, none⟩ = false := free_of_block h
set_option maxRecDepth 100000 in
set_option maxHeartbeats 4000000 in
theorem wa_back (b ab tb : Nat) (A : Arn) (T T2 : Trl) (S : Wst) (j : Int) (er : Int) (w : World) (lab : Nat → Nat) (h : SysAt w lab b ab tb A T S)
    (hc : Calls Tryz.prog 54 #[.pointer (some ⟨tb, 0, none⟩), .int .i64 j] w fun r w' => r = .returned (.int .i64 er) ∧ TrNext (fun g => lab g = 2) w w' tb T2) :
    Calls Tryz.prog 17 #[.pointer (some ⟨b, 0, none⟩), .int .i64 j] w fun r w' => r = .returned (.int .i64 er) ∧ SysNext w w' lab b ab tb A T2 ⟨S.known, S.of, min S.looked T2.order.length⟩ := by
  have c1 := h.c1
  obtain ⟨n, hn1⟩ : ∃ n, S.looked = n := ⟨_, rfl⟩
  obtain ⟨m, hm1⟩ : ∃ m, T2.order.length = m := ⟨_, rfl⟩
  rw [hn1, hm1]
  have HM := Lib.hid hm1
  have HN := Lib.hid hn1
  clear hn1 hm1
  have HS := Lib.hid h
  have HC := Lib.hid hc
  clear h hc
  go_enter Tryz.func17, Tryz.ntmps17
  go_wp2_with fail
  refine HC.out.mono ?_
  rintro e X ⟨rfl, hn⟩
  obtain ⟨lab1, hsy, hl1⟩ := HS.out.tr_next hn
  have HSY := Lib.hid hsy
  have HL1 := Lib.hid hl1
  have HC1 := Lib.hid hsy.c1
  have HC4 := Lib.hid hsy.c4
  have hbl : b < X.heap.size := World.block_lt_of_cell? X _ hsy.c1
  rw [HN.out] at HC4
  clear hn hsy hl1 c1
  go_upto_region 4 with fail
  refine wp_region_sink_at (fun w' => Below X.heap.size X w') (by kernel_rfl) (by rfl) (by kernel_rfl) (mx_drew X) (fun hS => ?_)
  refine takeE 0 14 ?_
  refine takeE 1 15 ?_
  refine takeE 2 16 ?_
  refine takeE 3 17 ?_
  refine takeF 4 18 (fun wq hSw => (hSw.cell (p := ⟨b, 4, none⟩) hbl).trans HC4.out) ?_
  refine takeE 5 19 ?_
  refine takeE 6 20 ?_
  refine takeE 7 21 ?_
  refine takeF 8 22 (fun wq hSw => (hSw.cell (p := ⟨b, 1, none⟩) hbl).trans HC1.out) ?_
  refine ready1 9 (fun K hK => ?_)
  go_simp
  refine (tr_len tb T2 _ (HSY.out.tr.below hS)).mono ?_
  rintro e w' ⟨rfl, rfl⟩
  rw [HM.out]
  refine hK.out _ _ hS (fun _ => ?_)
  clear hK
  refine takeE 10 24 ?_
  refine takeE 11 25 ?_
  refine takeE 12 26 ?_
  refine wpAnyH_done (by kernel_rfl) ?_ _
  refine lastPost_normal ?_
  have d4 := (hS.cell (p := ⟨b, 4, none⟩) hbl).trans HC4.out
  obtain ⟨kb2, ob2, hbx⟩ := (HSY.out.below hS).box
  have f4 := free_at (j := 4) hbx
  clear hbx
  refine wpOp_step rfl (fun KK hKK => ?_)
  go_simp
  refine hKK _ _ ?_
  clear hKK d4 f4
  go_wp2_with fail
  go_ret
  have hz := (HSY.out.setLooked (min n m)).after (mx_drew _)
  refine ⟨rfl, ?_⟩
  have := SysNext.trans HL1.out hz
  have e : ((min n m : Nat) : Int) = min (n : Int) (m : Int) := by omega
  rwa [e] at this
end Go.Proofs.YtobcnejecogfoaaGreat
namespace Go.Proofs.YtobcnejecogfoaaGreat
open Go.RowKit Go.Maps Go.Shelf

/-- how labels go on behind New -/
def labNew (w : World) (lab : Nat → Nat) (g : Nat) : Nat := if g < w.heap.size then lab g else if g < w.heap.size + 3 then 3 else 0
theorem Labs.made {w w' : World} {lab : Nat → Nat} (hb : Below w.heap.size w w') : Labs lab (labNew w lab) w w' :=
  ⟨Kept.of_below hb, fun _ hg => if_pos hg⟩
set_option maxRecDepth 100000 in
set_option maxHeartbeats 2000000 in
theorem wa_new (ab tb : Nat) (w : World) :
    Calls Tryz.prog 24 #[.pointer (some ⟨ab, 0, none⟩), .pointer (some ⟨tb, 0, none⟩)] w fun e w' => e = .returned (.tuple #[.pointer (some ⟨w.heap.size + 2, 0, none⟩), .int .i64 0]) ∧ w' = ((w.alloc (.map #[] 0)).alloc (.map #[] 0)).alloc (.cells #[.pointer (some ⟨ab, 0, none⟩), .pointer (some ⟨tb, 0, none⟩), .map (some w.heap.size), .map (some (w.heap.size + 1)), .int .i64 0] 88) := by
  have hmm := @run_makeMap Tryz.prog
  go_enter Tryz.func24, Tryz.ntmps24
  go_wp2
  go_ret2
  exact ⟨rfl, rfl⟩
end Go.Proofs.YtobcnejecogfoaaGreat
namespace Go.Proofs.YtobcnejecogfoaaGreat
open Go

theorem posOf_append (l : List Ent) (e : Ent) (j : Int) : posOf (l ++ [e]) j = if posOf l j < l.length then posOf l j else if e.id < j then l.length + 1 else l.length := by
  induction l with
  | nil => simp [posOf]
  | cons x l ih =>
    simp only [List.cons_append, posOf, List.length_cons]
    by_cases hx : x.id < j
    · simp only [hx, if_true, ih]
      by_cases h1 : posOf l j < l.length
      · simp only [if_pos h1, if_pos (Nat.succ_lt_succ h1)]
      · simp only [if_neg h1, if_neg (fun h => h1 (Nat.lt_of_succ_lt_succ h))]
        split <;> rfl
    · simp only [hx, if_false]
      rw [if_pos (Nat.succ_pos _)]
theorem posOf_all {l : List Ent} {j : Int} (h : ∀ e ∈ l, e.id < j) : posOf l j = l.length := by
  induction l with
  | nil => rfl
  | cons x l ih => simp only [posOf, if_pos (h x (List.mem_cons_self ..)), ih (fun e he => h e (List.mem_cons_of_mem _ he)), List.length_cons]
theorem posOf_set {l : List Ent} {p : Nat} {e x : Ent} (hp : l[p]? = some e) (hx : x.id = e.id) (j : Int) : posOf (l.set p x) j = posOf l j := by
  induction l generalizing p with
  | nil => rfl
  | cons y l ih =>
    cases p with
    | zero =>
      obtain rfl : y = e := by simpa using hp
      simp only [List.set_cons_zero, posOf, hx]
    | succ p => simp only [List.set_cons_succ, posOf, ih (by simpa using hp)]
/-- what an arena's entries keep -/
structure Arn.Inv (A : Arn) : Prop where
  last : ∀ e ∈ A.all, e.id ≤ A.last
  span : ∀ e ∈ A.all, e.fr ≤ e.upto ∧ e.upto ≤ A.store.length
  low : 0 ≤ A.last
theorem Arn.Ok.inv {A : Arn} (h : A.Ok) : A.Inv := ⟨h.last, fun e he => ⟨(h.each e he).2.2.1, (h.each e he).2.2.2⟩, h.nums.2.2.1⟩
theorem inv0 : arn0.Inv := ⟨fun e h => (by cases h), fun e h => (by cases h), Int.le_refl 0⟩
theorem Arn.Inv.add {A : Arn} (h : A.Inv) {id : Int} (c : List Int) (hid : A.last < id) : (A.add id c).Inv := by
  refine ⟨fun e he => ?_, fun e he => ?_, ?_⟩
  · rcases List.mem_append.1 he with he | he
    · have := h.last e he
      show e.id ≤ id
      omega
    · obtain rfl := List.mem_singleton.1 he
      exact Int.le_refl _
  · rcases List.mem_append.1 he with he | he
    · have := h.span e he
      show e.fr ≤ e.upto ∧ e.upto ≤ (A.store ++ c).length
      rw [List.length_append]
      omega
    · obtain rfl := List.mem_singleton.1 he
      show A.store.length ≤ A.store.length + c.length ∧ A.store.length + c.length ≤ (A.store ++ c).length
      rw [List.length_append]
      omega
  · have := h.low
    show (0 : Int) ≤ id
    omega
theorem Arn.Inv.gone {A : Arn} (h : A.Inv) {j : Int} (hj : A.last < j) : A.get j = none := by
  have hp : posOf A.all j = A.all.length := posOf_all (fun e he => by have := h.last e he; omega)
  have hf : A.find j = Option.none := by
    unfold Arn.find
    rw [hp, List.getElem?_eq_none (Nat.le_refl _)]
    split <;> rfl
  unfold Arn.get Arn.ent
  rw [hf]
theorem Arn.get_low (A : Arn) {j : Int} (hj : j < 1) : A.get j = none := by
  have hf : A.find j = Option.none := by
    unfold Arn.find
    rw [if_neg (by omega)]
  unfold Arn.get Arn.ent
  rw [hf]
theorem Arn.Inv.get_add {A : Arn} (h : A.Inv) {id : Int} (c : List Int) (hid : A.last < id) (h2 : id ≤ 1073741824) : (A.add id c).get id = some c := by
  have hp : posOf A.all id = A.all.length := posOf_all (fun e he => by have := h.last e he; omega)
  have hlow := h.low
  have hf : (A.add id c).find id = some A.all.length := by
    unfold Arn.find Arn.add
    simp only [posOf_append, hp, Nat.lt_irrefl, if_false, Int.lt_irrefl]
    rw [if_pos (by omega)]
    simp
  unfold Arn.get Arn.ent
  rw [hf]
  simp [Arn.add]
theorem Arn.Inv.get_add_ne {A : Arn} (h : A.Inv) {id j : Int} (c : List Int) (hj : j ≠ id) : (A.add id c).get j = A.get j := by
  by_cases hp : posOf A.all j < A.all.length
  · have hx := List.getElem?_eq_getElem hp
    have hf : (A.add id c).find j = A.find j := by
      unfold Arn.find Arn.add
      simp only [posOf_append, if_pos hp, List.getElem?_append_left hp]
    unfold Arn.get Arn.ent
    rw [hf]
    cases hq : A.find j with
    | none => rfl
    | some p =>
      obtain ⟨x, hx, _, _⟩ := Arn.find_lt hq
      have hpl : p < A.all.length := (List.getElem?_eq_some_iff.1 hx).1
      have hsp := h.span x (List.mem_of_getElem? hx)
      simp only [Arn.add, List.getElem?_append_left hpl, hx]
      congr 1
      rw [List.drop_append_of_le_length (by omega), List.take_append_of_le_length (by rw [List.length_drop]; omega)]
  · have h1 : A.find j = none := by
      unfold Arn.find
      rw [List.getElem?_eq_none (by omega)]
      split <;> rfl
    have h2 : (A.add id c).find j = none := by
      unfold Arn.find Arn.add
      simp only [posOf_append, if_neg hp]
      by_cases hlt : id < j
      · simp only [if_pos hlt, List.getElem?_eq_none (show (A.all ++ [(⟨A.store.length, A.store.length + c.length, id, false⟩ : Ent)]).length ≤ A.all.length + 1 by simp)]
        split <;> rfl
      · simp only [if_neg hlt, List.getElem?_append_right (Nat.le_refl _), Nat.sub_self, List.getElem?_cons_zero]
        split
        · rw [if_neg (fun hh => hj hh.1.symm)]
        · rfl
    unfold Arn.get Arn.ent
    rw [h1, h2]
/-- what is there behind the clauses of Put -/
theorem addAll_get (cs : List (List Int)) (A : Arn) (i : Nat) (h : A.Inv) (hl : A.last ≤ i) (hn : i + cs.length ≤ 1000) (j : Int) :
    (addAll A i cs).get j = (if (i : Int) < j then (cs[(j - i - 1).toNat]?).bind (fun c => if clauseB c = true then some c else none) else A.get j) ∧ (addAll A i cs).Inv ∧ (addAll A i cs).last ≤ (i + cs.length : Nat) := by
  induction cs generalizing A i with
  | nil =>
    refine ⟨?_, h, by simpa [addAll] using hl⟩
    simp only [addAll]
    split
    · rw [h.gone (by omega)]
      simp
    · rfl
  | cons c cs ih =>
    simp only [List.length_cons] at hn
    by_cases hc : clauseB c = true
    · have hput : A.put ((i : Int) + 1) c = A.add ((i : Int) + 1) c := by unfold Arn.put; rw [if_pos hc]
      obtain ⟨e1, e2, e3⟩ := ih (A.add ((i : Int) + 1) c) (i + 1) (h.add c (by omega)) (by show (i : Int) + 1 ≤ ((i + 1 : Nat) : Int); omega) (by omega)
      simp only [addAll, hput]
      refine ⟨?_, e2, by simp only [List.length_cons]; omega⟩
      rw [e1]
      by_cases h1 : (i : Int) + 1 < j
      · rw [if_pos (by omega), if_pos (by omega)]
        obtain ⟨n, hn1⟩ : ∃ n : Nat, j = i + 1 + 1 + n := ⟨(j - i - 1 - 1).toNat, by omega⟩
        subst hn1
        rw [show ((i : Int) + 1 + 1 + n - ((i + 1 : Nat) : Int) - 1).toNat = n by omega, show ((i : Int) + 1 + 1 + n - i - 1).toNat = n + 1 by omega, List.getElem?_cons_succ]
      · rw [if_neg (by omega)]
        by_cases h2 : j = (i : Int) + 1
        · subst h2
          rw [if_pos (by omega), h.get_add c (by omega) (by omega), show ((i : Int) + 1 - i - 1).toNat = 0 by omega]
          simp [hc]
        · rw [if_neg (by omega), h.get_add_ne c h2]
    · have hput : A.put ((i : Int) + 1) c = A := by unfold Arn.put; rw [if_neg hc]
      obtain ⟨e1, e2, e3⟩ := ih A (i + 1) h (by omega) (by omega)
      simp only [addAll, hput]
      refine ⟨?_, e2, by simp only [List.length_cons]; omega⟩
      rw [e1]
      by_cases h1 : (i : Int) + 1 < j
      · rw [if_pos (by omega), if_pos (by omega)]
        obtain ⟨n, hn1⟩ : ∃ n : Nat, j = i + 1 + 1 + n := ⟨(j - i - 1 - 1).toNat, by omega⟩
        subst hn1
        rw [show ((i : Int) + 1 + 1 + n - ((i + 1 : Nat) : Int) - 1).toNat = n by omega, show ((i : Int) + 1 + 1 + n - i - 1).toNat = n + 1 by omega, List.getElem?_cons_succ]
      · rw [if_neg (by omega)]
        by_cases h2 : j = (i : Int) + 1
        · subst h2
          rw [if_pos (by omega), h.gone (by omega), show ((i : Int) + 1 - i - 1).toNat = 0 by omega]
          simp [hc]
        · rw [if_neg (by omega)]
/-- without a clause -/
def Arn.del (A : Arn) (p : Nat) (x : Ent) : Arn := ⟨A.store, A.all.set p ⟨x.fr, x.upto, x.id, true⟩, A.used - (x.upto - x.fr), A.count - 1, A.last⟩
theorem Arn.get_del {A : Arn} {id : Int} {p : Nat} {x : Ent} (hf : A.find id = some p) (hx : A.all[p]? = some x) : (A.del p x).get id = none ∧ ∀ j, j ≠ id → (A.del p x).get j = A.get j := by
  obtain ⟨x', hx', hid, hg⟩ := Arn.find_lt hf
  obtain rfl : x' = x := Option.some.inj (hx'.symm.trans hx)
  have hpl : p < A.all.length := (List.getElem?_eq_some_iff.1 hx).1
  have hpos : ∀ j, posOf (A.all.set p ⟨x'.fr, x'.upto, x'.id, true⟩) j = posOf A.all j := fun j => posOf_set (x := ⟨x'.fr, x'.upto, x'.id, true⟩) hx rfl j
  have hpp : posOf A.all id = p := by
    unfold Arn.find at hf
    split at hf
    · split at hf
      · split at hf
        · exact Option.some.inj hf
        · cases hf
      · cases hf
    · cases hf
  constructor
  · have h2 : (A.del p x').find id = none := by
      unfold Arn.find Arn.del
      simp only [hpos, hpp, List.getElem?_set_self hpl]
      split
      · rw [if_neg (fun hh => by cases hh.2)]
      · rfl
    unfold Arn.get Arn.ent
    rw [h2]
  · intro j hj
    have hne : ∀ q, A.find j = some q → q ≠ p := fun q hq e => by
      subst e
      obtain ⟨y, hy, hyi, _⟩ := Arn.find_lt hq
      obtain rfl : y = x' := Option.some.inj (hy.symm.trans hx)
      exact hj (hyi.symm.trans hid)
    have h2 : (A.del p x').find j = A.find j := by
      unfold Arn.find Arn.del
      simp only [hpos]
      by_cases hq : posOf A.all j = p
      · rw [hq, List.getElem?_set_self hpl, hx]
        split
        · show (if x'.id = j ∧ (true : Bool) = false then some p else none) = if x'.id = j ∧ x'.gone = false then some p else none
          rw [if_neg (fun hh => by cases hh.2), if_neg (fun hh => hj (hh.1.symm.trans hid))]
        · rfl
      · rw [List.getElem?_set_ne (fun e => hq e.symm)]
    unfold Arn.get Arn.ent
    rw [h2]
    cases hq : A.find j with
    | none => rfl
    | some q =>
      have := hne q hq
      simp only [Arn.del, List.getElem?_set_ne (fun e => this e.symm)]
end Go.Proofs.YtobcnejecogfoaaGreat
namespace Go.Proofs.YtobcnejecogfoaaGreat
open Go.RowKit

/-- a slice of integers of a kind that reads as xs -/
def RowAt (k : IntKind) (w : World) (v : Value) (xs : List Int) : Prop :=
  ∃ A c, v = .slice A xs.length c ∧ xs.length ≤ c ∧ c ≤ maxLen ∧ (A = none → c = 0) ∧ (∀ n ∈ xs, (Lit.int k n).wf = true) ∧ ∀ i x, xs[i]? = some x → ∃ g o, A = some ⟨g, o, none⟩ ∧ g < w.heap.size ∧ w.cell? ⟨g, o + i, none⟩ = some (.int k x)
theorem RowAt.below {k : IntKind} {w w' : World} {v : Value} {xs : List Int} (h : RowAt k w v xs) (hb : Below w.heap.size w w') : RowAt k w' v xs := by
  obtain ⟨A, c, hv, hc, hm, hn, hw, hx⟩ := h
  refine ⟨A, c, hv, hc, hm, hn, hw, fun i x hi => ?_⟩
  obtain ⟨g, o, h1, h2, h3⟩ := hx i x hi
  exact ⟨g, o, h1, Nat.lt_of_lt_of_le h2 hb.size, (hb.cell (p := ⟨g, o + i, none⟩) h2).trans h3⟩
theorem RowAt.ints {w : World} {v : Value} {xs : List Int} (h : RowAt .i64 w v xs) : IntsIn (fun g => g < w.heap.size) w v xs := by
  obtain ⟨A, c, hv, hc, _, hn, _, hx⟩ := h
  refine ⟨A, c, hv, hc, hn, fun i x hi => ?_⟩
  obtain ⟨g, o, h1, h2, h3⟩ := hx i x hi
  exact ⟨g, o, h1, h2, h2, h3⟩
/-- a slice of slices of integers -/
def RowsAt (k : IntKind) (w : World) (v : Value) (xss : List (List Int)) : Prop :=
  ∃ A c, v = .slice A xss.length c ∧ xss.length ≤ c ∧ c ≤ maxLen ∧ (A = none → c = 0) ∧ ∀ i xs, xss[i]? = some xs → ∃ g o u, A = some ⟨g, o, none⟩ ∧ g < w.heap.size ∧ w.cell? ⟨g, o + i, none⟩ = some u ∧ RowAt k w u xs
theorem RowsAt.below {k : IntKind} {w w' : World} {v : Value} {xss : List (List Int)} (h : RowsAt k w v xss) (hb : Below w.heap.size w w') : RowsAt k w' v xss := by
  obtain ⟨A, c, hv, hc, hm, hn, hx⟩ := h
  refine ⟨A, c, hv, hc, hm, hn, fun i x hi => ?_⟩
  obtain ⟨g, o, u, h1, h2, h3, h4⟩ := hx i x hi
  exact ⟨g, o, u, h1, Nat.lt_of_lt_of_le h2 hb.size, (hb.cell (p := ⟨g, o + i, none⟩) h2).trans h3, h4.below hb⟩
end Go.Proofs.YtobcnejecogfoaaGreat
