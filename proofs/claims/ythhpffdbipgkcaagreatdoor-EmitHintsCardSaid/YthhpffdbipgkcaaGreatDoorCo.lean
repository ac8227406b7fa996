/- package rup: next. -/
import Derived.Test.YthhpffdbipgkcaaGreatDoorCn
import Derived.LoopNIn
namespace Go.Proofs.YthhpffdbipgkcaaGreatDoor
open Go.RowKit Go.Maps Go.Shelf
attribute [local go_sem] Oper.semAt_some

theorem moving_stops {O : Nat → Prop} (Bl Bv Bk b n kd : Nat) (f : Int → Int) (lv : Value) (cs : List (List Int)) (w : World)
    (hBl : w.cell? ⟨Bl, 0, none⟩ = some lv) (hBv : w.cell? ⟨Bv, 0, none⟩ = some (.map (some b))) (hBk : w.cell? ⟨Bk, 0, none⟩ = some (.int .u8 (kd : Nat))) (hl : ClsIn O w lv cs) (hm : MapAt w b n f) (hf : okF f) (hn : cs.length ≤ 1000000) (hx : ∀ xs ∈ cs, xs.length ≤ 100000000000) :
    SeqStopsK Fence.wide 8 Tryz.prog 64 #[.pointer (some ⟨Bl, 0, none⟩), .pointer (some ⟨Bv, 0, none⟩), .pointer (some ⟨Bk, 0, none⟩)] mvv (KpC (fun _ => False)) (fun ys => ys = movL f kd 0 cs) (fun pre => pre <+: movL f kd 0 cs ∧ pre ≠ []) cs.length w := fun l J Jx W hW _ _ hY h0 =>
  moving1_in l Bl Bv Bk b n kd f lv cs J Jx W hY ((hW.cell (p := ⟨Bl, 0, none⟩) (World.block_lt_of_cell? w _ hBl)).trans hBl) ((hW.cell (p := ⟨Bv, 0, none⟩) (World.block_lt_of_cell? w _ hBv)).trans hBv) ((hW.cell (p := ⟨Bk, 0, none⟩) (World.block_lt_of_cell? w _ hBk)).trans hBk) (hl.below hW) (hm.below hW) hf hn hx h0
theorem moving_run (b : Nat) (A : Option Addr) (m c kd : Nat) (w : World) : Calls Tryz.prog 43 #[.map (some b), .slice A m c, .int .u8 (kd : Nat)] w fun e w' =>
    e = .returned (.func (.func 64) #[] #[.pointer (some ⟨w.heap.size + 1, 0, none⟩), .pointer (some ⟨w.heap.size, 0, none⟩), .pointer (some ⟨w.heap.size + 2, 0, none⟩)]) ∧ ((w.alloc (.cells #[.map (some b)] 60)).alloc (.cells #[.slice A m c] 25)).alloc (.cells #[.int .u8 (kd : Nat)] 5) = w' := by
  go_enter Tryz.func43, Tryz.ntmps43
  go_wp2
  go_ret
  exact ⟨rfl, rfl⟩
theorem kept_own {β : Type} (D : Nat) (o : Obj) {N : Nat} (h : D < N) : OwnFrom N (fun (_ : β) W => W.heap[D]? = some o) := fun _ X Y row hs hg hr =>
  (hg.block D (heap_lt hs) (fun e => by have := (hr D e.symm).1; omega)).trans hs
/-- what next returns -/
def nextF (f : Int → Int) (cs : List (List Int)) : Int × Int := match movL f 2 0 cs with
  | x :: _ => ((x.1 : Int), x.2)
  | [] => match movL f 3 0 cs with
    | x :: _ => ((x.1 : Int), x.2)
    | [] => (-1, 0)
structure NX (w W : World) (i x : Int) : Prop where
  res : Boxed W w.heap.size 3 (.int .i64 i)
  lit : Boxed W (w.heap.size + 1) 45 (.int .i64 x)
  row : W.heap[w.heap.size + 1 + 1]? = some (.cells #[.int .u8 2, .int .u8 3] 5 (0, 0))
  below : Below w.heap.size w W
theorem nx_grown {w W W' : World} {i x : Int} {row : Option Nat} (h : NX w W i x) (hg : W.grownBy W' row) (hr : ∀ r, row = some r → w.heap.size ≤ r ∧ ∃ o : Obj, W.heap[r]? = some o ∧ o.isCells = false) : NX w W' i x :=
  ⟨boxed_grown h.res hg (fun r e => (hr r e).2), boxed_grown h.lit hg (fun r e => (hr r e).2), (hg.block _ (heap_lt h.row) (fun e => by
    obtain ⟨_, o, ho, hc⟩ := hr _ e.symm
    rw [h.row] at ho
    cases ho
    cases hc)).trans h.row, h.below.grown hg h.below.size (fun k e => (hr k e).1)⟩
theorem nx_own (w : World) (i x : Int) {β : Type} {N : Nat} (hN : w.heap.size ≤ N) : OwnFrom N (fun (_ : β) W => NX w W i x) := fun _ _ _ _ h hg hr => nx_grown h hg (fun r e => ⟨Nat.le_trans hN (hr r e).1, (hr r e).2⟩)
theorem nx_below {w W W' : World} {i x : Int} (h : NX w W i x) (hb : Below W.heap.size W W') : NX w W' i x :=
  nx_grown (row := none) h ⟨hb.os, hb.tape, hb.output, hb.size, fun k hk _ => hb.block k hk⟩ (fun r e => by cases e)
def NIx (w : World) (c : Code) (pre : List (Nat × Int)) (W : World) : Prop := c = .ret ∧ ∃ x, pre = [x] ∧ NX w W (x.1 : Int) x.2
theorem nix_own (w : World) {N : Nat} (hN : w.heap.size ≤ N) (c : Code) : OwnFrom N (NIx w c) := by
  rintro pre W W' row ⟨h1, x, h2, h3⟩ hg hr
  exact ⟨h1, x, h2, nx_own w _ _ (β := Unit) hN () W W' row h3 hg hr⟩
theorem res_next {fn : Func} (h : fn.results = #[.cell 4 3, .cell 5 45]) {w W : World} {i x : Int} (hb : NX w W i x) (tmps : Array Value) (t4 : tmps[4]?.getD undef = .pointer (some ⟨w.heap.size, 0, none⟩)) (t5 : tmps[5]?.getD undef = .pointer (some ⟨w.heap.size + 1, 0, none⟩)) :
    (results fn tmps).run Tryz.prog W = .ok (.tuple #[.int .i64 i, .int .i64 x]) W := by
  have p0 := hb.res.cell
  have p1 := hb.lit.cell
  simp [results, h, go_sem, t4, t5, p0, p1]
theorem nx_set {w W : World} {i x : Int} (h : NX w W i x) (i' x' : Int) : NX w ((W.setCell ⟨w.heap.size, 0, none⟩ (.int .i64 i')).setCell ⟨w.heap.size + 1, 0, none⟩ (.int .i64 x')) i' x' :=
  ⟨boxed_neq (h.res.set _) (by omega), (boxed_neq h.lit (by omega)).set _, (Below.heap_setCell _ _ _ _ (by simp only; omega)).trans ((Below.heap_setCell _ _ _ _ (by simp only; omega)).trans h.row), (h.below.setCell (p := ⟨w.heap.size, 0, none⟩) (Nat.le_refl _) _).setCell (p := ⟨w.heap.size + 1, 0, none⟩) (Nat.le_succ _) _⟩
set_option maxRecDepth 100000 in
set_option maxHeartbeats 4000000 in
theorem rup_next {O : Nat → Prop} (b n : Nat) (f : Int → Int) (lv : Value) (cs : List (List Int)) (w : World) (hl : ClsIn O w lv cs) (hm : MapAt w b n f) (hf : okF f) (hn : cs.length ≤ 1000000) (hx : ∀ xs ∈ cs, xs.length ≤ 100000000000) :
    Calls Tryz.prog 23 #[.map (some b), lv] w fun e w' => e = .returned (.tuple #[.int .i64 (nextF f cs).1, .int .i64 (nextF f cs).2]) ∧ Below w.heap.size w w' := by
  have HL := Lib.hid hl
  obtain ⟨A, c, rfl, _⟩ := hl
  obtain ⟨W3, hW3⟩ : ∃ x, ((w.alloc (.cells #[.int .i64 0] 3)).alloc (.cells #[.int .i64 0] 45)).alloc (.cells #[.int .u8 2, .int .u8 3] 5) = x := ⟨_, rfl⟩
  have hnx : NX w W3 0 0 := by
    rw [← hW3]
    refine ⟨((Boxed.new w _ _).alloc _).alloc _, ?_, ?_, ?_⟩
    · have := (Boxed.new (w.alloc (.cells #[.int .i64 0] 3)) 45 (.int .i64 0)).alloc (.cells #[.int .u8 2, .int .u8 3] 5)
      rwa [World.size_alloc] at this
    · have := World.alloc_heap_new ((w.alloc (.cells #[.int .i64 0] 3)).alloc (.cells #[.int .i64 0] 45)) (.cells #[.int .u8 2, .int .u8 3] 5)
      rwa [World.size_alloc, World.size_alloc] at this
    · exact (mx_al w _).trans (((mx_al _ _).mono (by simp)).trans ((mx_al _ _).mono (by simp; omega)))
  have HNX := Lib.hid hnx
  have HW3 := Lib.hid hW3
  have hz3 : W3.heap.size = w.heap.size + 3 := by rw [← hW3]; simp
  have HM := Lib.hid hm
  have HST := Lib.hid (fun (kd : Nat) (W : World) (hb : Below w.heap.size w W) (Bl Bv Bk : Nat) (h1 : W.cell? ⟨Bl, 0, none⟩ = some (.slice A cs.length c)) (h2 : W.cell? ⟨Bv, 0, none⟩ = some (.map (some b))) (h3 : W.cell? ⟨Bk, 0, none⟩ = some (.int .u8 (kd : Nat))) => moving_stops Bl Bv Bk b n kd f _ cs W h1 h2 h3 (HL.out.below hb) (HM.out.below hb) hf hn hx)
  obtain ⟨R1, hR1⟩ : ∃ z, (nextF f cs).1 = z := ⟨_, rfl⟩
  obtain ⟨R2, hR2⟩ : ∃ z, (nextF f cs).2 = z := ⟨_, rfl⟩
  have HRR := Lib.hid (show nextF f cs = (R1, R2) from Prod.ext hR1 hR2)
  rw [hR1, hR2]
  clear hm hnx hW3 hf hx hR1 hR2
  refine (callsIn_wide (n := 9)).1 ?_
  refine callsIn_of_wp_marks Tryz.func23 rfl trivial ?_ rfl
  simp only [Tryz.ntmps23, List.size_toArray, List.length_cons, List.length_nil, Nat.reduceAdd, Nat.reduceSub, Array.replicate_succ, Array.replicate_zero, List.push_toArray, List.append_toArray, List.nil_append, List.cons_append]
  gi_wp2
  refine wpIn_loop_rounds 3 ?_
  rw [roundsIn_succ]
  gi_wp2
  rw [HW3.out]
  refine ⟨trivial, ?_⟩
  refine (callsIn_wide.2 (moving_run b A cs.length c 2 W3)).mono ?_
  rintro e W' ⟨rfl, hW4⟩
  obtain ⟨W4, hW4'⟩ : ∃ x, W' = x := ⟨_, rfl⟩
  rw [hW4'] at hW4 ⊢
  have hb4 : Below W3.heap.size W3 W4 := by rw [← hW4]; exact (mx_al W3 _).trans (((mx_al _ _).mono (by simp)).trans ((mx_al _ _).mono (by simp; omega)))
  have hz4 : W4.heap.size = w.heap.size + 6 := by rw [← hW4]; simp [hz3]
  have k1 : W4.heap[W3.heap.size]? = some (.cells #[.map (some b)] 60 (0, 0)) := by
    rw [← hW4, Below.heap_alloc _ _ _ (by simp; omega), Below.heap_alloc _ _ _ (by simp)]
    exact World.alloc_heap_new _ _
  have k2 : W4.heap[W3.heap.size + 1]? = some (.cells #[.slice A cs.length c] 25 (0, 0)) := by
    rw [← hW4, Below.heap_alloc _ _ _ (by simp)]
    have := World.alloc_heap_new (W3.alloc (.cells #[.map (some b)] 60)) (.cells #[.slice A cs.length c] 25)
    rwa [World.size_alloc] at this
  have k3 : W4.heap[W3.heap.size + 2]? = some (.cells #[.int .u8 (2 : Nat)] 5 (0, 0)) := by
    rw [← hW4]
    have := World.alloc_heap_new ((W3.alloc (.cells #[.map (some b)] 60)).alloc (.cells #[.slice A cs.length c] 25)) (.cells #[.int .u8 (2 : Nat)] 5)
    rwa [World.size_alloc, World.size_alloc] at this
  rw [hz3] at k1 k2 k3
  have HS4 := Lib.hid (HST.out 2 W4 ((HNX.out.below).trans (hb4.mono (by omega))) (w.heap.size + 3 + 1) (w.heap.size + 3) (w.heap.size + 3 + 2) (mx_cell (j := 0) k2) (mx_cell (j := 0) k1) (mx_cell (j := 0) k3))
  have HN4 := Lib.hid (nx_below HNX.out hb4)
  have HB4 := Lib.hid hb4
  clear hW4 hW4' hb4 k1 k2 k3
  gi_wp2_with fail
  refine wpIn_rangeFunc_ownG rfl (by omega) (gf := 64) (lb := #[.pointer (some ⟨w.heap.size + 3 + 1, 0, none⟩), .pointer (some ⟨w.heap.size + 3, 0, none⟩), .pointer (some ⟨w.heap.size + 3 + 2, 0, none⟩)]) (by simp [go_sem]) trivial (enters_of Tryz.func64 (by kernel_rfl) rfl)
    HS4.out (fun h k => h.trans k) (fun W l o o' _ h hc hw => KpC.putObj W l o o' h hc hw) (Below.refl _ _) (fun _ => rfl)
    (fun pre W => NX w W 0 0 ∧ pre = []) (NIx w) (OwnFrom.and (nx_own w 0 0 (by omega)) (ownFrom_pure _ _)) (nix_own w (by omega)) ⟨HN4.out, rfl⟩
    ?frame ?assign ?body ?done ?stop
  case assign =>
    intro l x W K hK
    dsimp only [mvv]
    gi_wp2
    exact hK
  case body =>
    rintro l pre x W ⟨hn, rfl⟩ _
    have q1 := hn.res.cell
    have q2 := hn.res.frozen
    have q3 := (boxed_neq (B' := w.heap.size) (u := .int .i64 (x.1 : Int)) hn.lit (by omega)).cell
    have q4 := (boxed_neq (B' := w.heap.size) (u := .int .i64 (x.1 : Int)) hn.lit (by omega)).frozen
    have HN := Lib.hid hn
    clear hn
    gi_wp2
    exact ⟨((KeepsOthers.setCell _ _ _).trans (KeepsOthers.setCell _ _ _)).from _, rfl, x, rfl, nx_set HN.out _ _⟩
  case done =>
    rintro D ys W hD hS ⟨hn, rfl⟩ hDf
    have hm2 : movL f 2 0 cs = [] := hS.symm
    have e1 := mx_cell (j := 1) hn.row
    have HN := Lib.hid hn
    have HD := Lib.hid hDf
    have HM2 := Lib.hid hm2
    clear hn hDf hS hm2
    gi_wp2
    rw [roundsIn_succ]
    gi_wp2
    refine ⟨trivial, ?_⟩
    refine (callsIn_wide.2 (moving_run b A cs.length c 3 W)).mono ?_
    rintro e W' ⟨rfl, hW5⟩
    obtain ⟨W5, hW5'⟩ : ∃ x, W' = x := ⟨_, rfl⟩
    rw [hW5'] at hW5 ⊢
    have hb5 : Below W.heap.size W W5 := by rw [← hW5]; exact (mx_al W _).trans (((mx_al _ _).mono (by simp)).trans ((mx_al _ _).mono (by simp; omega)))
    have k1 : W5.heap[W.heap.size]? = some (.cells #[.map (some b)] 60 (0, 0)) := by
      rw [← hW5, Below.heap_alloc _ _ _ (by simp; omega), Below.heap_alloc _ _ _ (by simp)]
      exact World.alloc_heap_new _ _
    have k2 : W5.heap[W.heap.size + 1]? = some (.cells #[.slice A cs.length c] 25 (0, 0)) := by
      rw [← hW5, Below.heap_alloc _ _ _ (by simp)]
      have := World.alloc_heap_new (W.alloc (.cells #[.map (some b)] 60)) (.cells #[.slice A cs.length c] 25)
      rwa [World.size_alloc] at this
    have k3 : W5.heap[W.heap.size + 2]? = some (.cells #[.int .u8 (3 : Nat)] 5 (0, 0)) := by
      rw [← hW5]
      have := World.alloc_heap_new ((W.alloc (.cells #[.map (some b)] 60)).alloc (.cells #[.slice A cs.length c] 25)) (.cells #[.int .u8 (3 : Nat)] 5)
      rwa [World.size_alloc, World.size_alloc] at this
    have HS5 := Lib.hid (HST.out 3 W5 ((HN.out.below).trans (hb5.mono HN.out.below.size)) (W.heap.size + 1) W.heap.size (W.heap.size + 2) (mx_cell (j := 0) k2) (mx_cell (j := 0) k1) (mx_cell (j := 0) k3))
    have HN5 := Lib.hid (nx_below HN.out hb5)
    have HD5 := Lib.hid ((hb5.block D (heap_lt HD.out)).trans HD.out)
    have hD5 := heap_lt HD5.out
    have hw5 : w.heap.size ≤ W5.heap.size := HN5.out.below.size
    clear hW5 hW5' hb5 k1 k2 k3 e1
    gi_wp2_with fail
    refine wpIn_rangeFunc_ownG rfl (by omega) (gf := 64) (lb := #[.pointer (some ⟨W.heap.size + 1, 0, none⟩), .pointer (some ⟨W.heap.size, 0, none⟩), .pointer (some ⟨W.heap.size + 2, 0, none⟩)]) (by simp [go_sem]) trivial (enters_of Tryz.func64 (by kernel_rfl) rfl)
      HS5.out (fun h k => h.trans k) (fun W l o o' _ h hc hw => KpC.putObj W l o o' h hc hw) (Below.refl _ _) (fun _ => rfl)
      (fun pre W => (NX w W 0 0 ∧ pre = []) ∧ W.heap[D]? = some (.deferred (some []))) (fun c pre W => NIx w c pre W ∧ W.heap[D]? = some (.deferred (some []))) (OwnFrom.and (OwnFrom.and (nx_own w 0 0 hw5) (ownFrom_pure _ _)) (kept_own D _ hD5)) (fun c => OwnFrom.and (nix_own w hw5 c) (kept_own D _ hD5)) ⟨⟨HN5.out, rfl⟩, HD5.out⟩
      ?frame2 ?assign2 ?body2 ?done2 ?stop2
    case assign2 =>
      intro l x W K hK
      dsimp only [mvv]
      gi_wp2
      exact hK
    case body2 =>
      rintro l pre x W ⟨⟨hn, rfl⟩, hd⟩ _
      have q1 := hn.res.cell
      have q2 := hn.res.frozen
      have q3 := (boxed_neq (B' := w.heap.size) (u := .int .i64 (x.1 : Int)) hn.lit (by omega)).cell
      have q4 := (boxed_neq (B' := w.heap.size) (u := .int .i64 (x.1 : Int)) hn.lit (by omega)).frozen
      have HN := Lib.hid hn
      have HDD := Lib.hid hd
      clear hn hd
      gi_wp2
      have hk : KeepsOthers W ((W.setCell ⟨w.heap.size, 0, none⟩ (.int .i64 (x.1 : Int))).setCell ⟨w.heap.size + 1, 0, none⟩ (.int .i64 x.2)) := (KeepsOthers.setCell _ _ _).trans (KeepsOthers.setCell _ _ _)
      exact ⟨hk.from _, ⟨rfl, x, rfl, nx_set HN.out _ _⟩, hk.same _ _ HDD.out rfl⟩
    case done2 =>
      rintro D2 ys W hD2 hS ⟨⟨hn, rfl⟩, hd⟩ hDf
      have hm3 : movL f 3 0 cs = [] := hS.symm
      have q1 := hn.res.cell
      have q2 := hn.res.frozen
      have q3 := (boxed_neq (B' := w.heap.size) (u := .int .i64 (-1)) hn.lit (by omega)).cell
      have q4 := (boxed_neq (B' := w.heap.size) (u := .int .i64 (-1)) hn.lit (by omega)).frozen
      have HN := Lib.hid (nx_set hn (-1) 0)
      have hk : KeepsOthers W ((W.setCell ⟨w.heap.size, 0, none⟩ (.int .i64 (-1))).setCell ⟨w.heap.size + 1, 0, none⟩ (.int .i64 0)) := (KeepsOthers.setCell _ _ _).trans (KeepsOthers.setCell _ _ _)
      have HD := Lib.hid (hk.same _ _ hd rfl)
      have HD2 := Lib.hid (hk.same _ _ hDf rfl)
      have HE := Lib.hid (show ((-1 : Int), (0 : Int)) = (R1, R2) from by
        rw [← HRR.out]
        unfold nextF
        rw [HM2.out, hm3])
      clear hn hDf hd hk hS hm3
      gi_wp2
      rw [roundsIn_succ]
      gi_wp2
      obtain ⟨Wf, hWf⟩ : ∃ x, ((W.setCell ⟨w.heap.size, 0, none⟩ (.int .i64 (-1))).setCell ⟨w.heap.size + 1, 0, none⟩ (.int .i64 0)) = x := ⟨_, rfl⟩
      rw [hWf] at HN HD HD2 ⊢
      have hne : D ≠ D2 := by omega
      have hd' : (Wf.putObj D2 (.deferred none)).heap[D]? = some (.deferred (some [])) := (World.putObj_heap_other hne).trans HD.out
      have hq := nx_grown HN.out (grownBy_putObj' Wf D2 (.deferred none)) (fun r e => by cases e; exact ⟨by omega, _, HD2.out, rfl⟩)
      have hq2 := nx_grown hq (grownBy_putObj' _ D (.deferred none)) (fun r e => by cases e; exact ⟨by omega, _, hd', rfl⟩)
      have he := HE.out
      simp only [Prod.mk.injEq] at he
      obtain ⟨rfl, rfl⟩ := he
      refine ⟨by simp, .inl ⟨_, _, rfl, run_takeDeferred HD2.out, ?_⟩⟩
      refine ⟨by simp, .inl ⟨_, _, rfl, run_takeDeferred hd', ?_⟩⟩
      exact ⟨_, res_next rfl hq2 _ rfl rfl, rfl, hq2.below⟩
    case stop2 =>
      rintro D2 c pre W hD2 ⟨hpre, _⟩ ⟨⟨rfl, x, rfl, hn⟩, hd⟩ hDf
      have HN := Lib.hid hn
      have HD := Lib.hid hd
      have HD2 := Lib.hid hDf
      have HE := Lib.hid (show ((x.1 : Int), x.2) = (R1, R2) from by
        rw [← HRR.out]
        obtain ⟨t, ht⟩ := hpre
        unfold nextF
        rw [HM2.out, ← ht]
        rfl)
      clear hn hDf hpre hd
      gi_wp2
      have hne : D ≠ D2 := by omega
      have hd' : (W.putObj D2 (.deferred none)).heap[D]? = some (.deferred (some [])) := (World.putObj_heap_other hne).trans HD.out
      have hq := nx_grown HN.out (grownBy_putObj' W D2 (.deferred none)) (fun r e => by cases e; exact ⟨by omega, _, HD2.out, rfl⟩)
      have hq2 := nx_grown hq (grownBy_putObj' _ D (.deferred none)) (fun r e => by cases e; exact ⟨by omega, _, hd', rfl⟩)
      have he := HE.out
      simp only [Prod.mk.injEq] at he
      obtain ⟨rfl, rfl⟩ := he
      refine ⟨by simp, .inl ⟨_, _, rfl, run_takeDeferred HD2.out, ?_⟩⟩
      refine ⟨by simp, .inl ⟨_, _, rfl, run_takeDeferred hd', ?_⟩⟩
      exact ⟨_, res_next rfl hq2 _ rfl rfl, rfl, hq2.below⟩
  case stop =>
    rintro D c pre W hD ⟨hpre, _⟩ ⟨rfl, x, rfl, hn⟩ hDf
    have HN := Lib.hid hn
    have HD := Lib.hid hDf
    have HE := Lib.hid (show ((x.1 : Int), x.2) = (R1, R2) from by
      rw [← HRR.out]
      obtain ⟨t, ht⟩ := hpre
      unfold nextF
      rw [← ht]
      rfl)
    clear hn hDf hpre
    gi_wp2
    refine ⟨by simp, .inl ⟨_, _, rfl, run_takeDeferred HD.out, ?_⟩⟩
    have hq := nx_grown HN.out (grownBy_putObj' W D (.deferred none)) (fun r e => by cases e; exact ⟨by omega, _, HD.out, rfl⟩)
    have he := HE.out
    simp only [Prod.mk.injEq] at he
    obtain ⟨rfl, rfl⟩ := he
    exact ⟨_, res_next rfl hq _ rfl rfl, rfl, hq.below⟩
end Go.Proofs.YthhpffdbipgkcaaGreatDoor
