/- The watch: put, drop. Plain: a trail, and a list of what was assigned. Plain: what a trail says of literals, by the list of what was assigned. -/
import Derived.Test.YtoojmhjagipmdaaGreatU007
import Derived.Test.YtoojmhjagipmdaaGreatU001
import Derived.Test.YtoojmhjagipmdaaGreatU002
import Derived.Test.YtoojmhjagipmdaaGreatU005
namespace Go.Proofs.YtoojmhjagipmdaaGreat
open Go.RowKit Go.Maps Go.Shelf

/-- a store into a map at an operation of a region that draws -/
theorem wp_putS_at {P : Program} {kt t et : TypeId} {w : World} {b : Nat} {m : List (Int × Value)} {o : Oper} {a : Act} {K : Act → World → Prop} {Q : Exit → Act → World → Prop} (h : MapS P kt w b m) (KK : Keyed P kt) (hk : P.underlying kt = some (.int .i64)) (ht : P.underlying t = some (.map kt et))
    (mm x v : Operand) (hop : o.op = Op.mapUpdate t mm x v) (hm : a.eval mm = .map (some b)) (hn : m.length < maxLen) (i : Int) (y : Value) (hx : a.eval x = .int .i64 i) (hv : a.eval v = y) (hi : (Lit.int .i64 i).wf = true)
    (hK : ∀ w', MapS P kt w' b (putA m i y) → w.grownBy w' (some b) → K (a.put o.dst undef) w') : Oper.wp P o a w K Q := by
  obtain ⟨w', hr, h2, h3⟩ := h.update KK hk ht hn hi y
  unfold Oper.wp execOp
  simp only [hop, hm, hx, hv, Sem.run_bind, Sem.run_pure, Result.andThen_ok, hr]
  exact hK w' h2 h3
theorem look_rows {w : World} {ob : Nat} {F : List (Int × OfM)} (h : MapO w ob (mapV OfM.v F)) {l : Int} (hl : (Lit.int .i64 l).wf = true) : (Instr.lookup 155 (.map (some ob)) (.int .i64 l) false).run Tryz.prog w = .ok (rowV F l) w := by
  have := h.look lit_law Tryz.underlying32 Tryz.underlying155 (lit_zero_slice w) false hl
  rw [mapV_get] at this
  exact this
theorem kept_or {O O' : Nat → Prop} {a b c : World} (h : Kept O a b) (k : Kept O' b c) : Kept (fun g => O g ∨ O' g) a c := (h.mono (fun _ _ h => Or.inl h)).trans k (fun _ _ h => .inr h)
/-- what put and drop may write: rows of numbers, and the map of them -/
def WF (O : Nat → Prop) (ob : Nat) (w : World) (g : Nat) : Prop := O g ∧ (g = ob ∨ ∃ c, w.heap[g]? = some (.cells c 3 (0, 0)))
def WaMNext (O : Nat → Prop) (w w' : World) (b ab tb : Nat) (S' : Wst) (kb ob : Nat) (K : List (Int × KnM)) : Prop := (∃ F' tg', WaMem (fun g => O g ∨ w.heap.size ≤ g ∧ g < w'.heap.size) w' b ab tb S' kb ob K F' tg') ∧ Kept (WF O ob w) w w'
/-- the world then, of a watch -/
def WaNext (O : Nat → Prop) (w w' : World) (b ab tb : Nat) (S' : Wst) : Prop := WaAt (fun g => O g ∨ w.heap.size ≤ g ∧ g < w'.heap.size) w' b ab tb S' ∧ Kept O w w'
theorem wf_lit {l : Int} (h : litB l = true) : (Lit.int .i64 l).wf = true := by
  have := (litB_iff l).1 h
  exact wf64 (by omega) (by omega)
set_option maxRecDepth 100000 in
set_option maxHeartbeats 2000000 in
theorem wa_put_m {O : Nat → Prop} (b ab tb : Nat) (S : Wst) (kb ob : Nat) (K : List (Int × KnM)) (F : List (Int × OfM)) (tg : Nat → Option WTag) (l id : Int) (w : World) (hb : S.Bnd) (hm : WaMem O w b ab tb S kb ob K F tg) (hl : litB l = true) (hid : 1 ≤ id ∧ id ≤ 1073741824) :
    Calls Tryz.prog 109 #[.pointer (some ⟨b, 0, none⟩), .int .i64 l, .int .i64 id] w fun e w' => e = .returned (.tuple #[]) ∧ WaMNext O w w' b ab tb (S.put l id) kb ob K := by
  obtain ⟨hrow, htag⟩ := hm.rowAt l
  have hwf := wf_lit hl
  have c3 : w.cell? ⟨b, 3, none⟩ = some (.map (some ob)) := mx_cell (j := 3) hm.block
  have hse := row_search (rowV F l) (S.row l) id w hrow (hb.row l).1 (hb.rowLen l)
  have hins := fun (vb : Nat) (W : World) (h1 : W.ownsRow 0 3 1 (rowV F l) (S.row l).length ((S.row l).map (Value.int .i64))) (h2 : W.heap[vb]? = some (.cells #[.int .i64 id] 3 (0, 0))) (h3 : (rowV F l).ownBlock ≠ some vb) => row_insert (vb := vb) (rowV F l) (S.row l) id W h1 (Nat.zero_le _) h2 h3 (hb.rowLen l)
  have hil := insI_length (S.row l) id
  obtain ⟨i, hi⟩ : ∃ i, (S.row l).countP (· < id) = i := ⟨_, rfl⟩
  obtain ⟨q, hq⟩ : ∃ q, (S.row l).contains id = q := ⟨_, rfl⟩
  rw [hi, hq] at hse
  rw [hi] at hins
  have HM := Lib.hid hm
  have HB := Lib.hid hb
  have hlt := heap_lt hm.block
  obtain ⟨v, hv⟩ : ∃ v, rowV F l = v := ⟨_, rfl⟩
  have HV := Lib.hid hv
  rw [hv] at hse hins
  have HSE := Lib.hid hse
  have HIN := Lib.hid hins
  have HLK := Lib.hid (hv ▸ hm.lookO hwf)
  have HROW := Lib.hid (hv ▸ hrow)
  have HIL := Lib.hid hil
  have HWI := Lib.hid (wf64 (x := id) (by omega) (by omega))
  have hlk := HLK.out
  clear hb hm hrow htag hl hid hv hi hq hse hins hil
  go_enter Tryz.func109, Tryz.ntmps109
  go_wp2_with fail
  refine HSE.out.mono ?_
  rintro e w1 ⟨rfl, n, rfl⟩
  obtain ⟨W, hW⟩ : ∃ W, w.drewN n = W := ⟨_, rfl⟩
  have hbW : Below w.heap.size w W := by rw [← hW]; exact mx_drewN _ _
  have HZW := Lib.hid (show W.heap.size = w.heap.size by rw [← hW]; rfl)
  rw [hW]
  clear hW
  have HRW := Lib.hid (own_below HROW.out hbW)
  have HBW := Lib.hid hbW
  have HMW := Lib.hid (HM.out.kept (O' := fun _ => False) (Kept.of_below hbW) (fun _ _ h => h))
  clear hlk c3
  go_upto_region 1 with fail
  have HVO := Lib.hid (show v.ownBlock ≠ some b from fun e => mx_not HRW.out HMW.out.block (by decide) e)
  have HVM := Lib.hid (show v.ownBlock ≠ some ob from fun e => by
    obtain ⟨c, hc⟩ := own_type HRW.out ob e
    exact HMW.out.omap.not_cells hc rfl)
  have HC3 := Lib.hid (show ∀ wq, Kept (fun g => v.ownBlock = some g) W wq → wq.cell? ⟨b, 3, none⟩ = some (.map (some ob)) from fun wq hq => mx_cell (j := 3) ((hq.block b (heap_lt HMW.out.block) HVO.out).trans HMW.out.block))
  have HLW := Lib.hid (show ∀ wq, Kept (fun g => v.ownBlock = some g) W wq → (Instr.lookup 155 (.map (some ob)) (.int .i64 l) false).run Tryz.prog wq = .ok v wq from fun wq hq => by
    have := look_rows (HMW.out.omap.kept hq HVM.out) hwf
    rwa [HV.out] at this)
  refine wp_region_sink_at (fun w' => Kept (fun g => v.ownBlock = some g) W w') (by kernel_rfl) (by rfl) (by kernel_rfl) (Kept.of_below (mx_drew W)) (fun hS => ?_)
  refine takeE 0 19 ?_
  refine takeE 1 20 ?_
  refine takeE 2 21 ?_
  refine takeF 3 22 (fun wq hSw => HC3.out wq hSw) ?_
  refine takeE 4 23 ?_
  refine takeE 5 24 ?_
  refine takeE 6 25 ?_
  refine takeE 7 26 ?_
  refine takeF 8 27 (fun wq hSw => HC3.out wq hSw) ?_
  refine takeE 9 28 ?_
  refine takeF 10 29 (fun wq hSw => HLW.out wq hSw) ?_
  refine takeE 11 30 ?_
  refine takeE 12 31 ?_
  refine ready1 13 (fun KK hKK => ?_)
  go_simp
  obtain ⟨W2, hW2⟩ : ∃ X, (W.alloc (.cells #[.int .i64 id] 3)).drew = X := ⟨_, rfl⟩
  have hb2 : Below W.heap.size W W2 := by rw [← hW2]; exact (mx_al _ _).drew
  have hn2 : W2.heap[W.heap.size]? = some (.cells #[.int .i64 id] 3 (0, 0)) := by rw [← hW2]; exact World.alloc_heap_new _ _
  rw [hW2]
  have HB2' := Lib.hid hb2
  have HN2 := Lib.hid hn2
  have HR2 := Lib.hid (own_below HRW.out hb2)
  have HNE := Lib.hid (show v.ownBlock ≠ some W.heap.size from fun e => by have := (own_lt HRW.out _ e).2; omega)
  clear hW2 hn2
  refine hKK.out _ _ (Kept.of_below hb2) (fun _ => ?_)
  clear hKK hS
  refine ready1 14 (fun KK hKK => ?_)
  go_simp
  refine (HIN.out W.heap.size W2 HR2.out HN2.out HNE.out).mono ?_
  rintro e w3 ⟨v', rfl, hr3, hk3, hv3⟩
  have hk3' := (Kept.of_below (O := fun g => v.ownBlock = some g) hb2).trans hk3 (fun _ _ h => h)
  refine hKK.out _ _ hk3' (fun _ => ?_)
  clear hKK hb2
  refine wpAnyH_done (by kernel_rfl) ?_ _
  refine lastPost_normal ?_
  refine wpOp_step rfl (fun KK hKK => ?_)
  rw [if_pos (by rfl)]
  refine wp_putS_at (HMW.out.omap.kept hk3' HVM.out) lit_law Tryz.underlying32 Tryz.underlying155 _ _ _ rfl rfl (by have := HB.out.ofLen; have h2 := mapV_length OfM.v F; have h3 := congrArg List.length HMW.out.oS; rw [mapV_length] at h3; unfold maxLen; omega) l v' rfl rfl hwf ?_
  intro w4 hm4 hg4
  refine hKK _ _ ?_
  clear hKK
  have hk4 : Kept (fun g => (rowV F l).ownBlock = some g ∨ g = ob) W w4 := by
    rw [HV.out]
    exact (kept_or hk3' (Kept.grown hg4)).mono (fun g _ h => h.imp_right (fun e => Option.some.inj e))
  have hr4 := own_kept hr3 (Kept.grown hg4) (fun g hg e => by
    obtain ⟨c, hc⟩ := own_type hr3 g hg
    exact (HMW.out.omap.kept hk3' HVM.out).not_cells hc (Option.some.inj e))
  obtain ⟨tg', hm'⟩ := HMW.out.setRow (l := l) (r' := insI (S.row l) id) hk4 (by rw [HIL.out]; exact hr4) (by
    rw [HV.out]
    refine hv3.imp_right (fun e => ⟨_, e, ?_⟩)
    exact HB2'.out.size) hm4
  have hzw := HZW.out
  have HKW := Lib.hid (show Kept (WF O ob w) w w4 from (Kept.of_below HBW.out).trans hk4 (fun g _ h => by
    rcases h with h | h
    · obtain ⟨hr, ht⟩ := HM.out.rowAt l
      exact ⟨HM.out.intg _ _ (ht g h), .inr (own_type hr g h)⟩
    · exact ⟨h ▸ HM.out.ino, .inl h⟩))
  rw [hzw] at hm'
  have HFIN := Lib.hid (show ∃ F' tg', WaMem (fun g => O g ∨ w.heap.size ≤ g ∧ g < w4.heap.size) w4 b ab tb (S.put l id) kb ob K F' tg' from ⟨_, _, hm'⟩)
  clear hm' hk4 hr4 hm4 hg4 hr3 hk3 hv3 hk3' hzw
  go_wp2_with fail
  go_end0
  exact ⟨rfl, HFIN.out, HKW.out⟩
theorem WaMem.grow {O : Nat → Prop} {w w' : World} {b ab tb kb ob : Nat} {S : Wst} {K : List (Int × KnM)} {F : List (Int × OfM)} {tg : Nat → Option WTag} (hm : WaMem O w b ab tb S kb ob K F tg) (hb : Below w.heap.size w w') : WaMem (fun g => O g ∨ w.heap.size ≤ g ∧ g < w'.heap.size) w' b ab tb S kb ob K F tg := by
  have h2 := hm.kept (O' := fun _ => False) (Kept.of_below hb) (fun _ _ h => h)
  exact { h2 with own := fun g hg => hg.elim (fun h => Nat.lt_of_lt_of_le (hm.own g h) hb.size) (fun h => h.2), inb := .inl h2.inb, ink := .inl h2.ink, ino := .inl h2.ino, intg := fun g t ht => .inl (h2.intg g t ht) }
theorem WaMNext.refl {O : Nat → Prop} {w w' : World} {b ab tb kb ob : Nat} {S : Wst} {K : List (Int × KnM)} {F : List (Int × OfM)} {tg : Nat → Option WTag} (hm : WaMem O w b ab tb S kb ob K F tg) (hb : Below w.heap.size w w') : WaMNext O w w' b ab tb S kb ob K :=
  ⟨⟨F, tg, hm.grow hb⟩, Kept.of_below hb⟩
theorem WaNext.refl {O : Nat → Prop} {w w' : World} {b ab tb : Nat} {S : Wst} (h : WaAt O w b ab tb S) (hb : Below w.heap.size w w') : WaNext O w w' b ab tb S := by
  obtain ⟨hbn, kb, ob, K, F, tg, hm⟩ := h
  exact ⟨⟨hbn, kb, ob, K, F, tg, hm.grow hb⟩, Kept.of_below hb⟩
/-- two calls, one behind the other -/
theorem WaMNext.trans {O : Nat → Prop} {w w1 w2 : World} {b ab tb kb ob : Nat} {S : Wst} {K : List (Int × KnM)} (hk : Kept (WF O ob w) w w1) (h : WaMNext (fun g => O g ∨ w.heap.size ≤ g ∧ g < w1.heap.size) w1 w2 b ab tb S kb ob K) : WaMNext O w w2 b ab tb S kb ob K := by
  obtain ⟨⟨F, tg, hm⟩, k⟩ := h
  refine ⟨⟨F, tg, hm.congr (fun g => ?_)⟩, hk.trans k (fun i hi h => ?_)⟩
  · have h1 := hk.size
    have h2 := k.size
    constructor
    · rintro ((h | h) | h)
      · exact .inl h
      · exact .inr ⟨h.1, by omega⟩
      · exact .inr ⟨by omega, h.2⟩
    · rintro (h | h)
      · exact .inl (.inl h)
      · by_cases hg : g < w1.heap.size
        · exact .inl (.inr ⟨h.1, hg⟩)
        · exact .inr ⟨by omega, h.2⟩
  · obtain ⟨ho, hc⟩ := h
    have ho' : O i := ho.elim (fun h => h) (fun h => by omega)
    refine ⟨ho', ?_⟩
    rcases hc with hc | hc
    · exact .inl hc
    · by_cases hw : WF O ob w i
      · exact hw.2
      · rw [hk.block i hi hw] at hc
        exact .inr hc
theorem WaMNext.at_ {O : Nat → Prop} {w w' : World} {b ab tb kb ob : Nat} {S' : Wst} {K : List (Int × KnM)} (h : WaMNext O w w' b ab tb S' kb ob K) (hb : S'.Bnd) : WaNext O w w' b ab tb S' := by
  obtain ⟨⟨F, tg, hm⟩, k⟩ := h
  exact ⟨⟨hb, kb, ob, K, F, tg, hm⟩, k.mono (fun _ _ h => h.1)⟩
set_option maxRecDepth 100000 in
set_option maxHeartbeats 2000000 in
theorem wa_drop_m {O : Nat → Prop} (b ab tb : Nat) (S : Wst) (kb ob : Nat) (K : List (Int × KnM)) (F : List (Int × OfM)) (tg : Nat → Option WTag) (l id : Int) (w : World) (hb : S.Bnd) (hm : WaMem O w b ab tb S kb ob K F tg) (hwf : (Lit.int .i64 l).wf = true) :
    Calls Tryz.prog 137 #[.pointer (some ⟨b, 0, none⟩), .int .i64 l, .int .i64 id] w fun e w' => e = .returned (.tuple #[]) ∧ WaMNext O w w' b ab tb (S.drop l id) kb ob K := by
  obtain ⟨hrow, htag⟩ := hm.rowAt l
  have c3 : w.cell? ⟨b, 3, none⟩ = some (.map (some ob)) := mx_cell (j := 3) hm.block
  have hse := row_search (rowV F l) (S.row l) id w hrow (hb.row l).1 (hb.rowLen l)
  have hrl := hb.rowLen l
  have hil := countP_le_len (S.row l) id
  have hat := fun hx => up_at (hb.row l).1 (x := id) hx
  have hrem : ∀ j, (S.row l).countP (· < id) = j → (S.row l).contains id = true → remI (S.row l) id = (S.row l).eraseIdx j := fun j hj hc => by
    unfold remI
    rw [if_pos hc, hj]
  have HDN : (S.row l).contains id = false → S.drop l id = S := fun hc => by
    unfold Wst.drop
    rw [if_neg (by rw [hc]; decide)]
  have HDY : (S.row l).contains id = true → S.drop l id = ⟨S.known, putA S.of l (remI (S.row l) id), S.looked⟩ := fun hc => by
    unfold Wst.drop
    rw [if_pos hc]
  have hmem : (S.row l).contains id = true → id ∈ S.row l := fun hc => by simpa using hc
  obtain ⟨i, hi⟩ : ∃ i, (S.row l).countP (· < id) = i := ⟨_, rfl⟩
  obtain ⟨q, hq⟩ : ∃ q, (S.row l).contains id = q := ⟨_, rfl⟩
  rw [hi] at hse hil hat
  have hrem := hrem i hi
  rw [hq] at hse HDN HDY hrem hmem
  have HM := Lib.hid hm
  have HB := Lib.hid hb
  have hlt := heap_lt hm.block
  obtain ⟨v, hv⟩ : ∃ v, rowV F l = v := ⟨_, rfl⟩
  have HV := Lib.hid hv
  rw [hv] at hse
  have HSE := Lib.hid hse
  have hlk := hv ▸ hm.lookO hwf
  have HROW := Lib.hid (hv ▸ hrow)
  have hwi : IntKind.i64.wrap ((i : Int) + 1) = (i : Int) + 1 := IntWalk.i64_in _ (by omega)
  cases q with
  | false =>
    have HDD := Lib.hid (HDN rfl)
    clear hb hm hrow htag hv hi hq hse hil HDN HDY hrem hat hmem hrl
    go_enter Tryz.func137, Tryz.ntmps137
    go_wp2_with fail
    refine HSE.out.mono ?_
    rintro e w1 ⟨rfl, n, rfl⟩
    clear hlk c3
    go_wp2_with fail
    go_end0
    refine ⟨rfl, ?_⟩
    rw [HDD.out]
    exact WaMNext.refl HM.out (mx_drewN _ _)
  | true =>
    have HDD := Lib.hid (HDY rfl)
    have hilt := (List.getElem?_eq_some_iff.1 (hat (hmem rfl))).1
    have HRE := Lib.hid (hrem rfl)
    have HEL := Lib.hid (show ((S.row l).eraseIdx i).length = (S.row l).length - 1 by rw [List.length_eraseIdx, if_pos hilt])
    have HIN := Lib.hid (fun (W : World) (h1 : W.ownsRow 0 3 1 v (S.row l).length ((S.row l).map (Value.int .i64))) => row_delete v (S.row l) i W h1 hilt)
    clear hb hm hrow htag hv hi hq hse hil HDN HDY hrem hat hmem hilt hrl
    go_enter Tryz.func137, Tryz.ntmps137
    go_wp2_with fail
    refine HSE.out.mono ?_
    rintro e w1 ⟨rfl, n, rfl⟩
    obtain ⟨W, hW⟩ : ∃ W, w.drewN n = W := ⟨_, rfl⟩
    have hbW : Below w.heap.size w W := by rw [← hW]; exact mx_drewN _ _
    have HZW := Lib.hid (show W.heap.size = w.heap.size by rw [← hW]; rfl)
    rw [hW]
    clear hW
    have HRW := Lib.hid (own_below HROW.out hbW)
    have HBW := Lib.hid hbW
    have HMW := Lib.hid (HM.out.kept (O' := fun _ => False) (Kept.of_below hbW) (fun _ _ h => h))
    clear hlk c3
    go_upto_region 2 with fail
    have HVO := Lib.hid (show v.ownBlock ≠ some b from fun e => mx_not HRW.out HMW.out.block (by decide) e)
    have HVM := Lib.hid (show v.ownBlock ≠ some ob from fun e => by
      obtain ⟨c, hc⟩ := own_type HRW.out ob e
      exact HMW.out.omap.not_cells hc rfl)
    have HC3 := Lib.hid (show ∀ wq, Kept (fun g => v.ownBlock = some g) W wq → wq.cell? ⟨b, 3, none⟩ = some (.map (some ob)) from fun wq hq => mx_cell (j := 3) ((hq.block b (heap_lt HMW.out.block) HVO.out).trans HMW.out.block))
    have HLW := Lib.hid (show ∀ wq, Kept (fun g => v.ownBlock = some g) W wq → (Instr.lookup 155 (.map (some ob)) (.int .i64 l) false).run Tryz.prog wq = .ok v wq from fun wq hq => by
      have := look_rows (HMW.out.omap.kept hq HVM.out) hwf
      rwa [HV.out] at this)
    refine wp_region_sink_at (fun w' => Kept (fun g => v.ownBlock = some g) W w') (by kernel_rfl) (by rfl) (by kernel_rfl) (Kept.of_below (mx_drew W)) (fun hS => ?_)
    refine takeE 0 20 ?_
    refine takeE 1 21 ?_
    refine takeE 2 22 ?_
    refine takeF 3 23 (fun wq hSw => HC3.out wq hSw) ?_
    refine takeE 4 24 ?_
    refine takeE 5 25 ?_
    refine takeE 6 26 ?_
    refine takeE 7 27 ?_
    refine takeF 8 28 (fun wq hSw => HC3.out wq hSw) ?_
    refine takeE 9 29 ?_
    refine takeF 10 30 (fun wq hSw => HLW.out wq hSw) ?_
    refine takeE 11 31 ?_
    refine takeE 12 32 ?_
    refine takeE 13 33 ?_
    refine ready1 14 (fun KK hKK => ?_)
    go_simp
    refine (HIN.out _ (own_below HRW.out (mx_drew W))).mono ?_
    rintro e w3 ⟨v', rfl, hr3, hk3, hv3⟩
    have hk3' := hS.trans hk3 (fun _ _ h => h)
    refine hKK.out _ _ hk3' (fun _ => ?_)
    clear hKK hS
    refine wpAnyH_done (by kernel_rfl) ?_ _
    refine lastPost_normal ?_
    refine wpOp_step rfl (fun KK hKK => ?_)
    rw [if_pos (by rfl)]
    refine wp_putS_at (HMW.out.omap.kept hk3' HVM.out) lit_law Tryz.underlying32 Tryz.underlying155 _ _ _ rfl rfl (by have := HB.out.ofLen; have h2 := mapV_length OfM.v F; have h3 := congrArg List.length HMW.out.oS; rw [mapV_length] at h3; unfold maxLen; omega) l v' rfl rfl hwf ?_
    intro w4 hm4 hg4
    refine hKK _ _ ?_
    clear hKK
    have hk4 : Kept (fun g => (rowV F l).ownBlock = some g ∨ g = ob) W w4 := by
      rw [HV.out]
      exact (kept_or hk3' (Kept.grown hg4)).mono (fun g _ h => h.imp_right (fun e => Option.some.inj e))
    have hr4 := own_kept hr3 (Kept.grown hg4) (fun g hg e => by
      obtain ⟨c, hc⟩ := own_type hr3 g hg
      exact (HMW.out.omap.kept hk3' HVM.out).not_cells hc (Option.some.inj e))
    obtain ⟨tg', hm'⟩ := HMW.out.setRow (l := l) (r' := (S.row l).eraseIdx i) hk4 (by rw [HEL.out]; exact hr4) (by
      rw [HV.out]
      exact .inl hv3) hm4
    have hzw := HZW.out
    have HKW := Lib.hid (show Kept (WF O ob w) w w4 from (Kept.of_below HBW.out).trans hk4 (fun g _ h => by
      rcases h with h | h
      · obtain ⟨hr, ht⟩ := HM.out.rowAt l
        exact ⟨HM.out.intg _ _ (ht g h), .inr (own_type hr g h)⟩
      · exact ⟨h ▸ HM.out.ino, .inl h⟩))
    rw [hzw, ← HRE.out] at hm'
    have HFIN := Lib.hid (show ∃ F' tg', WaMem (fun g => O g ∨ w.heap.size ≤ g ∧ g < w4.heap.size) w4 b ab tb (S.drop l id) kb ob K F' tg' from by
      rw [HDD.out]
      exact ⟨_, _, hm'⟩)
    clear hm' hk4 hr4 hm4 hg4 hr3 hk3 hv3 hk3' hzw
    go_wp2_with fail
    go_end0
    exact ⟨rfl, HFIN.out, HKW.out⟩
end Go.Proofs.YtoojmhjagipmdaaGreat
namespace Go.Proofs.YtoojmhjagipmdaaGreat
open Go.RowKit

/-- what was assigned -/
structure RIt where
  lit : Int
  reason : Int
  level : Int
def RIt.cells (x : RIt) : List Value := [.int .i64 x.lit, .int .i64 x.reason, .int .i64 x.level]
structure RTr where
  vars : Int
  now : Int
  items : List RIt
  starts : List Int
/-- the first place of a variable, from one on -/
def rPl : List RIt → Int → Nat → Int
  | [], _, _ => -1
  | x :: l, v, i => if 0 < v ∧ (litV x.lit : Int) = v then i else rPl l v (i + 1)
def rP (l : List RIt) (v : Int) : Int := rPl l v 0
def rVl : List RIt → Int → Int
  | [], _ => 0
  | x :: l, y => if litB y = true ∧ x.lit = y then 1 else if litB y = true ∧ x.lit = -y then -1 else rVl l y
def rL (l : List RIt) (y : Int) : Int := match l[(rP l (litV y)).toNat]? with
  | some x => x.level
  | none => 0
theorem litV_negate (l : Int) : litV (-l) = litV l := by
  have h : litB (-l) = litB l := by
    unfold litB
    exact decide_eq_decide.2 (by omega)
  unfold litV
  rw [h, Int.natAbs_neg]
structure Sim (T : Trl) (its : List RIt) : Prop where
 order : T.order = its.map RIt.lit
 size : T.vars.length ≤ 1048577
 at_ : ∀ (p : Nat) (x : RIt), its[p]? = some x → litB x.lit = true ∧ T.vars[litV x.lit]? = some ⟨x.level, x.reason, p, litS x.lit⟩
 free : ∀ (v : Nat) (s : TV), T.vars[v]? = some s → (∀ x ∈ its, litV x.lit ≠ v) → s.value = 0
 mono : ∀ (p q : Nat) (x y : RIt), p ≤ q → its[p]? = some x → its[q]? = some y → x.level ≤ y.level
 pos : ∀ x ∈ its, 0 ≤ x.level ∧ x.level ≤ T.now
 now : 0 ≤ T.now
theorem litV_pos {l : Int} (h : litB l = true) : 1 ≤ litV l ∧ (litV l : Int) = max l (-l) := by
 have := (litB_iff l).1 h
 unfold litV
 rw [if_pos h]
 omega
theorem litB_minus (l : Int) : litB (-l) = litB l := by
 simp only [litB, decide_eq_decide]
 omega
theorem litV_zero {l : Int} (h : litB l = false) : litV l = 0 := by
 unfold litV
 rw [h]
 rfl
theorem litB_of_litV {l : Int} (h : 0 < litV l) : litB l = true := by
 cases hb : litB l with
 | true => rfl
 | false => rw [litV_zero hb] at h; omega
/-- two literals of a variable -/
theorem litV_two {a b : Int} (ha : litB a = true) (h : litV a = litV b) : b = a ∨ b = -a := by
 have h1 := litV_pos ha
 have h2 := litV_pos (litB_of_litV (l := b) (by omega))
 omega
variable {T : Trl} {its : List RIt}
theorem Sim.litb (h : Sim T its) {x : RIt} (hx : x ∈ its) : litB x.lit = true := by
 obtain ⟨p, hp, e⟩ := List.getElem_of_mem hx
 exact (h.at_ p x (by rw [List.getElem?_eq_getElem hp, e])).1
theorem Sim.inj (h : Sim T its) {p q : Nat} {x y : RIt} (hp : its[p]? = some x) (hq : its[q]? = some y) (e : litV x.lit = litV y.lit) : p = q := by
 have h1 := (h.at_ p x hp).2
 have h2 := (h.at_ q y hq).2
 rw [e, h2] at h1
 have h3 := congrArg TV.place (Option.some.inj h1)
 simp only at h3
 omega
theorem Sim.atv (h : Sim T its) {p : Nat} {x : RIt} (hp : its[p]? = some x) : T.at (litV x.lit : Nat) = some ⟨x.level, x.reason, p, litS x.lit⟩ := by
 obtain ⟨h1, h2⟩ := h.at_ p x hp
 have h3 := (List.getElem?_eq_some_iff.1 h2).1
 have h4 := litV_pos h1
 unfold Trl.at
 rw [if_pos (by omega), Int.toNat_natCast]
 exact h2
theorem litS_ne (l : Int) : litS l ≠ 0 := by
 rcases litS_abs l with h | h <;> omega
theorem Sim.why (h : Sim T its) {p : Nat} {x : RIt} (hp : its[p]? = some x) : T.why (litV x.lit : Nat) = some ⟨x.level, x.reason, p, litS x.lit⟩ := by
 unfold Trl.why
 rw [h.atv hp]
 simp only
 rw [if_neg (litS_ne _)]
theorem rVl_at (l : List RIt) (y z : Int) (hy : litB y = true) (h1 : ∃ x ∈ l, litV x.lit = litV y) (h2 : ∀ x ∈ l, litV x.lit = litV y → x.lit = z) : rVl l y = if z = y then 1 else -1 := by
 induction l with
 | nil =>
  obtain ⟨x, hx, _⟩ := h1
  cases hx
 | cons x l ih =>
  unfold rVl
  by_cases hxy : litV x.lit = litV y
  ·
   have hz := h2 x (List.mem_cons_self ..) hxy
   rcases litV_two hy hxy.symm with e | e
   ·
    rw [if_pos ⟨hy, e⟩, if_pos (by omega)]
   ·
    have := (litB_iff y).1 hy
    rw [if_neg (fun hh => by omega), if_pos ⟨hy, e⟩, if_neg (by omega)]
  ·
   rw [if_neg (fun hh => hxy (by rw [hh.2])), if_neg (fun hh => hxy (by rw [hh.2, litV_negate]))]
   obtain ⟨w, hw, e⟩ := h1
   refine ih ?_ (fun x hx => h2 x (List.mem_cons_of_mem _ hx))
   rcases List.mem_cons.1 hw with rfl | hw
   ·
    exact absurd e hxy
   ·
    exact ⟨w, hw, e⟩
theorem rVl_none (l : List RIt) (y : Int) (h : litB y = true → ∀ x ∈ l, litV x.lit ≠ litV y) : rVl l y = 0 := by
 induction l with
 | nil => rfl
 | cons x l ih =>
  unfold rVl
  rw [if_neg (fun hh => h hh.1 x (List.mem_cons_self ..) (by rw [hh.2])), if_neg (fun hh => h hh.1 x (List.mem_cons_self ..) (by rw [hh.2, litV_negate]))]
  exact ih (fun hb x hx => h hb x (List.mem_cons_of_mem _ hx))
theorem Sim.val_at (h : Sim T its) {p : Nat} {x : RIt} (hp : its[p]? = some x) (y : Int) (hy : litV x.lit = litV y) : T.val y = rVl its y ∧ rVl its y = if x.lit = y then 1 else -1 := by
 have hb := (h.at_ p x hp).1
 have hby : litB y = true := litB_of_litV (by have := litV_pos hb; omega)
 have h1 := rVl_at its y x.lit hby ⟨x, List.mem_of_getElem? hp, hy⟩ (fun z hz e => by
  obtain ⟨q, hq, e2⟩ := List.getElem_of_mem hz
  have hq' : its[q]? = some z := by rw [List.getElem?_eq_getElem hq, e2]
  obtain rfl := h.inj hq' hp (by omega)
  rw [hp] at hq'
  rw [Option.some.inj hq'])
 refine ⟨?_, h1⟩
 rw [h1]
 unfold Trl.val
 rw [← hy, h.atv hp]
 simp only
 have hn := (litB_iff x.lit).1 hb
 rcases litV_two hb hy with e | e
 ·
  rw [e, if_pos rfl]
  unfold litS
  split <;> rfl
 ·
  rw [e, if_neg (by omega)]
  unfold litS
  split
  ·
   rw [if_neg (by omega)]; rfl
  ·
   rw [if_pos (by omega)]; rfl
theorem Sim.cases (_ : Sim T its) (y : Int) : (∃ (p : Nat) (x : RIt), its[p]? = some x ∧ litV x.lit = litV y) ∨ (∀ x ∈ its, litV x.lit ≠ litV y) := by
 by_cases hh : ∃ (p : Nat) (x : RIt), its[p]? = some x ∧ litV x.lit = litV y
 ·
  exact .inl hh
 ·
  refine .inr (fun x hx e => hh ?_)
  obtain ⟨p, hp, e2⟩ := List.getElem_of_mem hx
  exact ⟨p, x, by rw [List.getElem?_eq_getElem hp, e2], e⟩
theorem Sim.val (h : Sim T its) (y : Int) : T.val y = rVl its y := by
 rcases h.cases y with ⟨p, x, hp, e⟩ | hn
 ·
  exact (h.val_at hp y e).1
 ·
  rw [rVl_none its y (fun _ => hn)]
  unfold Trl.val Trl.at
  split
  ·
   rename_i s hs
   split at hs
   ·
    rw [Int.toNat_natCast] at hs
    rw [h.free _ s hs hn, Int.zero_mul]
   ·
    cases hs
  ·
   rfl
/-- a literal that is false: its item -/
theorem Sim.fal (h : Sim T its) {y : Int} (hy : rVl its y < 0) : ∃ (p : Nat) (x : RIt), its[p]? = some x ∧ y = -x.lit ∧ litV x.lit = litV y := by
 rcases h.cases y with ⟨p, x, hp, e⟩ | hn
 ·
  have := (h.val_at hp y e).2
  rcases litV_two (h.at_ p x hp).1 e with e2 | e2
  ·
   rw [if_pos e2.symm] at this
   omega
  ·
   exact ⟨p, x, hp, e2, e⟩
 ·
  rw [rVl_none its y (fun _ => hn)] at hy
  omega
theorem Sim.level (h : Sim T its) {p : Nat} {x : RIt} (hp : its[p]? = some x) : T.level (litV x.lit : Nat) = x.level := by
 unfold Trl.level
 rw [h.why hp]
end Go.Proofs.YtoojmhjagipmdaaGreat
namespace Go.Proofs.YtoojmhjagipmdaaGreat
open Go.RowKit

variable {T : Trl} {its : List RIt}
theorem litS_not (l : Int) : litS l ≠ 0 := by
  unfold litS
  split <;> decide
theorem Sim.fal_iff (h : Sim T its) {y : Int} (hy : litB y = true) : T.fal y = true ↔ ∃ (p : Nat) (x : RIt), its[p]? = some x ∧ x.lit = -y := by
  have hn := (litB_iff y).1 hy
  unfold Trl.fal
  rw [decide_eq_true_eq, h.val]
  constructor
  · intro hf
    obtain ⟨p, x, hp, e, _⟩ := h.fal hf
    exact ⟨p, x, hp, by omega⟩
  · rintro ⟨p, x, hp, e⟩
    have := (h.val_at hp y (by rw [e, litV_negate])).2
    rw [if_neg (by omega)] at this
    omega
theorem Sim.tru_iff (h : Sim T its) {y : Int} (hy : litB y = true) : T.tru y = true ↔ ∃ (p : Nat) (x : RIt), its[p]? = some x ∧ x.lit = y := by
  have hn := (litB_iff y).1 hy
  unfold Trl.tru
  rw [decide_eq_true_eq, h.val]
  constructor
  · intro hf
    rcases h.cases y with ⟨p, x, hp, e⟩ | hno
    · have hv := (h.val_at hp y e).2
      by_cases hxy : x.lit = y
      · exact ⟨p, x, hp, hxy⟩
      · rw [if_neg hxy] at hv
        omega
    · rw [rVl_none its y (fun _ => hno)] at hf
      omega
  · rintro ⟨p, x, hp, e⟩
    have := (h.val_at hp y (by rw [e])).2
    rw [if_pos e] at this
    omega
theorem Sim.snoc (hs : Sim T its) {l r : Int} (he : T.assignErr l r = 0) : Sim (T.assigned l r) (its ++ [⟨l, r, T.now⟩]) := by
  unfold Trl.assigned
  rw [if_pos he]
  unfold Trl.assignErr at he
  cases hat : T.at (litV l : Nat) with
  | none => rw [hat] at he; cases he
  | some s =>
    rw [hat] at he
    simp only at he
    have ha := hat
    unfold Trl.at at ha
    split at ha
    · rename_i hlt
      rw [Int.toNat_natCast] at ha
      have hb : litB l = true := litB_of_litV (by omega)
      have hvl : litV l < T.vars.length := by omega
      have h0 : s.value = 0 := by
        split at he
        · cases he
        · split at he
          · cases he
          · rename_i _ h2
            omega
      have hfree : ∀ x ∈ its, litV x.lit ≠ litV l := fun x hx e => by
        obtain ⟨p, hp, e2⟩ := List.getElem_of_mem hx
        have hx2 := (hs.at_ p x (by rw [List.getElem?_eq_getElem hp, e2])).2
        rw [e, ha] at hx2
        have h3 := congrArg TV.value (Option.some.inj hx2)
        simp only at h3
        have := litS_not x.lit
        omega
      have hol : T.order.length = its.length := by rw [hs.order, List.length_map]
      refine { order := ?_, size := ?_, at_ := fun p x hp => ?_, free := fun v s hv hf => ?_, mono := fun p q x y hpq hp hq => ?_, pos := fun x hx => ?_, now := hs.now }
      · simp only [Trl.assign, hs.order, List.map_append, List.map_cons, List.map_nil]
      · simp only [Trl.assign, List.length_set]
        exact hs.size
      · simp only [Trl.assign]
        rw [List.getElem?_append] at hp
        split at hp
        · obtain ⟨g1, g2⟩ := hs.at_ p x hp
          refine ⟨g1, ?_⟩
          rw [List.getElem?_set_ne (fun e => hfree x (List.mem_of_getElem? hp) e.symm)]
          exact g2
        · rename_i hpl
          have hp0 : p = its.length := by
            have := (List.getElem?_eq_some_iff.1 hp).1
            simp only [List.length_cons, List.length_nil] at this
            omega
          subst hp0
          rw [Nat.sub_self] at hp
          obtain rfl := Option.some.inj hp
          refine ⟨hb, ?_⟩
          simp only
          rw [List.getElem?_set_self hvl, hol]
      · simp only [Trl.assign] at hv
        have hvne : litV l ≠ v := hf ⟨l, r, T.now⟩ (List.mem_append_right _ (List.mem_singleton.2 rfl))
        rw [List.getElem?_set_ne hvne] at hv
        exact hs.free v s hv (fun x hx => hf x (List.mem_append_left _ hx))
      · rw [List.getElem?_append] at hp hq
        split at hq
        · rw [if_pos (by omega)] at hp
          exact hs.mono p q x y hpq hp hq
        · have hyl : y.level = T.now := by
            have := List.mem_of_getElem? hq
            rw [List.mem_singleton.1 this]
          split at hp
          · have := (hs.pos x (List.mem_of_getElem? hp)).2
            omega
          · have := List.mem_of_getElem? hp
            rw [List.mem_singleton.1 this, hyl]
            exact Int.le_refl _
      · rcases List.mem_append.1 hx with hx | hx
        · exact hs.pos x hx
        · rw [List.mem_singleton.1 hx]
          have := hs.now
          have e : (T.assign l r).now = T.now := rfl
          simp only
          omega
    · cases ha
theorem Sim.lev (h : Sim T its) : ∀ x ∈ its, 0 ≤ x.level ∧ x.level ≤ T.now := h.pos
theorem Sim.varlt (h : Sim T its) {p : Nat} {x : RIt} (hp : its[p]? = some x) : 1 ≤ litV x.lit ∧ litV x.lit < T.vars.length := by
  obtain ⟨h1, h2⟩ := h.at_ p x hp
  exact ⟨(litV_pos h1).1, (List.getElem?_eq_some_iff.1 h2).1⟩
theorem Sim.nodup (h : Sim T its) : (its.map fun x => litV x.lit).Nodup := by
  rw [List.Nodup, List.pairwise_iff_getElem]
  intro i j hi hj hij e
  rw [List.length_map] at hi hj
  rw [List.getElem_map, List.getElem_map] at e
  have := h.inj (List.getElem?_eq_getElem hi) (List.getElem?_eq_getElem hj) e
  omega
/-- there are fewer items than variables, with the one of no number -/
theorem Sim.len (h : Sim T its) : its.length < T.vars.length ∨ its = [] := by
  cases its with
  | nil => exact .inr rfl
  | cons x r =>
    left
    have h1 : ((x :: r).map fun x => litV x.lit).length ≤ (List.range' 1 (T.vars.length - 1)).length := by
      refine List.Nodup.length_le_of_subset h.nodup (fun v hv => ?_)
      obtain ⟨z, hz, rfl⟩ := List.mem_map.1 hv
      obtain ⟨p, hp, e2⟩ := List.getElem_of_mem hz
      have := h.varlt (p := p) (x := z) (by rw [List.getElem?_eq_getElem hp, e2])
      rw [List.mem_range'_1]
      omega
    rw [List.length_map, List.length_range'] at h1
    have := (h.varlt (p := 0) (x := x) rfl).2
    omega
theorem assign_ok {l r : Int} (hl : litB l = true) (hv : litV l < T.vars.length) (hr : 0 ≤ r ∧ r ≤ 1073741824) (h0 : T.fal l = false) (h1 : T.tru l = false) : T.assignErr l r = 0 := by
  unfold Trl.assignErr
  have hp := (litV_pos hl).1
  have hat : T.at (litV l : Nat) = some T.vars[litV l] := by
    unfold Trl.at
    rw [if_pos (by omega), Int.toNat_natCast]
    exact List.getElem?_eq_getElem hv
  rw [hat]
  simp only
  rw [if_neg (by omega), if_neg]
  intro hn
  have h2 : T.val l = T.vars[litV l].value * litS l := by
    unfold Trl.val
    rw [hat]
  have h3 : T.val l ≠ 0 := by
    rw [h2]
    intro e
    rcases Int.mul_eq_zero.1 e with e | e
    · exact hn e
    · exact litS_not l e
  unfold Trl.fal at h0
  unfold Trl.tru at h1
  rw [decide_eq_false_iff_not] at h0 h1
  omega
theorem assigned_now (T : Trl) (l r : Int) : (T.assigned l r).now = T.now := by
  unfold Trl.assigned
  split <;> rfl
theorem assigned_vars (T : Trl) (l r : Int) : (T.assigned l r).vars.length = T.vars.length := by
  unfold Trl.assigned
  split
  · simp [Trl.assign]
  · rfl
end Go.Proofs.YtoojmhjagipmdaaGreat
