/- package clauses: Always, Norm. Maps of package rup: at the type values; keys that are literals. The watch in memory. -/
import Derived.Test.YtoojmhjagipmdaaGreatU005
import Derived.Test.YtoojmhjagipmdaaGreatU001
import Derived.Test.YtoojmhjagipmdaaGreatU006
namespace Go.Proofs.YtoojmhjagipmdaaGreat
open Go.RowKit Go.Shelf Go.Sort
attribute [local go_sem] Oper.semAt_some

/-- the last one of a list, or what there was before -/
def lastG (l : Int) : List Int → Int
  | [] => l
  | x :: r => lastG x r
theorem lastG_snoc (l x : Int) (a : List Int) : lastG l (a ++ [x]) = x := by
  induction a generalizing l with
  | nil => rfl
  | cons y r ih => exact ih y
theorem alwGo_snoc (l x : Int) (a : List Int) : alwGo l (a ++ [x]) = (alwGo l a || (lastG l a != 0 && x == litN (lastG l a))) := by
  induction a generalizing l with
  | nil => simp [alwGo, lastG]
  | cons y r ih =>
    simp only [List.cons_append, alwGo, lastG]
    rw [ih, Bool.or_assoc]
theorem alwGo_pre {l : Int} {a ys : List Int} (h : a <+: ys) (ha : alwGo l a = true) : alwGo l ys = true := by
  obtain ⟨t, rfl⟩ := h
  induction a generalizing l with
  | nil => cases ha
  | cons y r ih =>
    simp only [List.cons_append, alwGo, Bool.or_eq_true] at ha ⊢
    exact ha.imp_right ih
theorem res_bool {fn : Func} (h : fn.results = #[.cell 2 4]) {w : World} {r : Nat} {b : Bool} (hb : Boxed w r 4 (.bool b)) (tmps : Array Value) (t2 : tmps[2]?.getD undef = .pointer (some ⟨r, 0, none⟩)) :
    (results fn tmps).run Tryz.prog w = .ok (.bool b) w := by
  have p0 := hb.cell
  simp [results, h, go_sem, t2, p0]
structure AI (w : World) (pre : List (Int × Nat)) (W : World) : Prop where
  res : Boxed W w.heap.size 4 (.bool false)
  last : Boxed W (w.heap.size + 1) 32 (.int .i64 (lastG 0 (pre.map Prod.fst)))
  below : Below w.heap.size w W
  no : alwGo 0 (pre.map Prod.fst) = false
structure AX (w : World) (pre : List (Int × Nat)) (W : World) : Prop where
  res : Boxed W w.heap.size 4 (.bool true)
  below : Below w.heap.size w W
  yes : alwGo 0 (pre.map Prod.fst) = true
theorem boxed_grown {W W' : World} {row : Option Nat} {B : Nat} {t : TypeId} {v : Value} (h : Boxed W B t v) (hg : W.grownBy W' row) (hr : ∀ r, row = some r → ∃ o : Obj, W.heap[r]? = some o ∧ o.isCells = false) : Boxed W' B t v :=
  h.kept hg (fun e => by
    obtain ⟨o, ho, hc⟩ := hr B e.symm
    rw [show W.heap[B]? = _ from h] at ho
    cases ho
    cases hc)
theorem ai_own (w : World) {N : Nat} (hN : w.heap.size ≤ N) : OwnFrom N (AI w) := fun _ _ _ _ h hg hr =>
  ⟨boxed_grown h.res hg (fun r e => (hr r e).2), boxed_grown h.last hg (fun r e => (hr r e).2), h.below.grown hg h.below.size (fun k e => Nat.le_trans hN (hr k e).1), h.no⟩
theorem ax_own (w : World) {N : Nat} (hN : w.heap.size ≤ N) : OwnFrom N (AX w) := fun _ _ _ _ h hg hr =>
  ⟨boxed_grown h.res hg (fun r e => (hr r e).2), h.below.grown hg h.below.size (fun k e => Nat.le_trans hN (hr k e).1), h.yes⟩
theorem boxed_neq {W : World} {B B' : Nat} {t : TypeId} {v u : Value} (h : Boxed W B t v) (hne : B ≠ B') : Boxed (W.setCell ⟨B', 0, none⟩ u) B t v :=
  h.kept (grownBy_setCell' W B' u) (fun e => hne (Option.some.inj e))
theorem spost_set {X0 : Nat → Prop} {x : Int × Nat} (W : World) (B : Nat) (v : Value) (h : X0 B) : SPost X0 x W (W.setCell ⟨B, 0, none⟩ v) :=
  (KpC.of_grown (grownBy_setCell' W B v)).mono (fun g _ e => .inr (by cases e; exact h))
theorem keepsRec_set (W : World) (B : Nat) (v : Value) : KeepsRec W (W.setCell ⟨B, 0, none⟩ v) := keepsRec_others (KeepsOthers.setCell _ _ _)
set_option maxRecDepth 100000 in
set_option maxHeartbeats 4000000 in
theorem always_any {O : Nat → Prop} (u : Value) (xs : List Int) (w : World) (hu : IntsIn O w u xs) (hlen : xs.length ≤ 1000000000000) :
    Calls Tryz.prog 107 #[u] w fun e w' => e = .returned (.bool (alwL xs)) ∧ Below w.heap.size w w' := by
  obtain ⟨W0, hW0⟩ : ∃ x, w.alloc (.cells #[.bool false] 4) = x := ⟨_, rfl⟩
  have hb0 : Below w.heap.size w W0 := by rw [← hW0]; exact mx_al _ _
  have hc0 : Boxed W0 w.heap.size 4 (.bool false) := by rw [← hW0]; exact Boxed.new _ _ _
  have hz0 : W0.heap.size = w.heap.size + 1 := by rw [← hW0]; simp
  have HU0 := Lib.hid (hu.below hb0)
  have HRC := Lib.hid (right_clause u xs W0 (hu.below hb0) (by omega))
  obtain ⟨A, c, rfl, _⟩ := hu
  have HW0 := Lib.hid hW0
  have HB0 := Lib.hid hb0
  have HC0 := Lib.hid hc0
  obtain ⟨res, hres⟩ : ∃ b, alwL xs = b := ⟨_, rfl⟩
  rw [hres]
  unfold alwL at hres
  obtain ⟨q, hq⟩ : ∃ b, clauseB xs = b := ⟨_, rfl⟩
  rw [hq] at HRC hres
  clear hW0 hb0 hc0 hq
  refine (callsIn_wide (n := 10)).1 ?_
  refine callsIn_of_wp_marks Tryz.func107 rfl trivial ?_ rfl
  simp only [Tryz.ntmps107, List.size_toArray, List.length_cons, List.length_nil, Nat.reduceAdd, Nat.reduceSub, Array.replicate_succ, Array.replicate_zero, List.push_toArray, List.append_toArray, List.nil_append, List.cons_append]
  gi_wp2_with fail
  rw [HW0.out]
  refine ⟨trivial, ?_⟩
  refine (callsIn_wide.2 HRC.out).mono ?_
  rintro e W' ⟨rfl, rfl⟩
  have q1 := HC0.out.cell
  have q2 := HC0.out.frozen
  cases q with
  | false =>
    have HRS := Lib.hid (show false = res from hres)
    clear hres
    gi_wp2
    exact ⟨_, res_bool rfl (HC0.out.set _) _ rfl, by rw [HRS.out], HB0.out.setCell (p := ⟨w.heap.size, 0, none⟩) (Nat.le_refl _) _⟩
  | true =>
    rw [Bool.true_and] at hres
    obtain ⟨W1, hW1⟩ : ∃ x, W0.alloc (.cells #[.int .i64 0] 32) = x := ⟨_, rfl⟩
    have hb1 : Below W0.heap.size W0 W1 := by rw [← hW1]; exact mx_al _ _
    have hc1 : Boxed W1 (w.heap.size + 1) 32 (.int .i64 0) := by rw [← hW1, ← hz0]; exact Boxed.new _ _ _
    have hz1 : W1.heap.size = w.heap.size + 2 := by rw [← hW1]; simp [hz0]
    have hc0' : Boxed W1 w.heap.size 4 (.bool false) := by rw [← hW1]; exact HC0.out.alloc _
    obtain ⟨W1', hW1'⟩ : ∃ x, W1 = x := ⟨_, rfl⟩
    have hc1' : Boxed W1' (w.heap.size + 1) 32 (.int .i64 0) := by rw [← hW1']; exact hc1
    have hc0'' : Boxed W1' w.heap.size 4 (.bool false) := by rw [← hW1']; exact hc0'
    have hz1' : W1'.heap.size = w.heap.size + 2 := by rw [← hW1']; exact hz1
    have hb1' : Below W0.heap.size W0 W1' := by rw [← hW1']; exact hb1
    obtain ⟨W2, hW2⟩ : ∃ x, W1'.alloc (.cells #[.slice A xs.length c] 34) = x := ⟨_, rfl⟩
    have hb2 : Below W1'.heap.size W1' W2 := by rw [← hW2]; exact mx_al _ _
    have hc2 : W2.cell? ⟨w.heap.size + 2, 0, none⟩ = some (.slice A xs.length c) := by rw [← hW2, ← hz1']; exact mx_cell (j := 0) (World.alloc_heap_new _ _)
    have hz2 : W2.heap.size = w.heap.size + 3 := by rw [← hW2]; simp [hz1']
    have hbw : Below w.heap.size w W2 := HB0.out.trans ((hb1'.trans (hb2.mono (by omega))).mono (by omega))
    have HSEQ := Lib.hid (sorted_stops (fun g => g = w.heap.size ∨ g = w.heap.size + 1) (w.heap.size + 2) _ xs W2 hc2 ((HU0.out.below hb1').below hb2) hlen (fun g hg => by omega))
    have HI0 := Lib.hid (show AI w [] W2 from ⟨by rw [← hW2]; exact hc0''.alloc _, by rw [← hW2]; exact hc1'.alloc _, hbw, rfl⟩)
    obtain ⟨ys, hys⟩ : ∃ y, normL xs = y := ⟨_, rfl⟩
    rw [hys] at HSEQ hres
    have HRS := Lib.hid hres
    have HW1 := Lib.hid hW1
    have HW1' := Lib.hid hW1'
    have HW2 := Lib.hid hW2
    have r1 := hc1.cell
    have r2 := hc1.frozen
    clear hb1 hc1 hW1 hW2 hb2 hc2 hbw hys hc0' hc1' hc0'' hb1' hW1' hres q1 q2
    rw [← HW1.out] at r1 r2
    gi_wp2_with fail
    clear r1 r2
    rw [HW1.out]
    rw [HW1'.out]
    refine ⟨trivial, ?_⟩
    refine (callsIn_wide.2 (sorted_run A xs.length c W1')).mono ?_
    rintro e W' ⟨rfl, rfl⟩
    rw [HW2.out]
    gi_wp2_with fail
    refine wpIn_range_M (gf := 117) (lb := #[.pointer (some ⟨w.heap.size + 2, 0, none⟩)]) rfl (enters_of Tryz.func117 (by kernel_rfl) rfl) HSEQ.out (Below.refl _ _) (fun _ => rfl)
      (fun pre x W W3 l r r' h1 h2 h3 h4 => SPost.turn h4 h3) (fun pre x W W3 l r r' h1 h2 h3 h4 => trivial)
      (AI w) (AX w) (ai_own _ (by omega)) (ax_own _ (by omega)) HI0.out
      ?frame (GMid (fun g => g = w.heap.size ∨ g = w.heap.size + 1) (AI w) ys (W2.heap.size + 2))
      (fun pre x W Bx W' l r r' h1 h2 h3 h4 => h4.turn (ai_own _ (by omega)) h1 h3)
      ?assign ?body ?done ?stop
    case assign =>
      rintro l pre x W K hi hp hK
      dsimp only [sv]
      gi_wp2
      obtain ⟨Bx, hBx⟩ : ∃ b : Nat, b = 0 := ⟨0, rfl⟩
      exact hK Bx W (KeepsRec.refl W) ⟨hi, hp, KpC.refl _ _⟩
    case body =>
      rintro l pre x W Bx W' ⟨hi, hp, hk⟩
      have HK := Lib.hid hk
      have HI := Lib.hid hi
      have r1 := hi.last.cell
      have r2 := hi.last.frozen
      have r3 := hi.res.cell
      have r4 := hi.res.frozen
      obtain ⟨x1, hx1⟩ : ∃ z, x.1 = z := ⟨_, rfl⟩
      rw [hx1]
      have hsn := alwGo_snoc 0 x1 (pre.map Prod.fst)
      rw [hi.no, Bool.false_or] at hsn
      have hsl := lastG_snoc 0 x1 (pre.map Prod.fst)
      obtain ⟨la, hla⟩ : ∃ z, lastG 0 (pre.map Prod.fst) = z := ⟨_, rfl⟩
      rw [hla] at hsn r1
      have HMP := Lib.hid (show (pre ++ [x]).map Prod.fst = pre.map Prod.fst ++ [x1] by rw [List.map_append, ← hx1]; rfl)
      have HSL := Lib.hid hsl
      have HSN := Lib.hid hsn
      have HNG := Lib.hid (lit_neg la W')
      clear hi hp hk hx1 hsl hla
      cases hz : (la != 0) with
      | false =>
        rw [hz, Bool.false_and] at hsn
        have HSN := Lib.hid hsn
        clear hsn
        gi_wp2_with fail
        refine ⟨trivial, ?_⟩
        gi_wp2_with fail
        refine ⟨keepsRec_set _ _ _, ⟨boxed_neq HI.out.res (by omega), ?_, HI.out.below.setCell (p := ⟨w.heap.size + 1, 0, none⟩) (Nat.le_succ _) _, by rw [HMP.out]; exact HSN.out⟩, HK.out.trans (spost_set _ _ _ (.inr rfl))⟩
        rw [HMP.out, HSL.out]
        exact HI.out.last.set _
      | true =>
        rw [hz, Bool.true_and] at hsn
        cases hq : (x1 == litN la) with
        | false =>
          rw [hq] at hsn
          have HSN := Lib.hid hsn
          clear hsn
          gi_wp2_with fail
          refine ⟨trivial, ((CallsIn.inRound l (callsIn_wide.2 HNG.out)).mono ?_)⟩
          rintro e W4 ⟨rfl, rfl⟩
          gi_wp2_with fail
          refine ⟨keepsRec_set _ _ _, ⟨boxed_neq HI.out.res (by omega), ?_, HI.out.below.setCell (p := ⟨w.heap.size + 1, 0, none⟩) (Nat.le_succ _) _, by rw [HMP.out]; exact HSN.out⟩, HK.out.trans (spost_set _ _ _ (.inr rfl))⟩
          rw [HMP.out, HSL.out]
          exact HI.out.last.set _
        | true =>
          rw [hq] at hsn
          have HSN := Lib.hid hsn
          clear hsn
          gi_wp2_with fail
          refine ⟨trivial, ((CallsIn.inRound l (callsIn_wide.2 HNG.out)).mono ?_)⟩
          rintro e W4 ⟨rfl, rfl⟩
          gi_wp2_with fail
          exact ⟨keepsRec_set _ _ _, ⟨HI.out.res.set _, HI.out.below.setCell (p := ⟨w.heap.size, 0, none⟩) (Nat.le_refl _) _, by rw [HMP.out]; exact HSN.out⟩, trivial⟩
    case done =>
      rintro D zs W hD hS hi hDf
      have q1 := hi.res.cell
      have q2 := hi.res.frozen
      have HI := Lib.hid hi
      have HD := Lib.hid hDf
      have HNO := Lib.hid (show alwGo 0 ys = false by rw [← hS]; exact hi.no)
      have hne : D ≠ w.heap.size := by omega
      clear hi hDf hS
      gi_wp2
      have hD' : (W.setCell ⟨w.heap.size, 0, none⟩ (.bool false)).heap[D]? = some (.deferred (some [])) := ((grownBy_setCell' W w.heap.size (.bool false)).block D (heap_lt HD.out) (fun e => hne (Option.some.inj e))).trans HD.out
      refine ⟨by simp, .inl ⟨_, _, rfl, run_takeDeferred hD', ?_⟩⟩
      refine ⟨_, res_bool rfl (boxed_grown (HI.out.res.set (.bool false)) (grownBy_putObj' _ D _) (fun r e => by cases e; exact ⟨_, hD', rfl⟩)) _ rfl, by rw [← HRS.out, HNO.out], ?_⟩
      have hb := HI.out.below.setCell (p := ⟨w.heap.size, 0, none⟩) (Nat.le_refl _) (.bool false)
      exact hb.grown (grownBy_putObj' _ D _) hb.size (fun g e => by cases e; omega)
    case stop =>
      rintro D pre W hD ⟨hpre, _⟩ hi hDf
      have HI := Lib.hid hi
      have HD := Lib.hid hDf
      have HYE := Lib.hid (alwGo_pre hpre hi.yes)
      clear hi hDf hpre
      gi_wp2
      refine ⟨by simp, .inl ⟨_, _, rfl, run_takeDeferred HD.out, ?_⟩⟩
      refine ⟨_, res_bool rfl (boxed_grown HI.out.res (grownBy_putObj' _ D _) (fun r e => by cases e; exact ⟨_, HD.out, rfl⟩)) _ rfl, by rw [← HRS.out, HYE.out], ?_⟩
      exact HI.out.below.grown (grownBy_putObj' _ D _) HI.out.below.size (fun g e => by cases e; omega)
theorem res_norm {fn : Func} (h : fn.results = #[.tmp 2, .tmp 3, .tmp 4]) (tmps : Array Value) (w : World) : (results fn tmps).run Tryz.prog w = .ok (.tuple #[tmps.getD 2 undef, tmps.getD 3 undef, tmps.getD 4 undef]) w := by
  simp [results, h]
/-- what Norm returns -/
def NormOut (w w' : World) (xs : List Int) (e : Ending) : Prop :=
  if clauseB xs = true then ∃ v, e = .returned (.tuple #[v, .bool (alwL xs), .int .i64 0]) ∧ w'.ownsRow w.heap.size 32 1 v (normL xs).length ((normL xs).map (Value.int .i64))
  else e = .returned (.tuple #[.slice none 0 0, .bool false, .int .i64 20])
set_option maxHeartbeats 1000000 in
theorem norm_any {O : Nat → Prop} (u : Value) (xs : List Int) (w : World) (hu : IntsIn O w u xs) (hlen : xs.length ≤ 1000000000000) :
    Calls Tryz.prog 190 #[u] w fun e w' => NormOut w w' xs e ∧ Below w.heap.size w w' := by
  have HR := Lib.hid (right_clause u xs w hu (by omega))
  have HN := Lib.hid (normal_any u xs w hu hlen)
  have HU := Lib.hid hu
  obtain ⟨A, c, rfl, _⟩ := hu
  unfold NormOut
  obtain ⟨q, hq⟩ : ∃ b, clauseB xs = b := ⟨_, rfl⟩
  rw [hq] at HR ⊢
  clear hq
  cases q with
  | false =>
    simp only [Bool.false_eq_true, if_false]
    go_enter Tryz.func190, Tryz.ntmps190
    go_wp2_with fail
    refine HR.out.mono ?_
    rintro e w' ⟨rfl, rfl⟩
    go_wp2_with fail
    refine bodyPost_ret (res_norm rfl _ _) rfl ?_
    exact ⟨rfl, Below.refl _ _⟩
  | true =>
    simp only [if_true]
    go_enter Tryz.func190, Tryz.ntmps190
    go_wp2_with fail
    refine HR.out.mono ?_
    rintro e w' ⟨rfl, rfl⟩
    go_wp2_with fail
    refine HN.out.mono ?_
    rintro e w1 ⟨v, rfl, hr, hb⟩
    have HV := Lib.hid hr
    have HB := Lib.hid hb
    have HA := Lib.hid (always_any _ xs w1 (HU.out.below hb) hlen)
    obtain ⟨res, hres⟩ : ∃ b, alwL xs = b := ⟨_, rfl⟩
    rw [hres] at HA
    have HRS := Lib.hid hres
    obtain ⟨Av, cv, rfl, _⟩ := mx_slice hr
    clear hr hb hres
    go_wp2_with fail
    refine HA.out.mono ?_
    rintro e w2 ⟨rfl, hb2⟩
    have HB2 := Lib.hid hb2
    clear hb2
    go_wp2_with fail
    refine bodyPost_ret (res_norm rfl _ _) rfl ?_
    refine ⟨⟨.slice Av (normL xs).length cv, ?_, own_below HV.out HB2.out⟩, HB.out.trans (HB2.out.mono HB.out.size)⟩
    rw [HRS.out]
    rfl
end Go.Proofs.YtoojmhjagipmdaaGreat
namespace Go.Proofs.YtoojmhjagipmdaaGreat
open Go.RowKit Go.Maps Go.Shelf

theorem MapAt.lookV {w : World} {b n : Nat} {f : Int → Int} (h : MapAt w b n f) {x : Int} (hx : (Lit.int .i64 x).wf = true) :
    (Instr.lookup 117 (.map (some b)) (.int .i64 x) false).run Tryz.prog w = .ok (.int .i64 (f x)) w := by
  obtain ⟨D, ho, hm, hf⟩ := h
  obtain ⟨c, hrun, hat, _⟩ := ho.lookup_int int_law Tryz.underlying117 Tryz.underlying3 (int_zero _) (keyOf_int_mk Tryz.underlying3 hx)
  have := hf x hx
  rw [hat] at this
  have hc : c = f x := by simpa using this
  rw [hrun, hc]
theorem wpList_putV {w : World} {ops : Array Oper} {rest : List Oper} {o : Oper} {a : Act} {Q : Exit → Act → World → Prop} {b n : Nat} {f : Int → Int} (hown : MapAt w b n f)
    (hg : o.guard = none) (m x v : Operand) (hop : o.op = Op.mapUpdate 117 m x v) (hm : a.eval m = .map (some b)) (hn : n < maxLen) (i y : Int) (hx : a.eval x = .int .i64 i) (hv : a.eval v = .int .i64 y)
    (hi : (Lit.int .i64 i).wf = true) (hy : (Lit.int .i64 y).wf = true)
    (hK : ∀ w', MapAt w' b (n + 1) (fun z => if z = i then y else f z) → w.grownBy w' (some b) → wpList Tryz.prog ops Q rest (a.put o.dst undef) w') : wpList Tryz.prog ops Q (o :: rest) a w := by
  obtain ⟨D, ho, hmap, hf⟩ := hown
  exact wpList_mapUpdate_own w hg m x v _ hop 3 3 int_law Tryz.underlying117 _ b n D hm ho hn _ _ _ hx hv (keyOf_int_mk Tryz.underlying3 hi) _ [] (plainElem_int Tryz.underlying3 hy)
    (fun w' h1 h2 => hK w' (MapAt.put hmap hf h1) h2)
theorem lit_law : Keyed Tryz.prog 32 := int_keyed Tryz.underlying32
/-- block b is a map of literals to integers that reads as f -/
def MapL (w : World) (b n : Nat) (f : Int → Int) : Prop :=
  ∃ D : DataW Unit, w.ownsMap Tryz.prog 32 (plainElem Tryz.prog 3) b n D ∧ IsMap D ∧ ∀ x : Int, (Lit.int .i64 x).wf = true → D.atKey (.int .i64 x) (.lit (.int .i64 0)) = .lit (.int .i64 (f x))
theorem MapL.lt {w : World} {b n : Nat} {f : Int → Int} (h : MapL w b n f) : b < w.heap.size := by
  obtain ⟨D, ⟨es, cl, hb, _⟩, _⟩ := h
  exact heap_lt hb
theorem MapL.kept {O : Nat → Prop} {w w' : World} {b n : Nat} {f : Int → Int} (h : MapL w b n f) (k : Kept O w w') (hO : ¬ O b) : MapL w' b n f := by
  obtain ⟨D, ⟨es, cl, hb, rest⟩, h2⟩ := h
  exact ⟨D, ⟨es, cl, (k.block b (heap_lt hb) hO).trans hb, rest⟩, h2⟩
theorem MapL.below {w w' : World} {b n : Nat} {f : Int → Int} (h : MapL w b n f) (k : Below w.heap.size w w') : MapL w' b n f :=
  h.kept (O := fun _ => False) (Kept.of_below k) (fun h => h)
theorem MapL.made (w : World) : MapL (w.alloc (.map #[] 0)) w.heap.size 0 (fun _ => 0) :=
  ⟨.map [], World.ownsMap_made _ _ _ _, isMap_empty, fun _ _ => rfl⟩
theorem MapL.put {w' : World} {b n : Nat} {f : Int → Int} {D : DataW Unit} {x y : Int} (hm : IsMap D) (hf : ∀ x : Int, (Lit.int .i64 x).wf = true → D.atKey (.int .i64 x) (.lit (.int .i64 0)) = .lit (.int .i64 (f x)))
    (h : w'.ownsMap Tryz.prog 32 (plainElem Tryz.prog 3) b (n + 1) (D.put (.int .i64 x) (.lit (.int .i64 y)))) : MapL w' b (n + 1) (fun z => if z = x then y else f z) := by
  refine ⟨_, h, hm.put _ _, fun z hz => ?_⟩
  show _ = DataW.lit (Lit.int .i64 (if z = x then y else f z))
  by_cases hzx : z = x
  · subst hzx
    rw [if_pos rfl, atKey_put_same hm (by simp [WideAt.IsKeyLit])]
  · rw [if_neg hzx, atKey_put_other (by simpa using hzx), hf z hz]
theorem MapL.look {w : World} {b n : Nat} {f : Int → Int} (h : MapL w b n f) {x : Int} (hx : (Lit.int .i64 x).wf = true) :
    (Instr.lookup 229 (.map (some b)) (.int .i64 x) false).run Tryz.prog w = .ok (.int .i64 (f x)) w := by
  obtain ⟨D, ho, hm, hf⟩ := h
  obtain ⟨c, hrun, hat, _⟩ := ho.lookup_int lit_law Tryz.underlying229 Tryz.underlying3 (int_zero _) (keyOf_int_mk Tryz.underlying32 hx)
  have := hf x hx
  rw [hat] at this
  have hc : c = f x := by simpa using this
  rw [hrun, hc]
theorem wpList_putL {w : World} {ops : Array Oper} {rest : List Oper} {o : Oper} {a : Act} {Q : Exit → Act → World → Prop} {b n : Nat} {f : Int → Int} (hown : MapL w b n f)
    (hg : o.guard = none) (m x v : Operand) (hop : o.op = Op.mapUpdate 229 m x v) (hm : a.eval m = .map (some b)) (hn : n < maxLen) (i y : Int) (hx : a.eval x = .int .i64 i) (hv : a.eval v = .int .i64 y)
    (hi : (Lit.int .i64 i).wf = true) (hy : (Lit.int .i64 y).wf = true)
    (hK : ∀ w', MapL w' b (n + 1) (fun z => if z = i then y else f z) → w.grownBy w' (some b) → wpList Tryz.prog ops Q rest (a.put o.dst undef) w') : wpList Tryz.prog ops Q (o :: rest) a w := by
  obtain ⟨D, ho, hmap, hf⟩ := hown
  exact wpList_mapUpdate_own w hg m x v _ hop 32 3 lit_law Tryz.underlying229 _ b n D hm ho hn _ _ _ hx hv (keyOf_int_mk Tryz.underlying32 hi) _ [] (plainElem_int Tryz.underlying3 hy)
    (fun w' h1 h2 => hK w' (MapL.put hmap hf h1) h2)
end Go.Proofs.YtoojmhjagipmdaaGreat
namespace Go.Proofs.YtoojmhjagipmdaaGreat
open Go.RowKit Go.Maps Go.Shelf

/-- what a block of the watch is for -/
inductive WTag
  | kn (id : Int)
  | by_ (id : Int)
  | ls (id : Int)
  | of (l : Int)
/-- a known clause in memory: its block, its two rows -/
structure KnM where
  g : Nat
  bv : Value
  lv : Value
  k : Kn
def KnM.ptr (x : KnM) : Value := .pointer (some ⟨x.g, 0, none⟩)
structure OfM where
  v : Value
  r : List Int
structure KnAt (w : World) (tg : Nat → Option WTag) (id : Int) (x : KnM) : Prop where
  block : w.heap[x.g]? = some (.cells #[x.bv, x.lv] 171 (0, 0))
  tag : tg x.g = some (.kn id)
  by_ : w.ownsRow 0 32 1 x.bv x.k.by_.length (x.k.by_.map (Value.int .i64))
  byt : ∀ g, x.bv.ownBlock = some g → tg g = some (.by_ id)
  ls : w.ownsRow 0 32 1 x.lv x.k.lits.length (x.k.lits.map (Value.int .i64))
  lst : ∀ g, x.lv.ownBlock = some g → tg g = some (.ls id)
structure RowAt13 (w : World) (tg : Nat → Option WTag) (l : Int) (x : OfM) : Prop where
  row : w.ownsRow 0 3 1 x.v x.r.length (x.r.map (Value.int .i64))
  tag : ∀ g, x.v.ownBlock = some g → tg g = some (.of l)
abbrev MapK (w : World) (b : Nat) (m : List (Int × Value)) : Prop := MapS Tryz.prog 3 w b m
abbrev MapO (w : World) (b : Nat) (m : List (Int × Value)) : Prop := MapS Tryz.prog 32 w b m
structure WaMem (O : Nat → Prop) (w : World) (b ab tb : Nat) (S : Wst) (kb ob : Nat) (K : List (Int × KnM)) (F : List (Int × OfM)) (tg : Nat → Option WTag) : Prop where
  own : ∀ g, O g → g < w.heap.size
  inb : O b
  ink : O kb
  ino : O ob
  ne : kb ≠ ob
  intg : ∀ g t, tg g = some t → O g
  block : w.heap[b]? = some (.cells #[.pointer (some ⟨ab, 0, none⟩), .pointer (some ⟨tb, 0, none⟩), .map (some kb), .map (some ob), .int .i64 (S.looked : Nat)] 157 (0, 0))
  kmap : MapK w kb (mapV KnM.ptr K)
  omap : MapO w ob (mapV OfM.v F)
  kS : S.known = mapV KnM.k K
  oS : S.of = mapV OfM.r F
  kn : ∀ p ∈ K, KnAt w tg p.1 p.2
  row : ∀ p ∈ F, RowAt13 w tg p.1 p.2
def WaAt (O : Nat → Prop) (w : World) (b ab tb : Nat) (S : Wst) : Prop := S.Bnd ∧ ∃ kb ob K F tg, WaMem O w b ab tb S kb ob K F tg
theorem MapS.block {P : Program} {kt : TypeId} {w : World} {b : Nat} {m : List (Int × Value)} (h : MapS P kt w b m) : ∃ es c, w.heap[b]? = some (.map es c) := by
  obtain ⟨⟨es, cl, hb, _⟩, _⟩ := h
  exact ⟨es, cl, hb⟩
theorem MapS.not_cells {P : Program} {kt : TypeId} {w : World} {b g : Nat} {m : List (Int × Value)} (h : MapS P kt w b m) {cs : Array Value} {t : TypeId} {f : Nat × Nat} (hg : w.heap[g]? = some (.cells cs t f)) : g ≠ b := by
  rintro rfl
  obtain ⟨es, c, hb⟩ := h.block
  rw [hg] at hb
  cases hb
theorem KnAt.kept {O : Nat → Prop} {w w' : World} {tg tg' : Nat → Option WTag} {id : Int} {x : KnM} (h : KnAt w tg id x) (k : Kept O w w') (ht : ∀ g, g < w.heap.size → tg' g = tg g) (hO : ∀ g t, tg g = some t → (t = .kn id ∨ t = .by_ id ∨ t = .ls id) → (∃ c e f, w.heap[g]? = some (.cells c e f)) → ¬ O g) : KnAt w' tg' id x where
  block := (k.block _ (heap_lt h.block) (hO _ _ h.tag (.inl rfl) ⟨_, _, _, h.block⟩)).trans h.block
  tag := (ht _ (heap_lt h.block)).trans h.tag
  by_ := own_kept h.by_ k (fun g hg => hO g _ (h.byt g hg) (.inr (.inl rfl)) (by
    obtain ⟨c, hc⟩ := own_type h.by_ g hg
    exact ⟨_, _, _, hc⟩))
  byt := fun g hg => (ht g (own_lt h.by_ g hg).2).trans (h.byt g hg)
  ls := own_kept h.ls k (fun g hg => hO g _ (h.lst g hg) (.inr (.inr rfl)) (by
    obtain ⟨c, hc⟩ := own_type h.ls g hg
    exact ⟨_, _, _, hc⟩))
  lst := fun g hg => (ht g (own_lt h.ls g hg).2).trans (h.lst g hg)
theorem RowAt13.kept {O : Nat → Prop} {w w' : World} {tg tg' : Nat → Option WTag} {l : Int} {x : OfM} (h : RowAt13 w tg l x) (k : Kept O w w') (ht : ∀ g, g < w.heap.size → tg' g = tg g) (hO : ∀ g, tg g = some (.of l) → (∃ c e f, w.heap[g]? = some (.cells c e f)) → ¬ O g) : RowAt13 w' tg' l x where
  row := own_kept h.row k (fun g hg => hO g (h.tag g hg) (by
    obtain ⟨c, hc⟩ := own_type h.row g hg
    exact ⟨_, _, _, hc⟩))
  tag := fun g hg => (ht g (own_lt h.row g hg).2).trans (h.tag g hg)
section
variable {O : Nat → Prop} {w : World} {b ab tb kb ob : Nat} {S : Wst} {K : List (Int × KnM)} {F : List (Int × OfM)} {tg : Nat → Option WTag}
theorem WaMem.kept (h : WaMem O w b ab tb S kb ob K F tg) {O' : Nat → Prop} {w' : World} (k : Kept O' w w') (hO : ∀ g, O g → ¬ O' g) : WaMem O w' b ab tb S kb ob K F tg where
  own := fun g hg => Nat.lt_of_lt_of_le (h.own g hg) k.size
  inb := h.inb
  ink := h.ink
  ino := h.ino
  ne := h.ne
  intg := h.intg
  block := (k.block b (heap_lt h.block) (hO b h.inb)).trans h.block
  kmap := h.kmap.kept k (hO kb h.ink)
  omap := h.omap.kept k (hO ob h.ino)
  kS := h.kS
  oS := h.oS
  kn := fun p hp => (h.kn p hp).kept k (fun _ _ => rfl) (fun g t ht _ _ => hO g (h.intg g t ht))
  row := fun p hp => (h.row p hp).kept k (fun _ _ => rfl) (fun g ht _ => hO g (h.intg g _ ht))
theorem WaAt.kept {O' : Nat → Prop} {w' : World} (h : WaAt O w b ab tb S) (k : Kept O' w w') (hO : ∀ g, O g → ¬ O' g) : WaAt O w' b ab tb S := by
  obtain ⟨hb, kb, ob, K, F, tg, h⟩ := h
  exact ⟨hb, kb, ob, K, F, tg, h.kept k hO⟩
theorem WaAt.below {w' : World} (h : WaAt O w b ab tb S) (k : Below w.heap.size w w') : WaAt O w' b ab tb S :=
  h.kept (O' := fun _ => False) (Kept.of_below k) (fun _ _ h => h)
theorem WaMem.congr (h : WaMem O w b ab tb S kb ob K F tg) {O' : Nat → Prop} (hO : ∀ g, O g ↔ O' g) : WaMem O' w b ab tb S kb ob K F tg :=
  { h with own := fun g hg => h.own g ((hO g).2 hg), inb := (hO _).1 h.inb, ink := (hO _).1 h.ink, ino := (hO _).1 h.ino, intg := fun g t ht => (hO g).1 (h.intg g t ht) }
theorem WaMem.kR (h : WaMem O w b ab tb S kb ob K F tg) : Rising K := mapV_rising_of h.kmap.2.1
theorem WaMem.knGet (h : WaMem O w b ab tb S kb ob K F tg) (id : Int) : S.kn id = (getA K id).map KnM.k := by
  unfold Wst.kn
  rw [h.kS, mapV_get]
theorem WaMem.rowGet (h : WaMem O w b ab tb S kb ob K F tg) (l : Int) : S.row l = ((getA F l).map OfM.r).getD [] := by
  unfold Wst.row
  rw [h.oS, mapV_get]
/-- what the map of rows holds at a literal -/
def rowV (F : List (Int × OfM)) (l : Int) : Value := ((getA F l).map OfM.v).getD (.slice none 0 0)
theorem WaMem.rowAt (h : WaMem O w b ab tb S kb ob K F tg) (l : Int) : w.ownsRow 0 3 1 (rowV F l) (S.row l).length ((S.row l).map (Value.int .i64)) ∧ ∀ g, (rowV F l).ownBlock = some g → tg g = some (.of l) := by
  rw [h.rowGet]
  unfold rowV
  cases hg : getA F l with
  | none => exact ⟨World.ownsRow_nil _ _ _ _, fun g hg => by cases hg⟩
  | some x =>
    have := h.row _ (getA_some hg)
    exact ⟨this.row, this.tag⟩
theorem lit_zero_slice (w : World) : (zeroValue 63).run Tryz.prog w = .ok (.slice none 0 0) w := by kernel_rfl
theorem known_zero (w : World) : (zeroValue 164).run Tryz.prog w = .ok (.pointer none) w := by kernel_rfl
/-- a look into the map of rows -/
theorem WaMem.lookO (h : WaMem O w b ab tb S kb ob K F tg) {l : Int} (hl : (Lit.int .i64 l).wf = true) : (Instr.lookup 155 (.map (some ob)) (.int .i64 l) false).run Tryz.prog w = .ok (rowV F l) w := by
  have := h.omap.look lit_law Tryz.underlying32 Tryz.underlying155 (lit_zero_slice w) false hl
  rw [mapV_get] at this
  exact this
/-- what the map of known clauses holds at an ID -/
def knV (K : List (Int × KnM)) (id : Int) : Value := ((getA K id).map KnM.ptr).getD (.pointer none)
theorem WaMem.lookK (h : WaMem O w b ab tb S kb ob K F tg) {id : Int} (hl : (Lit.int .i64 id).wf = true) : (Instr.lookup 154 (.map (some kb)) (.int .i64 id) false).run Tryz.prog w = .ok (knV K id) w := by
  have := h.kmap.look int_law Tryz.underlying3 Tryz.underlying154 (known_zero w) false hl
  rw [mapV_get] at this
  exact this
theorem WaMem.knAt (h : WaMem O w b ab tb S kb ob K F tg) {id : Int} {k : Kn} (hk : S.kn id = some k) : ∃ x, getA K id = some x ∧ x.k = k ∧ KnAt w tg id x ∧ knV K id = .pointer (some ⟨x.g, 0, none⟩) := by
  rw [h.knGet] at hk
  cases hg : getA K id with
  | none => rw [hg] at hk; cases hk
  | some x =>
    rw [hg] at hk
    exact ⟨x, rfl, Option.some.inj hk, h.kn _ (getA_some hg), by unfold knV; rw [hg]; rfl⟩
theorem WaMem.knNone (h : WaMem O w b ab tb S kb ob K F tg) {id : Int} (hk : S.kn id = none) : getA K id = none ∧ knV K id = .pointer none := by
  rw [h.knGet, Option.map_eq_none_iff] at hk
  exact ⟨hk, by unfold knV; rw [hk]; rfl⟩
theorem putA_same {α : Type} {m : List (Int × α)} (hr : Rising m) {x : Int} {v : α} (h : getA m x = some v) : putA m x v = m := by
  have hm := getA_some h
  clear h
  induction m with
  | nil => cases hm
  | cons y r ih =>
    obtain ⟨h1, h2⟩ := List.pairwise_cons.1 hr
    rcases List.mem_cons.1 hm with e | hm'
    · subst e
      have hd : delA ((x, v) :: r) x = r := by
        unfold delA
        rw [List.filter_cons_of_neg (by simp), List.filter_eq_self.2]
        intro p hp
        have := h1 p hp
        simp at this ⊢
        omega
      unfold putA
      rw [hd]
      cases r with
      | nil => rfl
      | cons z t =>
        unfold insA
        rw [if_pos (h1 z List.mem_cons_self)]
    · have hyx : y.1 < x := h1 _ hm'
      have hd : delA (y :: r) x = y :: delA r x := by
        unfold delA
        rw [List.filter_cons_of_pos (by simp; omega)]
      have := ih h2 hm'
      unfold putA at this ⊢
      rw [hd]
      unfold insA
      rw [if_neg (by show ¬ x < y.1; omega), this]
/-- a row is replaced -/
theorem WaMem.setRow (h : WaMem O w b ab tb S kb ob K F tg) {w2 : World} {l : Int} {v' : Value} {r' : List Int} (k : Kept (fun g => (rowV F l).ownBlock = some g ∨ g = ob) w w2) (hr : w2.ownsRow 0 3 1 v' r'.length (r'.map (Value.int .i64))) (hb : v'.ownBlock = (rowV F l).ownBlock ∨ ∃ g, v'.ownBlock = some g ∧ w.heap.size ≤ g) (hm : MapO w2 ob (putA (mapV OfM.v F) l v')) :
    ∃ tg', WaMem (fun g => O g ∨ w.heap.size ≤ g ∧ g < w2.heap.size) w2 b ab tb ⟨S.known, putA S.of l r', S.looked⟩ kb ob K (putA F l ⟨v', r'⟩) tg' := by
  obtain ⟨hrow, htag⟩ := h.rowAt l
  have hown : ∀ g, (rowV F l).ownBlock = some g → ∀ t, tg g = some t → t = .of l := fun g hg t ht => by
    rw [htag g hg] at ht
    exact (Option.some.inj ht).symm
  have hneb : ∀ g, (rowV F l).ownBlock = some g ∨ g = ob → b ≠ g := by
    rintro g (hg | hg) rfl
    · exact mx_not hrow h.block (by decide) hg
    · exact h.omap.not_cells h.block hg
  have hnek : ¬ ((rowV F l).ownBlock = some kb ∨ kb = ob) := by
    rintro (hg | hg)
    · obtain ⟨c, hc⟩ := own_type hrow kb hg
      exact h.kmap.not_cells hc rfl
    · exact h.ne hg
  refine ⟨fun g => if g < w.heap.size then tg g else if v'.ownBlock = some g then some (.of l) else none, ?_⟩
  have ht : ∀ g, g < w.heap.size → (if g < w.heap.size then tg g else if v'.ownBlock = some g then some (WTag.of l) else none) = tg g := fun g hg => if_pos hg
  refine { own := ?_, inb := .inl h.inb, ink := .inl h.ink, ino := .inl h.ino, ne := h.ne, intg := ?_, block := ?_, kmap := ?_, omap := ?_, kS := h.kS, oS := ?_, kn := ?_, row := ?_ }
  · rintro g (hg | hg)
    · exact Nat.lt_of_lt_of_le (h.own g hg) k.size
    · exact hg.2
  · intro g t hgt
    split at hgt
    · exact .inl (h.intg g t hgt)
    · rename_i hge
      split at hgt
      · rename_i hv
        exact .inr ⟨by omega, (own_lt hr g hv).2⟩
      · cases hgt
  · exact (k.block b (heap_lt h.block) (fun e => hneb b e rfl)).trans h.block
  · exact h.kmap.kept k hnek
  · rw [mapV_put]
    exact hm
  · show putA S.of l r' = _
    rw [mapV_put, h.oS]
  · intro p hp
    refine (h.kn p hp).kept k ht (fun g t htg hcase hcells => ?_)
    rintro (hg | hg)
    · have := hown g hg t htg
      rw [this] at hcase
      rcases hcase with e | e | e <;> cases e
    · obtain ⟨c, e, f, hc⟩ := hcells
      exact h.omap.not_cells hc hg
  · intro p hp
    rcases putA_mem.1 hp with rfl | ⟨hp, hne⟩
    · refine ⟨hr, fun g hg => ?_⟩
      show (if g < w.heap.size then tg g else if v'.ownBlock = some g then some (WTag.of l) else none) = some (.of l)
      split
      · rename_i hlt
        rcases hb with e | ⟨g', e, hge⟩
        · exact htag g (e ▸ hg)
        · rw [e] at hg
          obtain rfl := Option.some.inj hg
          omega
      · rfl
    · refine (h.row p hp).kept k ht (fun g htg hcells => ?_)
      rintro (hg | hg)
      · have := hown g hg _ htg
        injection this with e
        exact hne e
      · obtain ⟨c, e, f, hc⟩ := hcells
        exact h.omap.not_cells hc hg
/-- another pair of literals by which a clause is watched, in the same row -/
theorem WaMem.setKn (h : WaMem O w b ab tb S kb ob K F tg) {w2 : World} {id : Int} {x : KnM} (hx : getA K id = some x) {k' : Kn} (hl : k'.lits = x.k.lits) (k : Kept (fun g => x.bv.ownBlock = some g) w w2) (hr : w2.ownsRow 0 32 1 x.bv k'.by_.length (k'.by_.map (Value.int .i64))) :
    WaMem O w2 b ab tb ⟨putA S.known id k', S.of, S.looked⟩ kb ob (putA K id ⟨x.g, x.bv, x.lv, k'⟩) F tg := by
  have hk := h.kn _ (getA_some hx)
  have hown : ∀ g, x.bv.ownBlock = some g → ∀ t, tg g = some t → t = .by_ id := fun g hg t ht => by
    rw [hk.byt g hg] at ht
    exact (Option.some.inj ht).symm
  have hcell : ∀ g, x.bv.ownBlock = some g → ∃ c, w.heap[g]? = some (.cells c 32 (0, 0)) := own_type hk.by_
  refine { own := fun g hg => Nat.lt_of_lt_of_le (h.own g hg) k.size, inb := h.inb, ink := h.ink, ino := h.ino, ne := h.ne, intg := h.intg, block := ?_, kmap := ?_, omap := ?_, kS := ?_, oS := h.oS, kn := ?_, row := ?_ }
  · refine (k.block b (heap_lt h.block) (fun e => ?_)).trans h.block
    exact mx_not hk.by_ h.block (by decide) e
  · have e : mapV KnM.ptr (putA K id ⟨x.g, x.bv, x.lv, k'⟩) = mapV KnM.ptr K := by
      rw [mapV_put]
      refine putA_same h.kmap.2.1 ?_
      rw [mapV_get, hx]
      rfl
    rw [e]
    refine h.kmap.kept k (fun e => ?_)
    obtain ⟨c, hc⟩ := hcell kb e
    exact h.kmap.not_cells hc rfl
  · refine h.omap.kept k (fun e => ?_)
    obtain ⟨c, hc⟩ := hcell ob e
    exact h.omap.not_cells hc rfl
  · show putA S.known id k' = _
    rw [mapV_put, h.kS]
  · intro p hp
    rcases putA_mem.1 hp with rfl | ⟨hp, hne⟩
    · refine ⟨?_, hk.tag, hr, hk.byt, ?_, hk.lst⟩
      · refine (k.block x.g (heap_lt hk.block) (fun e => ?_)).trans hk.block
        exact mx_not hk.by_ hk.block (by decide) e
      · show w2.ownsRow 0 _ 1 x.lv k'.lits.length (k'.lits.map _)
        rw [hl]
        refine own_kept hk.ls k (fun g hg e => ?_)
        have := hown g e _ (hk.lst g hg)
        cases this
    · refine (h.kn p hp).kept k (fun _ _ => rfl) (fun g t htg hcase _ hg => ?_)
      have := hown g hg t htg
      rw [this] at hcase
      rcases hcase with e | e | e
      · cases e
      · injection e with e
        exact hne e.symm
      · cases e
  · intro p hp
    refine (h.row p hp).kept k (fun _ _ => rfl) (fun g htg _ hg => ?_)
    have := hown g hg _ htg
    cases this
/-- a clause becomes known -/
theorem WaMem.addKn (h : WaMem O w b ab tb S kb ob K F tg) {w2 : World} {id : Int} {g : Nat} {lv : Value} {c : List Int} (k : Kept (fun g => g = kb) w w2) (hb : w2.heap[g]? = some (.cells #[.slice none 0 0, lv] 171 (0, 0))) (hg : w.heap.size ≤ g)
    (hr : w2.ownsRow 0 32 1 lv c.length (c.map (Value.int .i64))) (hf : ∀ g, lv.ownBlock = some g → w.heap.size ≤ g) (hm : MapK w2 kb (putA (mapV KnM.ptr K) id (.pointer (some ⟨g, 0, none⟩)))) :
    ∃ tg', WaMem (fun g => O g ∨ w.heap.size ≤ g ∧ g < w2.heap.size) w2 b ab tb ⟨putA S.known id ⟨[], c⟩, S.of, S.looked⟩ kb ob (putA K id ⟨g, .slice none 0 0, lv, ⟨[], c⟩⟩) F tg' := by
  refine ⟨fun j => if j < w.heap.size then tg j else if j = g then some (.kn id) else if lv.ownBlock = some j then some (.ls id) else none, ?_⟩
  have ht : ∀ j, j < w.heap.size → (if j < w.heap.size then tg j else if j = g then some (WTag.kn id) else if lv.ownBlock = some j then some (.ls id) else none) = tg j := fun j hj => if_pos hj
  refine { own := ?_, inb := .inl h.inb, ink := .inl h.ink, ino := .inl h.ino, ne := h.ne, intg := ?_, block := ?_, kmap := ?_, omap := ?_, kS := ?_, oS := h.oS, kn := ?_, row := ?_ }
  · rintro g (hg | hg)
    · exact Nat.lt_of_lt_of_le (h.own g hg) k.size
    · exact hg.2
  · intro j t hjt
    split at hjt
    · exact .inl (h.intg j t hjt)
    · rename_i hge
      split at hjt
      · rename_i e
        exact .inr ⟨by omega, by rw [e]; exact heap_lt hb⟩
      · split at hjt
        · rename_i hv
          exact .inr ⟨by omega, (own_lt hr j hv).2⟩
        · cases hjt
  · exact (k.block b (heap_lt h.block) (fun e => h.kmap.not_cells h.block e)).trans h.block
  · rw [mapV_put]
    exact hm
  · exact h.omap.kept k (fun e => h.ne e.symm)
  · show putA S.known id _ = _
    rw [mapV_put, h.kS]
  · intro p hp
    rcases putA_mem.1 hp with rfl | ⟨hp, hne⟩
    · refine ⟨hb, ?_, World.ownsRow_nil _ _ _ _, fun j hj => (by cases hj), hr, fun j hj => ?_⟩
      · show (if g < w.heap.size then tg g else if g = g then some (WTag.kn id) else _) = _
        rw [if_neg (by omega), if_pos rfl]
      · show (if j < w.heap.size then tg j else if j = g then some (WTag.kn id) else if lv.ownBlock = some j then some (.ls id) else none) = _
        have h1 := hf j hj
        have h2 : j ≠ g := fun e => mx_not hr hb (by decide) (e ▸ hj)
        rw [if_neg (by omega), if_neg h2, if_pos hj]
    · refine (h.kn p hp).kept k ht (fun j t _ _ hcells e => ?_)
      obtain ⟨c, e', f, hc⟩ := hcells
      exact h.kmap.not_cells hc e
  · intro p hp
    refine (h.row p hp).kept k ht (fun j _ hcells e => ?_)
    obtain ⟨c, e', f, hc⟩ := hcells
    exact h.kmap.not_cells hc e
/-- the row of those by which a clause is watched is laid down -/
theorem WaMem.setBy (h : WaMem O w b ab tb S kb ob K F tg) {w2 : World} {id : Int} {x : KnM} (hx : getA K id = some x) {v' : Value} {r' : List Int} (k : Kept (fun g => g = x.g) w w2) (hb : w2.heap[x.g]? = some (.cells #[v', x.lv] 171 (0, 0)))
    (hr : w2.ownsRow 0 32 1 v' r'.length (r'.map (Value.int .i64))) (hf : ∀ g, v'.ownBlock = some g → w.heap.size ≤ g) :
    ∃ tg', WaMem (fun g => O g ∨ w.heap.size ≤ g ∧ g < w2.heap.size) w2 b ab tb ⟨putA S.known id ⟨r', x.k.lits⟩, S.of, S.looked⟩ kb ob (putA K id ⟨x.g, v', x.lv, ⟨r', x.k.lits⟩⟩) F tg' := by
  have hk := h.kn _ (getA_some hx)
  refine ⟨fun j => if j < w.heap.size then tg j else if v'.ownBlock = some j then some (.by_ id) else none, ?_⟩
  have ht : ∀ j, j < w.heap.size → (if j < w.heap.size then tg j else if v'.ownBlock = some j then some (WTag.by_ id) else none) = tg j := fun j hj => if_pos hj
  refine { own := ?_, inb := .inl h.inb, ink := .inl h.ink, ino := .inl h.ino, ne := h.ne, intg := ?_, block := ?_, kmap := ?_, omap := ?_, kS := ?_, oS := h.oS, kn := ?_, row := ?_ }
  · rintro g (hg | hg)
    · exact Nat.lt_of_lt_of_le (h.own g hg) k.size
    · exact hg.2
  · intro j t hjt
    split at hjt
    · exact .inl (h.intg j t hjt)
    · rename_i hge
      split at hjt
      · rename_i hv
        exact .inr ⟨by omega, (own_lt hr j hv).2⟩
      · cases hjt
  · refine (k.block b (heap_lt h.block) (fun e => ?_)).trans h.block
    have h1 := h.block
    rw [e, hk.block] at h1
    simp at h1
  · have e : mapV KnM.ptr (putA K id ⟨x.g, v', x.lv, ⟨r', x.k.lits⟩⟩) = mapV KnM.ptr K := by
      rw [mapV_put]
      refine putA_same h.kmap.2.1 ?_
      rw [mapV_get, hx]
      rfl
    rw [e]
    exact h.kmap.kept k (fun e => h.kmap.not_cells hk.block e.symm)
  · exact h.omap.kept k (fun e => h.omap.not_cells hk.block e.symm)
  · show putA S.known id _ = _
    rw [mapV_put, h.kS]
  · intro p hp
    rcases putA_mem.1 hp with rfl | ⟨hp, hne⟩
    · refine ⟨hb, (ht _ (heap_lt hk.block)).trans hk.tag, hr, fun j hj => ?_, ?_, fun j hj => (ht _ (own_lt hk.ls j hj).2).trans (hk.lst j hj)⟩
      · show (if j < w.heap.size then tg j else if v'.ownBlock = some j then some (WTag.by_ id) else none) = _
        have h1 := hf j hj
        rw [if_neg (by omega), if_pos hj]
      · exact own_kept hk.ls k (fun g hg e => mx_not hk.ls hk.block (by decide) (e ▸ hg))
    · refine (h.kn p hp).kept k ht (fun j t htj hcase _ e => ?_)
      rw [e, hk.tag] at htj
      obtain rfl := Option.some.inj htj
      rcases hcase with e | e | e
      · injection e with e
        exact hne e.symm
      · cases e
      · cases e
  · intro p hp
    refine (h.row p hp).kept k ht (fun j htj _ e => ?_)
    rw [e, hk.tag] at htj
    cases htj
theorem WaMem.delKn (h : WaMem O w b ab tb S kb ob K F tg) {w2 : World} {id : Int} (k : Kept (fun g => g = kb) w w2) (hm : MapK w2 kb (delA (mapV KnM.ptr K) id)) :
    WaMem O w2 b ab tb ⟨delA S.known id, S.of, S.looked⟩ kb ob (delA K id) F tg := by
  refine { own := fun g hg => Nat.lt_of_lt_of_le (h.own g hg) k.size, inb := h.inb, ink := h.ink, ino := h.ino, ne := h.ne, intg := h.intg, block := (k.block b (heap_lt h.block) (fun e => h.kmap.not_cells h.block e)).trans h.block, kmap := ?_, omap := h.omap.kept k (fun e => h.ne e.symm), kS := ?_, oS := h.oS, kn := ?_, row := ?_ }
  · rw [mapV_del]
    exact hm
  · show delA S.known id = _
    rw [mapV_del, h.kS]
  · intro p hp
    refine (h.kn p (delA_mem.1 hp).1).kept k (fun _ _ => rfl) (fun j t _ _ hcells e => ?_)
    obtain ⟨c, e', f, hc⟩ := hcells
    exact h.kmap.not_cells hc e
  · intro p hp
    refine (h.row p hp).kept k (fun _ _ => rfl) (fun j _ hcells e => ?_)
    obtain ⟨c, e', f, hc⟩ := hcells
    exact h.kmap.not_cells hc e
theorem WaMem.setLooked (h : WaMem O w b ab tb S kb ob K F tg) (n : Nat) : WaMem O (w.setCell ⟨b, 4, none⟩ (.int .i64 (n : Nat))) b ab tb ⟨S.known, S.of, n⟩ kb ob K F tg := by
  have k : Kept (fun g => g = b) w (w.setCell ⟨b, 4, none⟩ (.int .i64 (n : Nat))) := Kept.setCell (Kept.refl (fun g => g = b) w) _ _ rfl
  refine { own := fun g hg => Nat.lt_of_lt_of_le (h.own g hg) k.size, inb := h.inb, ink := h.ink, ino := h.ino, ne := h.ne, intg := h.intg, block := mx_set h.block _, kmap := h.kmap.kept k (fun e => h.kmap.not_cells h.block e.symm), omap := h.omap.kept k (fun e => h.omap.not_cells h.block e.symm), kS := h.kS, oS := h.oS, kn := ?_, row := ?_ }
  · intro p hp
    have hk := h.kn p hp
    refine ⟨(k.block _ (heap_lt hk.block) (fun e => ?_)).trans hk.block, hk.tag, own_kept hk.by_ k (fun g hg e => mx_not hk.by_ h.block (by decide) (e ▸ hg)), hk.byt, own_kept hk.ls k (fun g hg e => mx_not hk.ls h.block (by decide) (e ▸ hg)), hk.lst⟩
    have h1 := h.block
    rw [← e, hk.block] at h1
    simp at h1
  · intro p hp
    refine ⟨own_kept (h.row p hp).row k (fun g hg e => mx_not (h.row p hp).row h.block (by decide) (e ▸ hg)), (h.row p hp).tag⟩
end
end Go.Proofs.YtoojmhjagipmdaaGreat
