/- The trail: Lits, the literals from a place on, where a round may write the variables. A region that draws its order, in a round of a range over a function. -/
import Derived.Test.YtobcnejecogfoaaGreatQ19
import Derived.Test.YtobcnejecogfoaaGreatQ07
import Derived.Test.YtobcnejecogfoaaGreatQ03
import Derived.OrdersIn
namespace Go.Proofs.YtobcnejecogfoaaGreat
open Go.RowKit Go.Shelf Go.Maps
attribute [local go_sem] Oper.semAt_some

/-- a trail, in blocks of cells alone -/
theorem TrAt.cells {O : Nat → Prop} {w : World} {b : Nat} {T : Trl} (h : TrAt O w b T) : TrAt (fun g => O g ∧ ∃ c t f, w.heap[g]? = some (.cells c t f)) w b T := by
  obtain ⟨hk, gv, cv, ov, sv, h⟩ := h
  have hc : ∀ {base size n : Nat} {e : TypeId} {v : Value} {xs : List Value}, w.ownsRow base e size v n xs → ∀ g, v.ownBlock = some g → ∃ c t f, w.heap[g]? = some (.cells c t f) := fun h g hg => by
    obtain ⟨c, hc⟩ := own_type h g hg
    exact ⟨c, _, _, hc⟩
  exact ⟨hk, gv, cv, ov, sv, ⟨fun g hg => h.own g hg.1, ⟨h.inb, _, _, _, h.block⟩, ⟨h.invs, hc h.vars gv rfl⟩, h.block, h.vars, h.order, fun g hg => ⟨h.orderb g hg, hc h.order g hg⟩, h.starts, fun g hg => ⟨h.startsb g hg, hc h.starts g hg⟩⟩⟩
def TrX (w : World) (b : Nat) (T : Trl) : Prop := ∃ O : Nat → Prop, TrAt O w b T
/-- what a round over Lits keeps -/
def KpB (X : Nat → Prop) (b : Nat) (A B : World) : Prop := KpC X A B ∧ ∀ T, TrX A b T → ∃ T', TrX B b T' ∧ T'.order = T.order
theorem KpB.refl (X : Nat → Prop) (b : Nat) (A : World) : KpB X b A A := ⟨KpC.refl _ _, fun T h => ⟨T, h, rfl⟩⟩
theorem KpB.trans {X : Nat → Prop} {b : Nat} {A B C : World} (h : KpB X b A B) (k : KpB X b B C) : KpB X b A C := ⟨h.1.trans k.1, fun T hT => by
  obtain ⟨T1, h1, e1⟩ := h.2 T hT
  obtain ⟨T2, h2, e2⟩ := k.2 T1 h1
  exact ⟨T2, h2, e2.trans e1⟩⟩
theorem KpB.putObj {X : Nat → Prop} {b : Nat} (W : World) (l : Nat) (o o' : Obj) (h : W.heap[l]? = some o) (hc : o.isCells = false) (hw : o.isWalk = false) : KpB X b W (W.putObj l o') := by
  have hk := KpC.putObj W l o o' h hc hw
  refine ⟨hk.mono (fun _ _ e => e.elim), fun T hT => ⟨T, ?_, rfl⟩⟩
  obtain ⟨O, hT⟩ := hT
  refine ⟨_, hT.cells.kept hk.kept (fun g hg e => ?_)⟩
  obtain ⟨_, c, t, f, hg⟩ := hg
  exact e.elim (fun e => e.elim) (xo_cells hg)
/-- the literals from a place on, each with its being there -/
abbrev UpX (o : List Int) : Type := {x : Nat × Int // x.2 ∈ o}
def upS (o : List Int) : Nat → Nat → List (UpX o)
  | _, 0 => []
  | k, n + 1 => if h : k < o.length then ⟨(k, o[k]), List.getElem_mem h⟩ :: upS o (k + 1) n else []
def dvS {o : List Int} (x : UpX o) : Array Value := #[.int .i64 (x.1.1 : Int), .int .i64 x.1.2]
theorem upS_cons {o : List Int} {k n : Nat} (h : k < o.length) : upS o k (n + 1) = ⟨(k, o[k]), List.getElem_mem h⟩ :: upS o (k + 1) n := by
  simp only [upS]
  rw [dif_pos h]
theorem upS_map (o : List Int) (k n : Nat) (h : k + n = o.length) : (upS o k n).map (fun x => x.1.2) = o.drop k := by
  induction n generalizing k with
  | zero =>
    rw [List.drop_eq_nil_of_le (by omega)]
    rfl
  | succ n ih =>
    rw [upS_cons (by omega), List.map_cons, ih (k + 1) (by omega)]
    exact (List.drop_eq_getElem_cons (by omega)).symm
theorem lits1_in {X : Nat → Prop} (l Bf Bt b k0 : Nat) (T : Trl) (J Jx : List (UpX T.order) → World → Prop) (W : World)
    (hY : ∀ pre x W1, J pre W1 → pre.length < T.order.length → YieldAt Fence.wide 7 Tryz.prog l (dvS x) W1 fun e W' =>
      (e = .returned (.bool true) ∧ J (pre ++ [x]) W' ∧ KpB X b W1 W') ∨ (e = .returned (.bool false) ∧ Jx (pre ++ [x]) W'))
    (hBf : W.cell? ⟨Bf, 0, none⟩ = some (.int .i64 (k0 : Int))) (hBt : W.cell? ⟨Bt, 0, none⟩ = some (.pointer (some ⟨b, 0, none⟩))) (hX : ¬ X Bt) (hT : TrX W b T) (hk0 : k0 ≤ T.order.length) (h0 : J [] W) :
    CallsIn Fence.wide 8 Tryz.prog 138 #[.func (.yield l) #[] #[], .pointer (some ⟨Bf, 0, none⟩), .pointer (some ⟨Bt, 0, none⟩)] W fun e W' => (∃ v, e = .returned v) ∧
      ((∃ ys, ys = upS T.order k0 (T.order.length - k0) ∧ J ys W') ∨ (∃ pre, (pre <+: upS T.order k0 (T.order.length - k0) ∧ pre ≠ []) ∧ Jx pre W')) := by
  have hBt' := World.block_lt_of_cell? W _ hBt
  have hno : T.order.length ≤ 1048576 := by
    obtain ⟨_, hT⟩ := hT
    exact hT.1.order
  have HBT := Lib.hid hBt
  have HT := Lib.hid hT
  have HY := Lib.hid hY
  have H0 := Lib.hid h0
  have HX := Lib.hid hX
  clear hT hY h0 hX
  have hmx : max (k0 : Int) 0 = (k0 : Int) := by omega
  refine callsIn_of_wp Tryz.func138 rfl trivial ?_ rfl
  simp only [Tryz.ntmps138, List.size_toArray, List.length_cons, List.length_nil, Nat.reduceAdd, Nat.reduceSub, Array.replicate_succ, Array.replicate_zero, List.push_toArray, List.append_toArray, List.nil_append, List.cons_append]
  gi_wp2_with fail
  clear hBt
  gi_loopw [4] (fun i wr => ∃ (k : Nat) (pre : List (UpX T.order)), i = .int .i64 (k : Int) ∧ k ≤ T.order.length ∧ Hid (pre.length + k0 = k) ∧ Hid (pre ++ upS T.order k (T.order.length - k) = upS T.order k0 (T.order.length - k0)) ∧ Hid (KpB X b W wr) ∧ Hid (J pre wr))
    (fun i _ => T.order.length - (intOf i).toNat)
  case atStart =>
    exact ⟨k0, [], rfl, hk0, Lib.hid (by simp), Lib.hid rfl, Lib.hid (KpB.refl _ _ _), H0⟩
  case round =>
    obtain ⟨k, pre, rfl, hkn, HPL, HPE, HK, HJS⟩ := hrel
    have d0 : wr.cell? ⟨Bt, 0, none⟩ = some (.pointer (some ⟨b, 0, none⟩)) := (HK.out.1.kept.cell (p := ⟨Bt, 0, none⟩) hBt' (fun h => h.elim HX.out (xo_cell HBT.out))).trans HBT.out
    obtain ⟨T', ⟨O, hT'⟩, hor⟩ := HK.out.2 T HT.out
    have hLR := tr_len b T' wr hT'
    rw [hor] at hLR
    have HLR := Lib.hid hLR
    by_cases hm : k < T.order.length
    · have hq : decide ((k : Int) < (T.order.length : Int)) = true := by simpa using hm
      have hq2 : decide (k < T.order.length) = true := by simpa using hm
      have hx : T'.order[k]? = some (T.order[k]) := by rw [hor]; exact List.getElem?_eq_getElem hm
      obtain ⟨g, c, c1, d1⟩ := tr_cells hT' hx
      rw [hor] at c1
      have HD := Lib.hid (show upS T.order k (T.order.length - k) = ⟨(k, T.order[k]), List.getElem_mem hm⟩ :: upS T.order (k + 1) (T.order.length - (k + 1)) from by
        rw [show T.order.length - k = (T.order.length - (k + 1)) + 1 by omega]
        exact upS_cons hm)
      obtain ⟨fn, tmps, assign, body, hy, hR⟩ := HY.out pre ⟨(k, T.order[k]), List.getElem_mem hm⟩ wr HJS.out (by have := HPL.out; omega)
      obtain ⟨u, hu⟩ : ∃ u, T.order[k] = u := ⟨_, rfl⟩
      dsimp only [dvS] at hy hR
      rw [hu] at d1 hy
      have HR := Lib.hid hR
      clear hx hR hT' hLR hor
      gi_wp2_with fail
      refine ⟨trivial, ?_⟩
      refine (callsIn_wide.2 HLR.out).mono ?_
      rintro e wy ⟨rfl, rfl⟩
      gi_wp2_with fail
      refine HR.out.mono ?_
      rintro e W3 (⟨rfl, hJ3, hk3⟩ | ⟨rfl, hJx3⟩)
      · have HJ3 := Lib.hid hJ3
        have HK3 := Lib.hid (HK.out.trans hk3)
        clear hJ3 hk3 hy d0 c1 d1 hu HR
        gi_wp2_with fail
        go_roundw
        case rel => exact ⟨k + 1, pre ++ [⟨(k, T.order[k]), List.getElem_mem hm⟩], by simp, hm, Lib.hid (by have := HPL.out; simp; omega), Lib.hid (by rw [← HPE.out, HD.out]; simp), HK3, HJ3⟩
        case measure => simp [intOf]; omega
      · gi_wp2_with fail
        refine bodyPost_ret (results_none rfl _ _ _) rfl ?_
        refine ⟨⟨_, rfl⟩, .inr ⟨pre ++ [⟨(k, T.order[k]), List.getElem_mem hm⟩], ⟨?_, by simp⟩, hJx3⟩⟩
        rw [← HPE.out, HD.out]
        exact ⟨_, by rw [List.append_assoc]; rfl⟩
    · have hq : decide ((k : Int) < (T.order.length : Int)) = false := by simpa using hm
      obtain rfl : k = T.order.length := by omega
      clear hLR hT'
      gi_wp2_with fail
      refine ⟨trivial, ?_⟩
      refine (callsIn_wide.2 HLR.out).mono ?_
      rintro e wy ⟨rfl, rfl⟩
      gi_wp2_with fail
      go_end0
      have he : pre = upS T.order k0 (T.order.length - k0) := by
        have := HPE.out
        rw [Nat.sub_self] at this
        simpa [upS] using this
      exact ⟨⟨_, rfl⟩, .inl ⟨_, he, HJS.out⟩⟩
theorem lits_in (b : Nat) (n : Int) (w : World) :
    CallsIn Fence.wide 8 Tryz.prog 99 #[.pointer (some ⟨b, 0, none⟩), .int .i64 n] w fun e w' => e = .returned (.func (.func 138) #[] #[.pointer (some ⟨w.heap.size + 1, 0, none⟩), .pointer (some ⟨w.heap.size, 0, none⟩)]) ∧ (w.alloc (.cells #[.pointer (some ⟨b, 0, none⟩)] 29)).alloc (.cells #[.int .i64 n] 3) = w' := by
  refine callsIn_of_wp Tryz.func99 rfl trivial ?_ rfl
  simp only [Tryz.ntmps99, List.size_toArray, List.length_cons, List.length_nil, Nat.reduceAdd, Nat.reduceSub, Array.replicate_succ, Array.replicate_zero, List.push_toArray, List.append_toArray, List.nil_append, List.cons_append]
  gi_wp2
  go_ret
  exact ⟨by simp, rfl⟩
theorem lits_stops {X : Nat → Prop} (Bf Bt b k0 : Nat) (T : Trl) (w : World) (hBf : w.cell? ⟨Bf, 0, none⟩ = some (.int .i64 (k0 : Int))) (hBt : w.cell? ⟨Bt, 0, none⟩ = some (.pointer (some ⟨b, 0, none⟩))) (hX : ¬ X Bt) (hT : TrX w b T) (hk0 : k0 ≤ T.order.length) :
    SeqStopsK Fence.wide 8 Tryz.prog 138 #[.pointer (some ⟨Bf, 0, none⟩), .pointer (some ⟨Bt, 0, none⟩)] (dvS (o := T.order)) (KpB X b) (fun ys => ys = upS T.order k0 (T.order.length - k0)) (fun pre => pre <+: upS T.order k0 (T.order.length - k0) ∧ pre ≠ []) T.order.length w := fun l J Jx W hW _ _ hY h0 =>
  lits1_in l Bf Bt b k0 T J Jx W hY ((hW.cell (p := ⟨Bf, 0, none⟩) (World.block_lt_of_cell? w _ hBf)).trans hBf) ((hW.cell (p := ⟨Bt, 0, none⟩) (World.block_lt_of_cell? w _ hBt)).trans hBt) hX (by
    obtain ⟨O, hT⟩ := hT
    exact ⟨O, hT.below hW⟩) hk0 h0
end Go.Proofs.YtobcnejecogfoaaGreat
namespace Go.Proofs.YtobcnejecogfoaaGreat
open Go.RowKit Go.Shelf Go.Maps

def noDefer (ops : Array Oper) : Bool := ops.all fun o => match o.op with
  | .defer _ => false
  | _ => true
theorem noDefer_at {ops : Array Oper} (h : noDefer ops = true) {i : Nat} {o : Oper} (ho : ops[i]? = some o) : ∀ c, o.op ≠ .defer c := by
  intro c hc
  obtain ⟨hi, he⟩ := Array.getElem?_eq_some_iff.1 ho
  have := (Array.all_eq_true.1 h) i hi
  rw [he, hc] at this
  cases this
theorem rows_round {l n : Nat} {P : Program} {row : String} {args : Array Value} {w : World} {R : Value → World → Prop} (h : Rows P row args w R) : RowsIn (Fence.wide.inRound l) n P row args w R :=
  fun c cs _ => let ⟨v, w', r, s⟩ := h c cs; ⟨v, w', r, stepsIn_wide.2 s⟩
theorem oper_round {l n : Nat} {P : Program} {o : Oper} {a : Act} {w : World} {K : Act → World → Prop} {Q : Exit → Act → World → Prop} (hd : ∀ c, o.op ≠ .defer c) (h : o.wp P a w K Q) : o.wpIn (Fence.wide.inRound l) n P a w K Q := by
  unfold Oper.wpIn
  refine ⟨fun _ _ => trivial, ?_⟩
  rw [Fence.inRound_round, Oper.semAt_some l a.eval o hd]
  unfold Oper.wp at h
  generalize (execOp a.eval o).run P w = r at *
  cases r with
  | ok x w' =>
    cases x with
    | value v => exact h
    | skip => exact h
    | defer d => exact h
    | enter f args => exact ⟨(fun hh => by cases hh), CallsIn.inRound l (callsIn_wide.2 h)⟩
    | row row args => exact ⟨(fun hh => by cases hh), rows_round h⟩
    | round => exact (h : False).elim
    | _ => exact h
  | halt x w' =>
    cases x <;> exact h
theorem wpOp_round {l n : Nat} {P : Program} {ops : Array Oper} {Q : Exit → Act → World → Prop} {i : Nat} {K : Act → World → Prop} {a : Act} {w : World} (hL : ¬ LetsOut Q) (hd : noDefer ops = true) (h : wpOp P ops Q i K a w) : wpOpIn (Fence.wide.inRound l) n P ops Q i K a w := by
  unfold wpOp at h
  unfold wpOpIn
  cases ho : ops[i]? with
  | none =>
    rw [ho] at h
    exact h
  | some o =>
    rw [ho] at h
    simp only at h ⊢
    split
    · rename_i hw
      rw [if_pos hw] at h
      rcases h with h | h
      · exact oper_round (noDefer_at hd ho) h
      · exact absurd h.2 hL
    · rename_i hw
      rw [if_neg hw] at h
      exact ⟨fun _ _ => trivial, h⟩
theorem wpAny_round {l n : Nat} {P : Program} {md : Region.Mode} {ops : Array Oper} {Q : Exit → Act → World → Prop} (hL : ¬ LetsOut Q) (hd : noDefer ops = true) : ∀ (fuel : Nat) (listed : Array Bool) (a : Act) (w : World), wpAny P md ops Q fuel listed a w → wpAnyIn (Fence.wide.inRound l) n P md ops Q fuel listed a w
  | 0, _, _, _, h => h
  | fuel + 1, _, _, _, h => ⟨h.1, fun i hi => wpOpIn_mono (fun a w h' => wpAny_round hL hd fuel _ a w h') (wpOp_round hL hd (h.2 i hi))⟩
theorem wpIn_round_region {l n id : Nat} {P : Program} {ops : Array Oper} {Q : Exit → Act → World → Prop} {a : Act} {w : World} (S : World → Prop) (hm : P.follows .mixedOrders = true) (hd : noDefer ops = true) (hL : ¬ LetsOut Q) (hS : S w.drew)
    (h : S w.drew → wpAnyH P .any ops Q S ops.size (Array.replicate ops.size false) a w.drew) : (Code.region id ops true).wpIn (Fence.wide.inRound l) n P Q a w :=
  wpIn_region_any hm (wpAny_round hL hd _ _ _ _ (wpAny_of_held _ _ _ _ (h hS)))
theorem wpIn_round_sink {l n id : Nat} {P : Program} {lo : List Oper} {o : Oper} (S : World → Prop) {Q : Exit → Act → World → Prop} {a : Act} {w : World} (hm : P.follows .mixedOrders = true) (hl : lo = lo.dropLast ++ [o]) (hk : sinkOk .any lo.dropLast.toArray o = true) (hd : noDefer lo.toArray = true) (hL : ¬ LetsOut Q) (hS : S w.drew)
    (h : S w.drew → wpAnyH P .any lo.dropLast.toArray (lastPost P lo.dropLast.toArray o Q) S lo.dropLast.toArray.size (Array.replicate lo.dropLast.toArray.size false) a w.drew) : (Code.region id lo.toArray true).wpIn (Fence.wide.inRound l) n P Q a w := by
  have e : lo.toArray = lo.dropLast.toArray.push o := by
    rw [List.push_toArray, ← hl]
  rw [e] at hd ⊢
  refine wpIn_region_any hm (wpAny_round hL hd _ _ _ _ ?_)
  have := wpAny_sink (P := P) (sink_of hk) lo.dropLast.toArray.size (Array.replicate lo.dropLast.toArray.size false) a w.drew (by simp) (fun j x _ hj => by
    have : (Array.replicate lo.dropLast.toArray.size false).getD j false = false := by
      simp only [Array.getD_eq_getD_getElem?, Array.getElem?_replicate]
      split <;> rfl
    rw [this] at hj
    cases hj) (wpAny_of_held _ _ _ _ (h hS))
  rw [Array.size_push, show Array.replicate (lo.dropLast.toArray.size + 1) false = (Array.replicate lo.dropLast.toArray.size false).push false by rw [Array.replicate_succ]]
  exact this
end Go.Proofs.YtobcnejecogfoaaGreat
