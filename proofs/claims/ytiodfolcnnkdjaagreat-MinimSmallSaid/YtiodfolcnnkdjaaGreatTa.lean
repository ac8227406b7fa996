/- The trail in memory: Value, Level, Reason, Place, Now, Len, At. -/
import Derived.Test.YtiodfolcnnkdjaaGreatMx
import Derived.Test.YtiodfolcnnkdjaaGreatEa
namespace Go.Proofs.YtiodfolcnnkdjaaGreat
open Go.RowKit

/-- the variable of a literal, its sign -/
def litV (l : Int) : Nat := if litB l = true then l.natAbs else 0
def litS (l : Int) : Int := if l < 0 then -1 else 1
theorem litS_abs (l : Int) : litS l = 1 ∨ litS l = -1 := by
  unfold litS
  split
  · exact .inr rfl
  · exact .inl rfl
/-- what is known of a variable -/
structure TV where
  level : Int
  reason : Int
  place : Int
  value : Int
def TV.cells (t : TV) : List Value := [.int .i64 t.level, .int .i64 t.reason, .int .i64 t.place, .int .i64 t.value]
structure Trl where
  vars : List TV
  order : List Int
  starts : List Int
def Trl.at (T : Trl) (v : Int) : Option TV := if 1 ≤ v ∧ v < T.vars.length then T.vars[v.toNat]? else none
def Trl.val (T : Trl) (l : Int) : Int := match T.at (litV l) with
  | some s => s.value * litS l
  | none => 0
def Trl.why (T : Trl) (v : Int) : Option TV := match T.at v with
  | some s => if s.value = 0 then none else some s
  | none => none
structure TrMem (O : Nat → Prop) (w : World) (b : Nat) (T : Trl) (gv cv : Nat) (ov sv : Value) : Prop where
  own : ∀ g, O g → g < w.heap.size
  inb : O b
  invs : O gv
  block : w.heap[b]? = some (.cells #[.slice (some ⟨gv, 0, none⟩) T.vars.length cv, ov, sv, .bool true] 125 (0, 0))
  vars : w.ownsRow 0 139 4 (.slice (some ⟨gv, 0, none⟩) T.vars.length cv) T.vars.length (T.vars.flatMap TV.cells)
  order : w.ownsRow 0 31 1 ov T.order.length (T.order.map (Value.int .i64))
  orderb : ∀ g, ov.ownBlock = some g → O g
  starts : w.ownsRow 0 3 1 sv T.starts.length (T.starts.map (Value.int .i64))
  startsb : ∀ g, sv.ownBlock = some g → O g
/-- bounds that every trail keeps -/
structure Trl.Ok (T : Trl) : Prop where
  vars : 1 ≤ T.vars.length ∧ T.vars.length ≤ 1048577
  order : T.order.length ≤ 1048576
  starts : 1 ≤ T.starts.length ∧ T.starts.length ≤ 1048576
  each : ∀ s ∈ T.vars, s.value = 0 ∨ s.value = 1 ∨ s.value = -1
def TrAt (O : Nat → Prop) (w : World) (b : Nat) (T : Trl) : Prop := T.Ok ∧ ∃ gv cv ov sv, TrMem O w b T gv cv ov sv
theorem TrMem.kept {O O' : Nat → Prop} {w w' : World} {b : Nat} {T : Trl} {gv cv : Nat} {ov sv : Value} (h : TrMem O w b T gv cv ov sv) (k : Kept O' w w') (hO : ∀ g, O g → ¬ O' g) : TrMem O w' b T gv cv ov sv where
  own := fun g hg => Nat.lt_of_lt_of_le (h.own g hg) k.size
  inb := h.inb
  invs := h.invs
  block := (k.block b (heap_lt h.block) (hO b h.inb)).trans h.block
  vars := own_kept h.vars k (fun g hg => by
    obtain rfl : gv = g := Option.some.inj hg
    exact hO gv h.invs)
  order := own_kept h.order k (fun g hg => hO g (h.orderb g hg))
  orderb := h.orderb
  starts := own_kept h.starts k (fun g hg => hO g (h.startsb g hg))
  startsb := h.startsb
theorem TrAt.kept {O O' : Nat → Prop} {w w' : World} {b : Nat} {T : Trl} (h : TrAt O w b T) (k : Kept O' w w') (hO : ∀ g, O g → ¬ O' g) : TrAt O w' b T := by
  obtain ⟨hk, gv, cv, ov, sv, h⟩ := h
  exact ⟨hk, gv, cv, ov, sv, h.kept k hO⟩
theorem TrAt.below {O : Nat → Prop} {w w' : World} {b : Nat} {T : Trl} (h : TrAt O w b T) (k : Below w.heap.size w w') : TrAt O w' b T :=
  h.kept (O' := fun _ => False) (Kept.of_below k) (fun _ _ h => h)
theorem tvCells_at (l : List TV) (i j : Nat) (x : TV) (h : l[i]? = some x) (hj : j < 4) : (l.flatMap TV.cells)[i * 4 + j]? = x.cells[j]? := by
  induction l generalizing i with
  | nil => simp at h
  | cons y l ih =>
    rw [List.flatMap_cons]
    cases i with
    | zero =>
      obtain rfl : y = x := by simpa using h
      rw [Nat.zero_mul, Nat.zero_add, List.getElem?_append_left (by simpa [TV.cells] using hj)]
    | succ i =>
      rw [List.getElem?_append_right (by simp [TV.cells]; omega)]
      have e : (i + 1) * 4 + j - y.cells.length = i * 4 + j := by simp [TV.cells]; omega
      rw [e]
      exact ih i (by simpa using h)
theorem TrMem.var {O : Nat → Prop} {w : World} {b : Nat} {T : Trl} {gv cv : Nat} {ov sv : Value} (h : TrMem O w b T gv cv ov sv) {i : Nat} {s : TV} (hs : T.vars[i]? = some s) :
    w.cell? ⟨gv, i * 4, none⟩ = some (.int .i64 s.level) ∧ w.cell? ⟨gv, i * 4 + 1, none⟩ = some (.int .i64 s.reason) ∧ w.cell? ⟨gv, i * 4 + 2, none⟩ = some (.int .i64 s.place) ∧ w.cell? ⟨gv, i * 4 + 3, none⟩ = some (.int .i64 s.value) :=
  ⟨mx_at h.vars (j := i * 4 + 0) (by rw [tvCells_at _ i 0 s hs (by omega)]; rfl), mx_at h.vars (by rw [tvCells_at _ i 1 s hs (by omega)]; rfl), mx_at h.vars (by rw [tvCells_at _ i 2 s hs (by omega)]; rfl), mx_at h.vars (by rw [tvCells_at _ i 3 s hs (by omega)]; rfl)⟩
set_option maxHeartbeats 1000000 in
theorem lit_var (l : Int) (w : World) : Calls Tryz.prog 45 #[.int .i64 l] w fun e w' => e = .returned (.int .i64 (litV l : Nat)) ∧ w = w' := by
  have HR := Lib.hid (right_lit l w)
  rcases hb : litB l with _ | _
  · rw [hb] at HR
    have hv : litV l = 0 := by unfold litV; rw [if_neg (by rw [hb]; decide)]
    rw [hv]
    clear hb hv
    go_enter Tryz.func45, Tryz.ntmps45
    go_wp2_with fail
    refine HR.out.mono ?_
    rintro e w' ⟨rfl, rfl⟩
    go_wp2_with fail
    go_ret
    exact ⟨rfl, rfl⟩
  · rw [hb] at HR
    have hr := (litB_iff l).1 hb
    have hv : (litV l : Int) = max l (-l) := by unfold litV; rw [if_pos hb]; omega
    have HV := Lib.hid hv
    obtain ⟨h0, h1, h2⟩ := hr
    clear hb hv
    have hw : IntKind.i64.wrap (-l) = -l := IntWalk.i64_in _ (by omega)
    go_enter Tryz.func45, Tryz.ntmps45
    go_wp2_with fail
    refine HR.out.mono ?_
    rintro e w' ⟨rfl, rfl⟩
    go_wp2_with fail
    · go_ret
      exact ⟨ret_int (a := -l) (by have := HV.out; omega), rfl⟩
    · go_ret
      exact ⟨ret_int (a := l) (by have := HV.out; omega), rfl⟩
theorem tr_sign (l : Int) (w : World) : Calls Tryz.prog 71 #[.int .i64 l] w fun e w' => e = .returned (.int .i64 (litS l)) ∧ w = w' := by
  by_cases h : l < 0
  · have hd : decide (l < 0) = true := by simpa using h
    have HS := Lib.hid (show litS l = -1 from if_pos h)
    clear h
    go_enter Tryz.func71, Tryz.ntmps71
    go_wp2_with fail
    go_ret
    exact ⟨by rw [HS.out]; rfl, rfl⟩
  · have hd : decide (l < 0) = false := by simpa using h
    have HS := Lib.hid (show litS l = 1 from if_neg h)
    clear h
    go_enter Tryz.func71, Tryz.ntmps71
    go_wp2_with fail
    go_ret
    exact ⟨by rw [HS.out]; rfl, rfl⟩
theorem tr_is {O : Nat → Prop} (b : Nat) (T : Trl) (w : World) (h : TrAt O w b T) : Calls Tryz.prog 66 #[.pointer (some ⟨b, 0, none⟩)] w fun e w' => e = .returned (.bool true) ∧ w = w' := by
  obtain ⟨hk, gv, cv, ov, sv, h⟩ := h
  have c3 : w.cell? ⟨b, 3, none⟩ = some (.bool true) := mx_cell (j := 3) h.block
  clear h hk
  go_enter Tryz.func66, Tryz.ntmps66
  go_wp2_with fail
  go_ret
  exact ⟨rfl, rfl⟩
/-- what state returns -/
def stateVal (gv : Nat) (v : Int) : Option TV → Value
  | some _ => .tuple #[.pointer (some ⟨gv, v.toNat * 4, none⟩), .bool true]
  | none => .tuple #[.pointer none, .bool false]
theorem stateVal_some (gv : Nat) (v : Int) (s : TV) : stateVal gv v (some s) = .tuple #[.pointer (some ⟨gv, v.toNat * 4, none⟩), .bool true] := rfl
theorem stateVal_none (gv : Nat) (v : Int) : stateVal gv v none = .tuple #[.pointer none, .bool false] := rfl
theorem tr_state {O : Nat → Prop} (b : Nat) (T : Trl) (gv cv : Nat) (ov sv : Value) (v : Int) (w : World) (hk : T.Ok) (h : TrMem O w b T gv cv ov sv) :
    Calls Tryz.prog 69 #[.pointer (some ⟨b, 0, none⟩), .int .i64 v] w fun e w' => e = .returned (stateVal gv v (T.at v)) ∧ w = w' := by
  have HIS := Lib.hid (tr_is b T w ⟨hk, gv, cv, ov, sv, h⟩)
  have c0 : w.cell? ⟨b, 0, none⟩ = some (.slice (some ⟨gv, 0, none⟩) T.vars.length cv) := mx_cell (j := 0) h.block
  have hv := hk.vars
  clear h hk
  by_cases h1 : v < 1
  · have hd : decide (v < 1) = true := by simpa using h1
    have HN := Lib.hid (show T.at v = none from if_neg (by omega))
    clear h1
    go_enter Tryz.func69, Tryz.ntmps69
    go_wp2_with fail
    refine HIS.out.mono ?_
    rintro e w' ⟨rfl, rfl⟩
    go_wp2_with fail
    go_ret2
    exact ⟨by rw [HN.out]; rfl, rfl⟩
  · have hd : decide (v < 1) = false := by simpa using h1
    obtain ⟨n, rfl⟩ : ∃ n : Nat, v = (n : Int) := ⟨v.toNat, by omega⟩
    by_cases h2 : n < T.vars.length
    · have hd2 : decide ((T.vars.length : Int) ≤ (n : Int)) = false := by simp; omega
      have HN := Lib.hid (show ∃ s, T.at n = some s from ⟨T.vars[n], by unfold Trl.at; rw [if_pos (by omega)]; exact List.getElem?_eq_getElem h2⟩)
      clear h1
      go_enter Tryz.func69, Tryz.ntmps69
      go_wp2_with fail
      refine HIS.out.mono ?_
      rintro e w' ⟨rfl, rfl⟩
      go_wp2_with fail
      go_ret2
      refine ⟨?_, rfl⟩
      obtain ⟨s, hs⟩ := HN.out
      rw [hs]
      rfl
    · have hd2 : decide ((T.vars.length : Int) ≤ (n : Int)) = true := by simp; omega
      have HN := Lib.hid (show T.at n = none from if_neg (by omega))
      clear h1
      go_enter Tryz.func69, Tryz.ntmps69
      go_wp2_with fail
      refine HIS.out.mono ?_
      rintro e w' ⟨rfl, rfl⟩
      go_wp2_with fail
      go_ret2
      exact ⟨by rw [HN.out]; rfl, rfl⟩
end Go.Proofs.YtiodfolcnnkdjaaGreat
