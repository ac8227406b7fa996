/- Plain: what an arena returns behind Add and Delete. Made (package salvorlaw08): a clause of small numbers. -/
import Derived.Test.YtobcnejecogfoaaGreatQ27
import Derived.Test.YtobcnejecogfoaaGreatQ00
import Derived.Test.YtobcnejecogfoaaGreatQ03
import Derived.Test.YtobcnejecogfoaaGreatQ02
namespace Go.Proofs.YtobcnejecogfoaaGreat
open Go

theorem posOf_append (l : List Ent) (e : Ent) (j : Int) : posOf (l ++ [e]) j = if posOf l j < l.length then posOf l j else if e.id < j then l.length + 1 else l.length := by
  induction l with
  | nil => simp [posOf]
  | cons x l ih =>
    simp only [List.cons_append, posOf, List.length_cons]
    by_cases hx : x.id < j
    · simp only [hx, if_true, ih]
      by_cases h1 : posOf l j < l.length
      · simp only [if_pos h1, if_pos (Nat.succ_lt_succ h1)]
      · simp only [if_neg h1, if_neg (fun h => h1 (Nat.lt_of_succ_lt_succ h))]
        split <;> rfl
    · simp only [hx, if_false]
      rw [if_pos (Nat.succ_pos _)]
theorem posOf_all {l : List Ent} {j : Int} (h : ∀ e ∈ l, e.id < j) : posOf l j = l.length := by
  induction l with
  | nil => rfl
  | cons x l ih => simp only [posOf, if_pos (h x (List.mem_cons_self ..)), ih (fun e he => h e (List.mem_cons_of_mem _ he)), List.length_cons]
theorem posOf_set {l : List Ent} {p : Nat} {e x : Ent} (hp : l[p]? = some e) (hx : x.id = e.id) (j : Int) : posOf (l.set p x) j = posOf l j := by
  induction l generalizing p with
  | nil => rfl
  | cons y l ih =>
    cases p with
    | zero =>
      obtain rfl : y = e := by simpa using hp
      simp only [List.set_cons_zero, posOf, hx]
    | succ p => simp only [List.set_cons_succ, posOf, ih (by simpa using hp)]
/-- what an arena's entries keep -/
structure Arn.Inv (A : Arn) : Prop where
  last : ∀ e ∈ A.all, e.id ≤ A.last
  span : ∀ e ∈ A.all, e.fr ≤ e.upto ∧ e.upto ≤ A.store.length
  low : 0 ≤ A.last
theorem Arn.Ok.inv {A : Arn} (h : A.Ok) : A.Inv := ⟨h.last, fun e he => ⟨(h.each e he).2.2.1, (h.each e he).2.2.2⟩, h.nums.2.2.1⟩
theorem inv0 : arn0.Inv := ⟨fun e h => (by cases h), fun e h => (by cases h), Int.le_refl 0⟩
theorem Arn.Inv.add {A : Arn} (h : A.Inv) {id : Int} (c : List Int) (hid : A.last < id) : (A.add id c).Inv := by
  refine ⟨fun e he => ?_, fun e he => ?_, ?_⟩
  · rcases List.mem_append.1 he with he | he
    · have := h.last e he
      show e.id ≤ id
      omega
    · obtain rfl := List.mem_singleton.1 he
      exact Int.le_refl _
  · rcases List.mem_append.1 he with he | he
    · have := h.span e he
      show e.fr ≤ e.upto ∧ e.upto ≤ (A.store ++ c).length
      rw [List.length_append]
      omega
    · obtain rfl := List.mem_singleton.1 he
      show A.store.length ≤ A.store.length + c.length ∧ A.store.length + c.length ≤ (A.store ++ c).length
      rw [List.length_append]
      omega
  · have := h.low
    show (0 : Int) ≤ id
    omega
theorem Arn.Inv.gone {A : Arn} (h : A.Inv) {j : Int} (hj : A.last < j) : A.get j = none := by
  have hp : posOf A.all j = A.all.length := posOf_all (fun e he => by have := h.last e he; omega)
  have hf : A.find j = Option.none := by
    unfold Arn.find
    rw [hp, List.getElem?_eq_none (Nat.le_refl _)]
    split <;> rfl
  unfold Arn.get Arn.ent
  rw [hf]
theorem Arn.get_low (A : Arn) {j : Int} (hj : j < 1) : A.get j = none := by
  have hf : A.find j = Option.none := by
    unfold Arn.find
    rw [if_neg (by omega)]
  unfold Arn.get Arn.ent
  rw [hf]
theorem Arn.Inv.get_add {A : Arn} (h : A.Inv) {id : Int} (c : List Int) (hid : A.last < id) (h2 : id ≤ 1073741824) : (A.add id c).get id = some c := by
  have hp : posOf A.all id = A.all.length := posOf_all (fun e he => by have := h.last e he; omega)
  have hlow := h.low
  have hf : (A.add id c).find id = some A.all.length := by
    unfold Arn.find Arn.add
    simp only [posOf_append, hp, Nat.lt_irrefl, if_false, Int.lt_irrefl]
    rw [if_pos (by omega)]
    simp
  unfold Arn.get Arn.ent
  rw [hf]
  simp [Arn.add]
theorem Arn.Inv.get_add_ne {A : Arn} (h : A.Inv) {id j : Int} (c : List Int) (hj : j ≠ id) : (A.add id c).get j = A.get j := by
  by_cases hp : posOf A.all j < A.all.length
  · have hx := List.getElem?_eq_getElem hp
    have hf : (A.add id c).find j = A.find j := by
      unfold Arn.find Arn.add
      simp only [posOf_append, if_pos hp, List.getElem?_append_left hp]
    unfold Arn.get Arn.ent
    rw [hf]
    cases hq : A.find j with
    | none => rfl
    | some p =>
      obtain ⟨x, hx, _, _⟩ := Arn.find_lt hq
      have hpl : p < A.all.length := (List.getElem?_eq_some_iff.1 hx).1
      have hsp := h.span x (List.mem_of_getElem? hx)
      simp only [Arn.add, List.getElem?_append_left hpl, hx]
      congr 1
      rw [List.drop_append_of_le_length (by omega), List.take_append_of_le_length (by rw [List.length_drop]; omega)]
  · have h1 : A.find j = none := by
      unfold Arn.find
      rw [List.getElem?_eq_none (by omega)]
      split <;> rfl
    have h2 : (A.add id c).find j = none := by
      unfold Arn.find Arn.add
      simp only [posOf_append, if_neg hp]
      by_cases hlt : id < j
      · simp only [if_pos hlt, List.getElem?_eq_none (show (A.all ++ [(⟨A.store.length, A.store.length + c.length, id, false⟩ : Ent)]).length ≤ A.all.length + 1 by simp)]
        split <;> rfl
      · simp only [if_neg hlt, List.getElem?_append_right (Nat.le_refl _), Nat.sub_self, List.getElem?_cons_zero]
        split
        · rw [if_neg (fun hh => hj hh.1.symm)]
        · rfl
    unfold Arn.get Arn.ent
    rw [h1, h2]
/-- what is there behind the clauses of Put -/
theorem addAll_get (cs : List (List Int)) (A : Arn) (i : Nat) (h : A.Inv) (hl : A.last ≤ i) (hn : i + cs.length ≤ 1000) (j : Int) :
    (addAll A i cs).get j = (if (i : Int) < j then (cs[(j - i - 1).toNat]?).bind (fun c => if clauseB c = true then some c else none) else A.get j) ∧ (addAll A i cs).Inv ∧ (addAll A i cs).last ≤ (i + cs.length : Nat) := by
  induction cs generalizing A i with
  | nil =>
    refine ⟨?_, h, by simpa [addAll] using hl⟩
    simp only [addAll]
    split
    · rw [h.gone (by omega)]
      simp
    · rfl
  | cons c cs ih =>
    simp only [List.length_cons] at hn
    by_cases hc : clauseB c = true
    · have hput : A.put ((i : Int) + 1) c = A.add ((i : Int) + 1) c := by unfold Arn.put; rw [if_pos hc]
      obtain ⟨e1, e2, e3⟩ := ih (A.add ((i : Int) + 1) c) (i + 1) (h.add c (by omega)) (by show (i : Int) + 1 ≤ ((i + 1 : Nat) : Int); omega) (by omega)
      simp only [addAll, hput]
      refine ⟨?_, e2, by simp only [List.length_cons]; omega⟩
      rw [e1]
      by_cases h1 : (i : Int) + 1 < j
      · rw [if_pos (by omega), if_pos (by omega)]
        obtain ⟨n, hn1⟩ : ∃ n : Nat, j = i + 1 + 1 + n := ⟨(j - i - 1 - 1).toNat, by omega⟩
        subst hn1
        rw [show ((i : Int) + 1 + 1 + n - ((i + 1 : Nat) : Int) - 1).toNat = n by omega, show ((i : Int) + 1 + 1 + n - i - 1).toNat = n + 1 by omega, List.getElem?_cons_succ]
      · rw [if_neg (by omega)]
        by_cases h2 : j = (i : Int) + 1
        · subst h2
          rw [if_pos (by omega), h.get_add c (by omega) (by omega), show ((i : Int) + 1 - i - 1).toNat = 0 by omega]
          simp [hc]
        · rw [if_neg (by omega), h.get_add_ne c h2]
    · have hput : A.put ((i : Int) + 1) c = A := by unfold Arn.put; rw [if_neg hc]
      obtain ⟨e1, e2, e3⟩ := ih A (i + 1) h (by omega) (by omega)
      simp only [addAll, hput]
      refine ⟨?_, e2, by simp only [List.length_cons]; omega⟩
      rw [e1]
      by_cases h1 : (i : Int) + 1 < j
      · rw [if_pos (by omega), if_pos (by omega)]
        obtain ⟨n, hn1⟩ : ∃ n : Nat, j = i + 1 + 1 + n := ⟨(j - i - 1 - 1).toNat, by omega⟩
        subst hn1
        rw [show ((i : Int) + 1 + 1 + n - ((i + 1 : Nat) : Int) - 1).toNat = n by omega, show ((i : Int) + 1 + 1 + n - i - 1).toNat = n + 1 by omega, List.getElem?_cons_succ]
      · rw [if_neg (by omega)]
        by_cases h2 : j = (i : Int) + 1
        · subst h2
          rw [if_pos (by omega), h.gone (by omega), show ((i : Int) + 1 - i - 1).toNat = 0 by omega]
          simp [hc]
        · rw [if_neg (by omega)]
/-- without a clause -/
def Arn.del (A : Arn) (p : Nat) (x : Ent) : Arn := ⟨A.store, A.all.set p ⟨x.fr, x.upto, x.id, true⟩, A.used - (x.upto - x.fr), A.count - 1, A.last⟩
theorem Arn.get_del {A : Arn} {id : Int} {p : Nat} {x : Ent} (hf : A.find id = some p) (hx : A.all[p]? = some x) : (A.del p x).get id = none ∧ ∀ j, j ≠ id → (A.del p x).get j = A.get j := by
  obtain ⟨x', hx', hid, hg⟩ := Arn.find_lt hf
  obtain rfl : x' = x := Option.some.inj (hx'.symm.trans hx)
  have hpl : p < A.all.length := (List.getElem?_eq_some_iff.1 hx).1
  have hpos : ∀ j, posOf (A.all.set p ⟨x'.fr, x'.upto, x'.id, true⟩) j = posOf A.all j := fun j => posOf_set (x := ⟨x'.fr, x'.upto, x'.id, true⟩) hx rfl j
  have hpp : posOf A.all id = p := by
    unfold Arn.find at hf
    split at hf
    · split at hf
      · split at hf
        · exact Option.some.inj hf
        · cases hf
      · cases hf
    · cases hf
  constructor
  · have h2 : (A.del p x').find id = none := by
      unfold Arn.find Arn.del
      simp only [hpos, hpp, List.getElem?_set_self hpl]
      split
      · rw [if_neg (fun hh => by cases hh.2)]
      · rfl
    unfold Arn.get Arn.ent
    rw [h2]
  · intro j hj
    have hne : ∀ q, A.find j = some q → q ≠ p := fun q hq e => by
      subst e
      obtain ⟨y, hy, hyi, _⟩ := Arn.find_lt hq
      obtain rfl : y = x' := Option.some.inj (hy.symm.trans hx)
      exact hj (hyi.symm.trans hid)
    have h2 : (A.del p x').find j = A.find j := by
      unfold Arn.find Arn.del
      simp only [hpos]
      by_cases hq : posOf A.all j = p
      · rw [hq, List.getElem?_set_self hpl, hx]
        split
        · show (if x'.id = j ∧ (true : Bool) = false then some p else none) = if x'.id = j ∧ x'.gone = false then some p else none
          rw [if_neg (fun hh => by cases hh.2), if_neg (fun hh => hj (hh.1.symm.trans hid))]
        · rfl
      · rw [List.getElem?_set_ne (fun e => hq e.symm)]
    unfold Arn.get Arn.ent
    rw [h2]
    cases hq : A.find j with
    | none => rfl
    | some q =>
      have := hne q hq
      simp only [Arn.del, List.getElem?_set_ne (fun e => this e.symm)]
end Go.Proofs.YtobcnejecogfoaaGreat
namespace Go.Proofs.YtobcnejecogfoaaGreat
open Go.RowKit

theorem info_lit : (Tryz.prog.info? 39).map (fun i => (i.zero, i.size, i.bytes)) = some (some (.int .i64 0), 1, 8) := by kernel_rfl
/-- the literal of a number -/
def madeLit (x : Int) : Int := if x % 2 = 1 then -(1 + (x % 256 / 2) % 6) else 1 + (x % 256 / 2) % 6
def madeL (xs : List Int) : List Int := (xs.take 6).map madeLit
theorem madeLit_rng (x : Int) : (-6 ≤ madeLit x ∧ madeLit x ≤ 6) ∧ madeLit x ≠ 0 := by
  unfold madeLit
  split <;> omega
theorem madeL_ok (xs : List Int) : clauseB (madeL xs) = true := by
  unfold clauseB
  rw [Bool.and_eq_true, decide_eq_true_eq, List.all_eq_true]
  refine ⟨by simp [madeL]; omega, fun y hy => ?_⟩
  obtain ⟨x, _, rfl⟩ := List.mem_map.1 hy
  have := madeLit_rng x
  exact (litB_iff _).2 ⟨this.2, by omega, by omega⟩
theorem i8_rng {x : Int} (h : (Lit.int .i8 x).wf = true) : -128 ≤ x ∧ x ≤ 127 := by
  simp only [Lit.wf, Bool.and_eq_true, decide_eq_true_eq] at h
  exact ⟨h.1, h.2⟩
theorem and_one_fin : ∀ i : Fin 256, bits BinOp.and IntKind.i8 ((i : Nat) - 128 : Int) 1 = (((i : Nat) - 128 : Int)) % 2 := by decide +kernel
theorem and_one {x : Int} (h1 : -128 ≤ x) (h2 : x ≤ 127) : bits BinOp.and IntKind.i8 x 1 = x % 2 := by
  have h := and_one_fin ⟨(x + 128).toNat, by omega⟩
  have e : (((x + 128).toNat : Nat) : Int) - 128 = x := by omega
  simp only [e] at h
  exact h
theorem below_alloc1 (w : World) (o : Obj) : Below w.heap.size w (w.alloc o) := (Below.refl _ _).alloc (Nat.le_refl _) _
set_option maxRecDepth 100000 in
set_option maxHeartbeats 2000000 in
theorem made_long (u : Value) (xs : List Int) (w : World) (h : RowAt .i8 w u xs) (h6 : (6 : Int) < (xs.length : Int)) :
    Calls Tryz.prog 20 #[u] w fun e w' => ∃ v, e = .returned v ∧ w'.ownsRow w.heap.size 39 1 v 6 (((xs.take 6).map madeLit).map (Value.int .i64)) ∧ Below w.heap.size w w' := by
  obtain ⟨i0, hi, hz0, hz1, hz2⟩ := info_parts info_lit
  obtain ⟨A, c, rfl, hc, hmx, hn, hw, hx⟩ := h
  unfold maxLen at hmx
  have HX := Lib.hid hx
  have HW := Lib.hid hw
  clear hx hw hn
  go_enter Tryz.func20, Tryz.ntmps20
  go_wp2_with fail

  go_loopw [3, 13] (fun v i wr => ∃ k : Nat, k ≤ 6 ∧ i = .int .i64 k ∧ Hid (Below w.heap.size w wr) ∧ Hid (wr.ownsRow w.heap.size 39 1 v k (((xs.take k).map madeLit).map (Value.int .i64)))) (fun _ i _ => 6 - (intOf i).toNat)
  case atStart => exact ⟨0, Nat.zero_le _, rfl, Lib.hid (Below.refl _ _), Lib.hid (World.ownsRow_nil _ _ _ _)⟩
  case round =>
    obtain ⟨k, hk, rfl, HB, HR⟩ := hrel
    by_cases hlt : k < 6
    · obtain ⟨x, hxk⟩ := getElem_of (show k < xs.length by omega)
      obtain ⟨g, o, rfl, hg, d0⟩ := HX.out k x hxk
      have d1 := (HB.out.cell (p := ⟨g, o + k, none⟩) hg).trans d0
      have hwx := i8_rng (HW.out x (List.mem_of_getElem? hxk))
      obtain ⟨hx1, hx2⟩ := hwx
      have HXK := Lib.hid hxk
      clear hxk d0
      have hbx := and_one hx1 hx2
      cases hodd : decide (x % 2 = 1) with
      | true =>
        have hq : (bits BinOp.and IntKind.i8 x 1 == 1) = true := by rw [hbx]; simpa using hodd
        have HLX : Hid (madeLit x = -(1 + x % 256 / 2 % 6)) := Lib.hid (by unfold madeLit; rw [if_pos (of_decide_eq_true hodd)])
        clear hbx hodd
        go_wp2_with (at_builtin; refine wpList_append_own_at _ rfl _ _ 41 rfl w.heap.size 39 i0 (.int .i64 0) 1 8 Tryz.underlying41 hi hz0 hz1 hz2 rfl (by decide) _ k _ rfl (own_below HR.out (below_alloc1 wr _)) ⟨wr.heap.size, 0, none⟩ 1 1 [.int .i64 (-(1 + x % 256 / 2 % 6))] rfl rfl (cell_one_new' _ _ _) (by simp [Value.oneCell']) (by unfold maxLen; omega) (by omega) (by have := HB.out.size; simp; omega) ?_; intro v' w1 hown hgrow hnl hat)
        obtain ⟨Av, kv, rfl, _⟩ := mx_slice hown
        have hb1 : Below w.heap.size w w1 := (HB.out.trans ((below_alloc1 wr (.cells #[.int .i64 (-(1 + x % 256 / 2 % 6))] 39)).mono HB.out.size)).grown hgrow (by have := HB.out.size; simp; omega) (fun g hg => (own_lt HR.out g hg).1)
        have htk : ((xs.take (k + 1)).map madeLit).map (Value.int .i64) = ((xs.take k).map madeLit).map (Value.int .i64) ++ [.int .i64 (-(1 + x % 256 / 2 % 6))] := by
          rw [List.take_add_one, HXK.out, ← HLX.out]
          simp
        have HO := Lib.hid hown
        have HB1 := Lib.hid hb1
        have HTK := Lib.hid htk
        clear hown hgrow hnl hat hb1 htk
        go_wp2
        go_roundw
        case rel => exact ⟨k + 1, by omega, by go_num, HB1, Lib.hid (by rw [HTK.out]; exact HO.out)⟩
        case measure => simp [intOf]; omega
      | false =>
        have hq : (bits BinOp.and IntKind.i8 x 1 == 1) = false := by rw [hbx]; simpa using hodd
        have HLX : Hid (madeLit x = 1 + x % 256 / 2 % 6) := Lib.hid (by unfold madeLit; rw [if_neg (of_decide_eq_false hodd)])
        clear hbx hodd
        go_wp2_with (at_builtin; refine wpList_append_own_at _ rfl _ _ 41 rfl w.heap.size 39 i0 (.int .i64 0) 1 8 Tryz.underlying41 hi hz0 hz1 hz2 rfl (by decide) _ k _ rfl (own_below HR.out (below_alloc1 wr _)) ⟨wr.heap.size, 0, none⟩ 1 1 [.int .i64 (1 + x % 256 / 2 % 6)] rfl rfl (cell_one_new' _ _ _) (by simp [Value.oneCell']) (by unfold maxLen; omega) (by omega) (by have := HB.out.size; simp; omega) ?_; intro v' w1 hown hgrow hnl hat)
        obtain ⟨Av, kv, rfl, _⟩ := mx_slice hown
        have hb1 : Below w.heap.size w w1 := (HB.out.trans ((below_alloc1 wr (.cells #[.int .i64 (1 + x % 256 / 2 % 6)] 39)).mono HB.out.size)).grown hgrow (by have := HB.out.size; simp; omega) (fun g hg => (own_lt HR.out g hg).1)
        have htk : ((xs.take (k + 1)).map madeLit).map (Value.int .i64) = ((xs.take k).map madeLit).map (Value.int .i64) ++ [.int .i64 (1 + x % 256 / 2 % 6)] := by
          rw [List.take_add_one, HXK.out, ← HLX.out]
          simp
        have HO := Lib.hid hown
        have HB1 := Lib.hid hb1
        have HTK := Lib.hid htk
        clear hown hgrow hnl hat hb1 htk
        go_wp2
        go_roundw
        case rel => exact ⟨k + 1, by omega, by go_num, HB1, Lib.hid (by rw [HTK.out]; exact HO.out)⟩
        case measure => simp [intOf]; omega
    · obtain rfl : k = 6 := by omega
      go_wp2_with fail
      go_ret
      exact ⟨_, rfl, HR.out, HB.out⟩
set_option maxRecDepth 100000 in
set_option maxHeartbeats 2000000 in
theorem made_short (u : Value) (xs : List Int) (w : World) (h : RowAt .i8 w u xs) (h6 : (xs.length : Int) ≤ 6) :
    Calls Tryz.prog 20 #[u] w fun e w' => ∃ v, e = .returned v ∧ w'.ownsRow w.heap.size 39 1 v xs.length (((xs.take xs.length).map madeLit).map (Value.int .i64)) ∧ Below w.heap.size w w' := by
  obtain ⟨i0, hi, hz0, hz1, hz2⟩ := info_parts info_lit
  obtain ⟨A, c, rfl, hc, hmx, hn, hw, hx⟩ := h
  unfold maxLen at hmx
  have HX := Lib.hid hx
  have HW := Lib.hid hw
  clear hx hw hn
  go_enter Tryz.func20, Tryz.ntmps20
  go_wp2_with fail

  go_loopw [3, 13] (fun v i wr => ∃ k : Nat, k ≤ xs.length ∧ i = .int .i64 k ∧ Hid (Below w.heap.size w wr) ∧ Hid (wr.ownsRow w.heap.size 39 1 v k (((xs.take k).map madeLit).map (Value.int .i64)))) (fun _ i _ => xs.length - (intOf i).toNat)
  case atStart => exact ⟨0, Nat.zero_le _, rfl, Lib.hid (Below.refl _ _), Lib.hid (World.ownsRow_nil _ _ _ _)⟩
  case round =>
    obtain ⟨k, hk, rfl, HB, HR⟩ := hrel
    by_cases hlt : k < xs.length
    · obtain ⟨x, hxk⟩ := getElem_of (show k < xs.length by omega)
      obtain ⟨g, o, rfl, hg, d0⟩ := HX.out k x hxk
      have d1 := (HB.out.cell (p := ⟨g, o + k, none⟩) hg).trans d0
      have hwx := i8_rng (HW.out x (List.mem_of_getElem? hxk))
      obtain ⟨hx1, hx2⟩ := hwx
      have HXK := Lib.hid hxk
      clear hxk d0
      have hbx := and_one hx1 hx2
      cases hodd : decide (x % 2 = 1) with
      | true =>
        have hq : (bits BinOp.and IntKind.i8 x 1 == 1) = true := by rw [hbx]; simpa using hodd
        have HLX : Hid (madeLit x = -(1 + x % 256 / 2 % 6)) := Lib.hid (by unfold madeLit; rw [if_pos (of_decide_eq_true hodd)])
        clear hbx hodd
        go_wp2_with (at_builtin; refine wpList_append_own_at _ rfl _ _ 41 rfl w.heap.size 39 i0 (.int .i64 0) 1 8 Tryz.underlying41 hi hz0 hz1 hz2 rfl (by decide) _ k _ rfl (own_below HR.out (below_alloc1 wr _)) ⟨wr.heap.size, 0, none⟩ 1 1 [.int .i64 (-(1 + x % 256 / 2 % 6))] rfl rfl (cell_one_new' _ _ _) (by simp [Value.oneCell']) (by unfold maxLen; omega) (by omega) (by have := HB.out.size; simp; omega) ?_; intro v' w1 hown hgrow hnl hat)
        obtain ⟨Av, kv, rfl, _⟩ := mx_slice hown
        have hb1 : Below w.heap.size w w1 := (HB.out.trans ((below_alloc1 wr (.cells #[.int .i64 (-(1 + x % 256 / 2 % 6))] 39)).mono HB.out.size)).grown hgrow (by have := HB.out.size; simp; omega) (fun g hg => (own_lt HR.out g hg).1)
        have htk : ((xs.take (k + 1)).map madeLit).map (Value.int .i64) = ((xs.take k).map madeLit).map (Value.int .i64) ++ [.int .i64 (-(1 + x % 256 / 2 % 6))] := by
          rw [List.take_add_one, HXK.out, ← HLX.out]
          simp
        have HO := Lib.hid hown
        have HB1 := Lib.hid hb1
        have HTK := Lib.hid htk
        clear hown hgrow hnl hat hb1 htk
        go_wp2
        go_roundw
        case rel => exact ⟨k + 1, by omega, by go_num, HB1, Lib.hid (by rw [HTK.out]; exact HO.out)⟩
        case measure => simp [intOf]; omega
      | false =>
        have hq : (bits BinOp.and IntKind.i8 x 1 == 1) = false := by rw [hbx]; simpa using hodd
        have HLX : Hid (madeLit x = 1 + x % 256 / 2 % 6) := Lib.hid (by unfold madeLit; rw [if_neg (of_decide_eq_false hodd)])
        clear hbx hodd
        go_wp2_with (at_builtin; refine wpList_append_own_at _ rfl _ _ 41 rfl w.heap.size 39 i0 (.int .i64 0) 1 8 Tryz.underlying41 hi hz0 hz1 hz2 rfl (by decide) _ k _ rfl (own_below HR.out (below_alloc1 wr _)) ⟨wr.heap.size, 0, none⟩ 1 1 [.int .i64 (1 + x % 256 / 2 % 6)] rfl rfl (cell_one_new' _ _ _) (by simp [Value.oneCell']) (by unfold maxLen; omega) (by omega) (by have := HB.out.size; simp; omega) ?_; intro v' w1 hown hgrow hnl hat)
        obtain ⟨Av, kv, rfl, _⟩ := mx_slice hown
        have hb1 : Below w.heap.size w w1 := (HB.out.trans ((below_alloc1 wr (.cells #[.int .i64 (1 + x % 256 / 2 % 6)] 39)).mono HB.out.size)).grown hgrow (by have := HB.out.size; simp; omega) (fun g hg => (own_lt HR.out g hg).1)
        have htk : ((xs.take (k + 1)).map madeLit).map (Value.int .i64) = ((xs.take k).map madeLit).map (Value.int .i64) ++ [.int .i64 (1 + x % 256 / 2 % 6)] := by
          rw [List.take_add_one, HXK.out, ← HLX.out]
          simp
        have HO := Lib.hid hown
        have HB1 := Lib.hid hb1
        have HTK := Lib.hid htk
        clear hown hgrow hnl hat hb1 htk
        go_wp2
        go_roundw
        case rel => exact ⟨k + 1, by omega, by go_num, HB1, Lib.hid (by rw [HTK.out]; exact HO.out)⟩
        case measure => simp [intOf]; omega
    · obtain rfl : k = xs.length := by omega
      go_wp2_with fail
      go_ret
      exact ⟨_, rfl, HR.out, HB.out⟩
theorem made_any (u : Value) (xs : List Int) (w : World) (h : RowAt .i8 w u xs) :
    Calls Tryz.prog 20 #[u] w fun e w' => ∃ v, e = .returned v ∧ w'.ownsRow w.heap.size 39 1 v (madeL xs).length ((madeL xs).map (Value.int .i64)) ∧ Below w.heap.size w w' := by
  by_cases h6 : 6 < xs.length
  · have e : (madeL xs).length = 6 := by simp [madeL]; omega
    rw [e]
    exact made_long u xs w h (by omega)
  · have e : madeL xs = (xs.take xs.length).map madeLit := by unfold madeL; rw [List.take_of_length_le (by omega), List.take_length]
    rw [e]
    have := made_short u xs w h (by omega)
    rwa [show ((xs.take xs.length).map madeLit).length = xs.length by simp]
end Go.Proofs.YtobcnejecogfoaaGreat
