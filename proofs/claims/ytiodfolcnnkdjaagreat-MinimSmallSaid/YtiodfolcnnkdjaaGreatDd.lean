/- The references of layer 14: Right, fails, greatest, Level. -/
import Derived.Test.YtiodfolcnnkdjaaGreatMj
import Derived.Test.YtiodfolcnnkdjaaGreatRa
import Derived.Test.YtiodfolcnnkdjaaGreatTc
import Derived.Test.YtiodfolcnnkdjaaGreatPd
import Derived.Test.YtiodfolcnnkdjaaGreatMk
import Derived.Deep.DeepCutAuto
import Derived.Deep.CutBlock
namespace Go.Proofs.YtiodfolcnnkdjaaGreat
open Go.RowKit

structure REn where
 id : Int
 lits : List Int
structure RAr where
 all : List REn
 last : Int
def rFd : List REn → Int → Nat → Int
 | [], _, _ => -1
 | x :: l, id, i => if x.id = id then i else rFd l id (i + 1)
def rFind (l : List REn) (id : Int) : Int := rFd l id 0
theorem rFd_ge (l : List REn) (v : Int) (i : Nat) : rFd l v i = -1 ∨ (i : Int) ≤ rFd l v i ∧ rFd l v i < i + l.length := by
 induction l generalizing i with
 | nil => exact .inl rfl
 | cons x l ih =>
  unfold rFd
  split
  ·
   right
   simp only [List.length_cons]
   omega
  ·
   have := ih (i + 1)
   simp only [List.length_cons]
   omega
theorem rFind_lt (l : List REn) (v : Int) : rFind l v = -1 ∨ 0 ≤ rFind l v ∧ rFind l v < l.length := by
 have := rFd_ge l v 0
 unfold rFind
 omega
/-- a slice whose cells read so -/
def RowIn (w : World) (v : Value) (n : Nat) (xs : List Value) : Prop :=
 ∃ A c, v = .slice A n c ∧ n ≤ c ∧ (A = none → c = 0) ∧ ∀ j u, xs[j]? = some u → ∃ g o, A = some ⟨g, o, none⟩ ∧ g < w.heap.size ∧ w.cell? ⟨g, o + j, none⟩ = some u
theorem RowIn.below {w w' : World} {v : Value} {n : Nat} {xs : List Value} (h : RowIn w v n xs) (k : Below w.heap.size w w') : RowIn w' v n xs := by
 obtain ⟨A, c, h1, h2, h3, h4⟩ := h
 refine ⟨A, c, h1, h2, h3, fun j u hj => ?_⟩
 obtain ⟨g, o, e1, e2, e3⟩ := h4 j u hj
 exact ⟨g, o, e1, Nat.lt_of_lt_of_le e2 k.size, (k.cell (p := ⟨g, o + j, none⟩) e2).trans e3⟩
theorem RowIn.nil (w : World) : RowIn w (.slice none 0 0) 0 [] := ⟨none, 0, rfl, Nat.le_refl _, fun _ => rfl, fun j u h => by simp at h⟩
theorem RowIn.of_own {w : World} {base size n : Nat} {e : TypeId} {v : Value} {xs : List Value} (h : w.ownsRow base e size v n xs) : RowIn w v n xs := by
 rcases h.2 with ⟨rfl, rfl⟩ | ⟨g, cap, cur, rfl, hb, hg, hle, _⟩
 ·
  have h1 := h.1
  obtain rfl : xs = [] := List.eq_nil_of_length_eq_zero (by omega)
  exact RowIn.nil w
 ·
  refine ⟨_, cap, rfl, hle, (fun h => by cases h), fun j u hj => ⟨g, 0, rfl, heap_lt hg, ?_⟩⟩
  rw [Nat.zero_add]
  exact mx_at h hj
theorem RowIn.src {w : World} {v : Value} {n : Nat} {xs : List Value} (h : RowIn w v n xs) (hx : n = 0 → xs = []) : SrcAt w v n xs := by
 obtain ⟨A, c, h1, h2, h3, h4⟩ := h
 cases A with
 | none =>
  have h0 := h3 rfl
  have hn : n = 0 := by omega
  subst hn
  subst h0
  exact .inl ⟨h1, rfl, hx rfl⟩
 | some ad =>
  refine .inr ⟨ad, c, h1, fun j u hj => ?_⟩
  obtain ⟨g, o, e1, _, e3⟩ := h4 j u hj
  obtain rfl := Option.some.inj e1
  rw [addr_add2]
  exact e3
theorem RowIn.ints {w : World} {v : Value} {xs : List Int} (h : RowIn w v xs.length (xs.map (Value.int .i64))) : IntsIn (fun _ => True) w v xs := by
 obtain ⟨A, c, h1, h2, h3, h4⟩ := h
 refine ⟨A, c, h1, h2, h3, fun j x hj => ?_⟩
 obtain ⟨g, o, e1, e2, e3⟩ := h4 j (.int .i64 x) (by rw [List.getElem?_map, hj]; rfl)
 exact ⟨g, o, e1, e2, trivial, e3⟩
theorem itCells_at (l : List RIt) (i j : Nat) (x : RIt) (h : l[i]? = some x) (hj : j < 3) : (l.flatMap RIt.cells)[i * 3 + j]? = x.cells[j]? := by
 induction l generalizing i with
 | nil => simp at h
 | cons y l ih =>
  rw [List.flatMap_cons]
  cases i with
  | zero =>
   obtain rfl : y = x := by simpa using h
   rw [Nat.zero_mul, Nat.zero_add, List.getElem?_append_left (by simpa [RIt.cells] using hj)]
  | succ i =>
   rw [List.getElem?_append_right (by simp [RIt.cells]; omega)]
   have e : (i + 1) * 3 + j - y.cells.length = i * 3 + j := by simp [RIt.cells]; omega
   rw [e]
   exact ih i (by simpa using h)
theorem itCells_len (l : List RIt) : (l.flatMap RIt.cells).length = l.length * 3 := by
 induction l with
 | nil => rfl
 | cons y l ih =>
  rw [List.flatMap_cons, List.length_append, ih, List.length_cons]
  simp only [RIt.cells, List.length_cons, List.length_nil]
  omega
/-- an item in memory -/
theorem RowIn.item {w : World} {v : Value} {l : List RIt} (h : RowIn w v l.length (l.flatMap RIt.cells)) {i : Nat} {x : RIt} (hx : l[i]? = some x) : ∃ g o c, v = .slice (some ⟨g, o, none⟩) l.length c ∧ l.length ≤ c ∧ g < w.heap.size ∧ w.cell? ⟨g, o + i * 3, none⟩ = some (.int .i64 x.lit) ∧ w.cell? ⟨g, o + i * 3 + 1, none⟩ = some (.int .i64 x.reason) ∧ w.cell? ⟨g, o + i * 3 + 2, none⟩ = some (.int .i64 x.level) := by
 obtain ⟨A, c, rfl, h2, h3, h4⟩ := h
 obtain ⟨g, o, rfl, e2, e3⟩ := h4 _ _ (itCells_at l i 0 x hx (by decide))
 have f : ∀ r, r < 3 → ∀ u, x.cells[r]? = some u → w.cell? ⟨g, o + (i * 3 + r), none⟩ = some u := fun r hr u hu => by
  obtain ⟨g', o', e, _, f3⟩ := h4 _ _ ((itCells_at l i r x hx hr).trans hu)
  cases e
  exact f3
 have f1 := f 1 (by decide) (.int .i64 x.reason) rfl
 have f2 := f 2 (by decide) (.int .i64 x.level) rfl
 rw [← Nat.add_assoc] at f1 f2
 exact ⟨g, o, c, rfl, h2, e2, e3, f1, f2⟩
/-- the reference's trail -/
def RTAt (w : World) (v : Value) (t : RTr) : Prop := ∃ iv sv, v = .agg #[.int .i64 t.vars, .int .i64 t.now, iv, sv] ∧ RowIn w iv t.items.length (t.items.flatMap RIt.cells) ∧ IntsIn (fun _ => True) w sv t.starts
theorem RTAt.below {w w' : World} {v : Value} {t : RTr} (h : RTAt w v t) (k : Below w.heap.size w w') : RTAt w' v t := by
 obtain ⟨iv, sv, h1, h2, h3⟩ := h
 exact ⟨iv, sv, h1, h2.below k, h3.below k⟩
/-- a clause of the reference's arena, and its list in memory -/
structure MEn where
 e : REn
 lv : Value
def MEn.cells (x : MEn) : List Value := [.int .i64 x.e.id, x.lv]
theorem enCells_at (l : List MEn) (i j : Nat) (x : MEn) (h : l[i]? = some x) (hj : j < 2) : (l.flatMap MEn.cells)[i * 2 + j]? = x.cells[j]? := by
 induction l generalizing i with
 | nil => simp at h
 | cons y l ih =>
  rw [List.flatMap_cons]
  cases i with
  | zero =>
   obtain rfl : y = x := by simpa using h
   rw [Nat.zero_mul, Nat.zero_add, List.getElem?_append_left (by simpa [MEn.cells] using hj)]
  | succ i =>
   rw [List.getElem?_append_right (by simp [MEn.cells]; omega)]
   have e : (i + 1) * 2 + j - y.cells.length = i * 2 + j := by simp [MEn.cells]; omega
   rw [e]
   exact ih i (by simpa using h)
theorem enCells_len (l : List MEn) : (l.flatMap MEn.cells).length = l.length * 2 := by
 induction l with
 | nil => rfl
 | cons y l ih =>
  rw [List.flatMap_cons, List.length_append, ih, List.length_cons]
  simp only [MEn.cells, List.length_cons, List.length_nil]
  omega
def EntsIn (w : World) (v : Value) (l : List REn) : Prop := ∃ ms : List MEn, ms.map MEn.e = l ∧ RowIn w v l.length (ms.flatMap MEn.cells) ∧ ∀ m ∈ ms, IntsIn (fun _ => True) w m.lv m.e.lits
theorem EntsIn.below {w w' : World} {v : Value} {l : List REn} (h : EntsIn w v l) (k : Below w.heap.size w w') : EntsIn w' v l := by
 obtain ⟨ms, h1, h2, h3⟩ := h
 exact ⟨ms, h1, h2.below k, fun m hm => (h3 m hm).below k⟩
theorem EntsIn.at_ {w : World} {v : Value} {l : List REn} (h : EntsIn w v l) {i : Nat} {x : REn} (hx : l[i]? = some x) : ∃ g o c u, v = .slice (some ⟨g, o, none⟩) l.length c ∧ l.length ≤ c ∧ g < w.heap.size ∧ w.cell? ⟨g, o + i * 2, none⟩ = some (.int .i64 x.id) ∧ w.cell? ⟨g, o + i * 2 + 1, none⟩ = some u ∧ IntsIn (fun _ => True) w u x.lits := by
 obtain ⟨ms, h1, ⟨A, c, rfl, h2, h3, h4⟩, h5⟩ := h
 rw [← h1, List.getElem?_map] at hx
 cases hm : ms[i]? with
 | none => rw [hm] at hx; cases hx
 | some m =>
  rw [hm] at hx
  obtain rfl := Option.some.inj hx
  obtain ⟨g, o, rfl, e2, e3⟩ := h4 _ _ (enCells_at ms i 0 m hm (by decide))
  obtain ⟨g', o', e, _, f3⟩ := h4 _ _ (enCells_at ms i 1 m hm (by decide))
  cases e
  rw [← Nat.add_assoc] at f3
  exact ⟨g, o, c, m.lv, rfl, h2, e2, e3, f3, h5 m (List.mem_of_getElem? hm)⟩
/-- the reference's arena -/
def RAAt (w : World) (v : Value) (a : RAr) : Prop := ∃ av, v = .agg #[av, .int .i64 a.last] ∧ EntsIn w av a.all
theorem RAAt.below {w w' : World} {v : Value} {a : RAr} (h : RAAt w v a) (k : Below w.heap.size w w') : RAAt w' v a := by
 obtain ⟨av, h1, h2⟩ := h
 exact ⟨av, h1, h2.below k⟩
end Go.Proofs.YtiodfolcnnkdjaaGreat
namespace Go.Proofs.YtiodfolcnnkdjaaGreat
open Go.RowKit

theorem ref_var (x : Int) (w : World) : Calls Tryz.prog 59 #[.int .i64 x] w fun e w' => e = .returned (.int .i64 (litV x : Nat)) ∧ w = w' := by
 obtain ⟨b, hb⟩ : ∃ b, litB x = b := ⟨_, rfl⟩
 have HR := ref_right_lit x w
 rw [hb] at HR
 have HR := Lib.hid HR
 cases b with
 | false =>
  have HV := Lib.hid (show litV x = 0 from by unfold litV; rw [if_neg (by rw [hb]; decide)])
  clear hb
  go_enter Tryz.func59, Tryz.ntmps59
  go_wp2_with fail
  refine HR.out.mono ?_
  rintro e w' ⟨rfl, rfl⟩
  go_wp2_with fail
  go_ret
  exact ⟨by rw [HV.out]; rfl, rfl⟩
 | true =>
  have HV := Lib.hid (show litV x = x.natAbs from by unfold litV; rw [if_pos hb])
  have hbb := (litB_iff x).1 hb
  clear hb
  by_cases hx : x < 0
  ·
   have q0 : decide (x < 0) = true := by simpa using hx
   have w1 : IntKind.i64.wrap (-x) = -x := IntWalk.i64_in _ (by omega)
   go_enter Tryz.func59, Tryz.ntmps59
   go_wp2_with fail
   refine HR.out.mono ?_
   rintro e w' ⟨rfl, rfl⟩
   go_wp2_with fail
   go_ret
   exact ⟨by rw [HV.out]; exact congrArg (fun z => Ending.returned (.int .i64 z)) (by omega), rfl⟩
  ·
   have q0 : decide (x < 0) = false := by simpa using hx
   go_enter Tryz.func59, Tryz.ntmps59
   go_wp2_with fail
   refine HR.out.mono ?_
   rintro e w' ⟨rfl, rfl⟩
   go_wp2_with fail
   go_ret
   exact ⟨by rw [HV.out]; exact congrArg (fun z => Ending.returned (.int .i64 z)) (by omega), rfl⟩
theorem drop_at {α : Type} {l : List α} {k : Nat} {x : α} (h : l[k]? = some x) : l.drop k = x :: l.drop (k + 1) := by
 have hlt := (List.getElem?_eq_some_iff.1 h).1
 rw [List.drop_eq_getElem_cons hlt]
 rw [List.getElem?_eq_getElem hlt] at h
 rw [Option.some.inj h]
/-- bounds of a trail of the reference -/
structure RTr.Ok (t : RTr) : Prop where
 len : t.items.length ≤ 1000000
set_option maxRecDepth 100000 in
set_option maxHeartbeats 1000000 in
theorem ref_place (v : Int) (t : RTr) (tv : Value) (w : World) (h : RTAt w tv t) (ho : t.Ok) :
  Calls Tryz.prog 63 #[tv, .int .i64 v] w fun e w' => e = .returned (.int .i64 (rP t.items v)) ∧ Below w.heap.size w w' := by
 have hlen := ho.len
 obtain ⟨iv, sv, rfl, hi, hs⟩ := h
 obtain ⟨wa, hwa⟩ : ∃ z, w.alloc (.cells #[.int .i64 t.vars, .int .i64 t.now, iv, sv] 59) = z := ⟨_, rfl⟩
 have hba : Below w.heap.size w wa := by rw [← hwa]; exact mx_al _ _
 have hbn : wa.heap[w.heap.size]? = some (.cells #[.int .i64 t.vars, .int .i64 t.now, iv, sv] 59 (0, 0)) := by rw [← hwa]; exact World.alloc_heap_new _ _
 have HI := Lib.hid (hi.below hba)
 have HS := Lib.hid (hs.below hba)
 have HBA := Lib.hid hba
 have HBN := Lib.hid hbn
 have HWA := Lib.hid hwa
 obtain ⟨A, c, rfl, _, _, _⟩ := hi
 have c2 : wa.cell? ⟨w.heap.size, 2, none⟩ = some (.slice A t.items.length c) := mx_cell (j := 2) hbn
 clear hba hbn hs hwa
 go_enter Tryz.func63, Tryz.ntmps63
 go_wp2_with fail
 rw [HWA.out]
 go_loop [5] (fun i => ∃ k : Nat, k ≤ t.items.length ∧ i = .int .i64 k ∧ Hid (rP t.items v = rPl (t.items.drop k) v k)) (fun i => t.items.length - (intOf i).toNat)
 case atStart => exact ⟨0, Nat.zero_le _, rfl, Lib.hid rfl⟩
 case round =>
  obtain ⟨k, hk, rfl, HE⟩ := hrel
  by_cases hlt : k < t.items.length
  ·
   obtain ⟨x, hx⟩ := getElem_of hlt
   obtain ⟨g, o, c', hA, _, hg, d0, d1, d2⟩ := HI.out.item hx
   simp only [Value.slice.injEq, true_and] at hA
   obtain ⟨rfl, rfl⟩ := hA
   have hdr := drop_at hx
   clear hx d1 d2
   by_cases hv : 0 < v
   ·
    have q0 : decide (0 < v) = true := by simpa using hv
    by_cases hq : (litV x.lit : Int) = v
    ·
     have q1 : ((litV x.lit : Int) == v) = true := by simpa using hq
     have HN := Lib.hid (show rP t.items v = k from by rw [HE.out, hdr]; exact if_pos ⟨hv, hq⟩)
     clear hq hdr hv
     go_wp2_with fail
     refine (ref_var x.lit wa).mono ?_
     rintro e w' ⟨rfl, rfl⟩
     go_wp2_with fail
     go_ret
     exact ⟨by rw [HN.out]; rfl, HBA.out⟩
    ·
     have q1 : ((litV x.lit : Int) == v) = false := by simpa using hq
     have HN := Lib.hid (show rP t.items v = rPl (t.items.drop (k + 1)) v (k + 1) from by rw [HE.out, hdr]; exact if_neg (fun h => hq h.2))
     clear hq hdr hv
     go_wp2_with fail
     refine (ref_var x.lit wa).mono ?_
     rintro e w' ⟨rfl, rfl⟩
     go_wp2_with fail
     go_round
     case rel => exact ⟨k + 1, by omega, by go_num, HN⟩
     case measure => simp [intOf]; omega
   ·
    have q0 : decide (0 < v) = false := by simpa using hv
    have HN := Lib.hid (show rP t.items v = rPl (t.items.drop (k + 1)) v (k + 1) from by rw [HE.out, hdr]; exact if_neg (fun h => hv h.1))
    clear hdr hv
    go_wp2_with fail
    go_round
    case rel => exact ⟨k + 1, by omega, by go_num, HN⟩
    case measure => simp [intOf]; omega
  ·
   obtain rfl : k = t.items.length := by omega
   have hE := HE.out
   rw [List.drop_length] at hE
   have HN := Lib.hid (show rP t.items v = -1 from hE)
   clear hE
   go_wp2_with fail
   go_ret
   exact ⟨by rw [HN.out]; rfl, HBA.out⟩
set_option maxRecDepth 100000 in
set_option maxHeartbeats 1000000 in
theorem ref_value (y : Int) (t : RTr) (tv : Value) (w : World) (h : RTAt w tv t) (ho : t.Ok) :
  Calls Tryz.prog 56 #[tv, .int .i64 y] w fun e w' => e = .returned (.int .i64 (rVl t.items y)) ∧ Below w.heap.size w w' := by
 have hlen := ho.len
 obtain ⟨iv, sv, rfl, hi, hs⟩ := h
 obtain ⟨wa, hwa⟩ : ∃ z, w.alloc (.cells #[.int .i64 t.vars, .int .i64 t.now, iv, sv] 59) = z := ⟨_, rfl⟩
 have hba : Below w.heap.size w wa := by rw [← hwa]; exact mx_al _ _
 have hbn : wa.heap[w.heap.size]? = some (.cells #[.int .i64 t.vars, .int .i64 t.now, iv, sv] 59 (0, 0)) := by rw [← hwa]; exact World.alloc_heap_new _ _
 have HI := Lib.hid (hi.below hba)
 have HS := Lib.hid (hs.below hba)
 have HBA := Lib.hid hba
 have HBN := Lib.hid hbn
 have HWA := Lib.hid hwa
 obtain ⟨A, c, rfl, _, _, _⟩ := hi
 have c2 : wa.cell? ⟨w.heap.size, 2, none⟩ = some (.slice A t.items.length c) := mx_cell (j := 2) hbn
 clear hba hbn hs hwa
 obtain ⟨b, hb⟩ : ∃ b, litB y = b := ⟨_, rfl⟩
 have HR := fun w => ref_right_lit y w
 rw [hb] at HR
 have HR := Lib.hid HR
 have HY := Lib.hid hb
 go_enter Tryz.func56, Tryz.ntmps56
 go_wp2_with fail
 rw [HWA.out]
 go_loop [5] (fun i => ∃ k : Nat, k ≤ t.items.length ∧ i = .int .i64 k ∧ Hid (rVl t.items y = rVl (t.items.drop k) y)) (fun i => t.items.length - (intOf i).toNat)
 case atStart => exact ⟨0, Nat.zero_le _, rfl, Lib.hid rfl⟩
 case round =>
  obtain ⟨k, hk, rfl, HE⟩ := hrel
  by_cases hlt : k < t.items.length
  ·
   obtain ⟨x, hx⟩ := getElem_of hlt
   obtain ⟨g, o, c', hA, _, hg, d0, d1, d2⟩ := HI.out.item hx
   simp only [Value.slice.injEq, true_and] at hA
   obtain ⟨rfl, rfl⟩ := hA
   have hdr := drop_at hx
   clear hx d1 d2
   cases b with
   | false =>
    have hne : ¬ litB y = true := by rw [HY.out]; decide
    have HN := Lib.hid (show rVl t.items y = rVl (t.items.drop (k + 1)) y from by rw [HE.out, hdr]; exact (if_neg (fun h => hne h.1)).trans (if_neg (fun h => hne h.1)))
    clear hdr hne
    go_wp2_with fail
    refine (HR.out wa).mono ?_
    rintro e w' ⟨rfl, rfl⟩
    go_wp2_with fail
    refine (HR.out wa).mono ?_
    rintro e w' ⟨rfl, rfl⟩
    go_wp2_with fail
    go_round
    case rel => exact ⟨k + 1, by omega, by go_num, HN⟩
    case measure => simp [intOf]; omega
   | true =>
    have hbb := (litB_iff y).1 HY.out
    have w1 : IntKind.i64.wrap (-y) = -y := IntWalk.i64_in _ (by omega)
    by_cases hq : x.lit = y
    ·
     have q1 : (x.lit == y) = true := by simpa using hq
     have HN := Lib.hid (show rVl t.items y = 1 from by rw [HE.out, hdr]; exact if_pos ⟨HY.out, hq⟩)
     clear hq hdr
     go_wp2_with fail
     refine (HR.out wa).mono ?_
     rintro e w' ⟨rfl, rfl⟩
     go_wp2_with fail
     go_ret
     exact ⟨by rw [HN.out]; rfl, HBA.out⟩
    ·
     have q1 : (x.lit == y) = false := by simpa using hq
     by_cases hq2 : x.lit = -y
     ·
      have q2 : (x.lit == -y) = true := by simpa using hq2
      have HN := Lib.hid (show rVl t.items y = -1 from by rw [HE.out, hdr]; exact (if_neg (fun h => hq h.2)).trans (if_pos ⟨HY.out, hq2⟩))
      clear hq hq2 hdr
      go_wp2_with fail
      refine (HR.out wa).mono ?_
      rintro e w' ⟨rfl, rfl⟩
      go_wp2_with fail
      refine (HR.out wa).mono ?_
      rintro e w' ⟨rfl, rfl⟩
      go_wp2_with fail
      go_ret
      exact ⟨by rw [HN.out]; rfl, HBA.out⟩
     ·
      have q2 : (x.lit == -y) = false := by simpa using hq2
      have HN := Lib.hid (show rVl t.items y = rVl (t.items.drop (k + 1)) y from by rw [HE.out, hdr]; exact (if_neg (fun h => hq h.2)).trans (if_neg (fun h => hq2 h.2)))
      clear hq hq2 hdr
      go_wp2_with fail
      refine (HR.out wa).mono ?_
      rintro e w' ⟨rfl, rfl⟩
      go_wp2_with fail
      refine (HR.out wa).mono ?_
      rintro e w' ⟨rfl, rfl⟩
      go_wp2_with fail
      go_round
      case rel => exact ⟨k + 1, by omega, by go_num, HN⟩
      case measure => simp [intOf]; omega
  ·
   obtain rfl : k = t.items.length := by omega
   have hE := HE.out
   rw [List.drop_length] at hE
   have HN := Lib.hid (show rVl t.items y = 0 from hE)
   clear hE
   go_wp2_with fail
   go_ret
   exact ⟨by rw [HN.out]; rfl, HBA.out⟩
set_option maxRecDepth 100000 in
set_option maxHeartbeats 1000000 in
theorem ref_place14 (y : Int) (t : RTr) (tv : Value) (w : World) (h : RTAt w tv t) (ho : t.Ok) :
  Calls Tryz.prog 98 #[tv, .int .i64 y] w fun e w' => e = .returned (.int .i64 (rP t.items (litV y : Nat))) ∧ Below w.heap.size w w' := by
 have HOK := Lib.hid ho
 obtain ⟨iv, sv, rfl, hi, hs⟩ := h
 obtain ⟨wa, hwa⟩ : ∃ z, w.alloc (.cells #[.int .i64 t.vars, .int .i64 t.now, iv, sv] 59) = z := ⟨_, rfl⟩
 have hba : Below w.heap.size w wa := by rw [← hwa]; exact mx_al _ _
 have hbn : wa.heap[w.heap.size]? = some (.cells #[.int .i64 t.vars, .int .i64 t.now, iv, sv] 59 (0, 0)) := by rw [← hwa]; exact World.alloc_heap_new _ _
 have HI := Lib.hid (hi.below hba)
 have HS := Lib.hid (hs.below hba)
 have HBA := Lib.hid hba
 have HBN := Lib.hid hbn
 have HWA := Lib.hid hwa
 have C0 := Lib.hid (mx_cell (j := 0) hbn)
 have C1 := Lib.hid (mx_cell (j := 1) hbn)
 have C2 := Lib.hid (mx_cell (j := 2) hbn)
 have C3 := Lib.hid (mx_cell (j := 3) hbn)
 have hzw := heap_lt hbn
 have HT := Lib.hid (show RTAt wa (.agg #[.int .i64 t.vars, .int .i64 t.now, iv, sv]) t from ⟨iv, sv, rfl, HI.out, HS.out⟩)
 clear hba hbn hs hwa hi
 go_enter Tryz.func98, Tryz.ntmps98
 go_upto_region 1 with fail
 rw [HWA.out]
 refine wp_region_held_drew (S := fun w' => Below wa.heap.size wa w') (by kernel_rfl) (mx_drew wa) (fun hS => ?_)
 refine takeF 0 5 (fun wq hSw => And.intro ((hSw.cell (p := ⟨w.heap.size, 0, none⟩) hzw).trans C0.out) (And.intro ((hSw.cell (p := ⟨w.heap.size, 1, none⟩) hzw).trans C1.out) (And.intro ((hSw.cell (p := ⟨w.heap.size, 2, none⟩) hzw).trans C2.out) ((hSw.cell (p := ⟨w.heap.size, 3, none⟩) hzw).trans C3.out)))) ?_
 refine takeE 1 6 ?_
 refine ready1 2 (fun K hK => ?_)
 go_simp
 refine (ref_var y _).mono ?_
 rintro e w' ⟨rfl, rfl⟩
 refine hK.out _ _ hS (fun _ => ?_)
 clear hK
 refine ready1 3 (fun K hK => ?_)
 go_simp
 refine (ref_place (litV y : Nat) t _ _ (HT.out.below hS) HOK.out).mono ?_
 rintro e w2 ⟨rfl, hbN⟩
 have hSN := hS.trans (hbN.mono hS.size)
 refine hK.out _ _ hSN (fun _ => ?_)
 clear hK hbN hS
 have hS := hSN
 clear hSN
 refine takeE 4 4 ?_
 refine wpAnyH_done (by kernel_rfl) ?_ _
 go_wp2_with fail
 go_ret
 exact ⟨rfl, HBA.out.trans (hS.mono HBA.out.size)⟩
set_option maxRecDepth 100000 in
set_option maxHeartbeats 1000000 in
theorem ref_level14 (y : Int) (t : RTr) (tv : Value) (w : World) (h : RTAt w tv t) (ho : t.Ok) (hp : 0 ≤ rP t.items (litV y : Nat)) :
  Calls Tryz.prog 101 #[tv, .int .i64 y] w fun e w' => e = .returned (.int .i64 (rL t.items y)) ∧ Below w.heap.size w w' := by
 have hlen := ho.len
 have HOK := Lib.hid ho
 obtain ⟨p, hp1⟩ : ∃ p : Nat, rP t.items (litV y : Nat) = p := ⟨_, (Int.toNat_of_nonneg hp).symm⟩
 have hpl : p < t.items.length := by
  have := rP_lt t.items (litV y : Nat)
  omega
 obtain ⟨x, hx⟩ := getElem_of hpl
 have HL := Lib.hid (show rL t.items y = x.level from by unfold rL; rw [hp1, Int.toNat_natCast, hx])
 have HP := Lib.hid (fun (w : World) tv (h : RTAt w tv t) => hp1 ▸ ref_place14 y t tv w h ho)
 obtain ⟨iv, sv, rfl, hi, hs⟩ := h
 obtain ⟨wa, hwa⟩ : ∃ z, w.alloc (.cells #[.int .i64 t.vars, .int .i64 t.now, iv, sv] 59) = z := ⟨_, rfl⟩
 have hba : Below w.heap.size w wa := by rw [← hwa]; exact mx_al _ _
 have hbn : wa.heap[w.heap.size]? = some (.cells #[.int .i64 t.vars, .int .i64 t.now, iv, sv] 59 (0, 0)) := by rw [← hwa]; exact World.alloc_heap_new _ _
 have HI := Lib.hid (hi.below hba)
 have HS := Lib.hid (hs.below hba)
 have HBA := Lib.hid hba
 have HBN := Lib.hid hbn
 have HWA := Lib.hid hwa
 have C0 := Lib.hid (mx_cell (j := 0) hbn)
 have C1 := Lib.hid (mx_cell (j := 1) hbn)
 have C2 := Lib.hid (mx_cell (j := 2) hbn)
 have C3 := Lib.hid (mx_cell (j := 3) hbn)
 have hzw := heap_lt hbn
 have HT := Lib.hid (show RTAt wa (.agg #[.int .i64 t.vars, .int .i64 t.now, iv, sv]) t from ⟨iv, sv, rfl, HI.out, HS.out⟩)
 obtain ⟨g, o, c, rfl, hlc, hg, d0, d1, d2⟩ := HI.out.item hx
 have D2 := Lib.hid d2
 have hpc : p < c := by omega
 clear hba hbn hs hwa hi d0 d1 d2 hx hp hp1 ho
 go_enter Tryz.func101, Tryz.ntmps101
 go_upto_region 1 with fail
 rw [HWA.out]
 refine wp_region_held_drew (S := fun w' => Below wa.heap.size wa w') (by kernel_rfl) (mx_drew wa) (fun hS => ?_)
 refine takeE 0 5 ?_
 refine takeF 1 6 (fun wq hSw => And.intro ((hSw.cell (p := ⟨w.heap.size, 0, none⟩) hzw).trans C0.out) (And.intro ((hSw.cell (p := ⟨w.heap.size, 1, none⟩) hzw).trans C1.out) (And.intro ((hSw.cell (p := ⟨w.heap.size, 2, none⟩) hzw).trans C2.out) ((hSw.cell (p := ⟨w.heap.size, 3, none⟩) hzw).trans C3.out)))) ?_
 refine takeF 2 7 (fun wq hSw => And.intro ((hSw.cell (p := ⟨w.heap.size, 0, none⟩) hzw).trans C0.out) (And.intro ((hSw.cell (p := ⟨w.heap.size, 1, none⟩) hzw).trans C1.out) (And.intro ((hSw.cell (p := ⟨w.heap.size, 2, none⟩) hzw).trans C2.out) ((hSw.cell (p := ⟨w.heap.size, 3, none⟩) hzw).trans C3.out)))) ?_
 refine takeE 3 8 ?_
 refine ready1 4 (fun K hK => ?_)
 go_simp
 refine (HP.out _ _ (HT.out.below hS)).mono ?_
 rintro e w2 ⟨rfl, hbN⟩
 have hSN := hS.trans (hbN.mono hS.size)
 refine hK.out _ _ hSN (fun _ => ?_)
 clear hK hbN hS
 have hS := hSN
 clear hSN
 refine takeE 5 10 ?_
 refine takeE 6 11 ?_
 refine takeF 7 12 (fun wq hSw => (hSw.cell (p := ⟨g, o + p * 3 + 2, none⟩) hg).trans D2.out) ?_
 refine takeE 8 4 ?_
 refine wpAnyH_done (by kernel_rfl) ?_ _
 go_wp2_with fail
 go_ret
 exact ⟨by rw [HL.out]; rfl, HBA.out.trans (hS.mono HBA.out.size)⟩
end Go.Proofs.YtiodfolcnnkdjaaGreat
namespace Go.Proofs.YtiodfolcnnkdjaaGreat
open Go.RowKit

theorem cell_one (W : World) (u : Value) (t : TypeId) : ∀ j z, ([u] : List Value)[j]? = some z → (W.alloc (.cells #[u] t)).cell? ((⟨W.heap.size, 0, none⟩ : Addr).add j) = some z := cells_list_new W [u] t
set_option maxRecDepth 100000 in
set_option maxHeartbeats 1000000 in
theorem ref_has14 {O : Nat → Prop} (x : Int) (u : Value) (l : List Int) (w : World) (h : IntsIn O w u l) (hl : l.length ≤ 1000000) :
  Calls Tryz.prog 99 #[u, .int .i64 x] w fun e w' => e = .returned (.bool (l.contains x)) ∧ w = w' := by
 obtain ⟨A, c, rfl, hc, _, hx⟩ := h
 have HX := Lib.hid hx
 clear hx
 obtain ⟨bb, hbb⟩ : ∃ b, l.contains x = b := ⟨_, rfl⟩
 rw [hbb]
 have HBB := Lib.hid hbb
 clear hbb
 go_enter Tryz.func99, Tryz.ntmps99
 go_wp2_with fail
 go_loop [5] (fun i => ∃ k : Nat, k ≤ l.length ∧ i = .int .i64 k ∧ Hid (bb = (l.drop k).contains x)) (fun i => l.length - (intOf i).toNat)
 case atStart => exact ⟨0, Nat.zero_le _, rfl, Lib.hid HBB.out.symm⟩
 case round =>
  obtain ⟨k, hk, rfl, HE⟩ := hrel
  by_cases hlt : k < l.length
  ·
   obtain ⟨y, hy⟩ := getElem_of hlt
   obtain ⟨g, o, rfl, hg, _, d0⟩ := HX.out k y hy
   have hdr := drop_at hy
   clear hy
   by_cases hq : y = x
   ·
    have q1 : (y == x) = true := by simpa using hq
    have HN := Lib.hid (show bb = true from by rw [HE.out, hdr, List.contains_cons, Bool.or_eq_true]; exact .inl (by simpa using hq.symm))
    clear hq hdr
    go_wp2_with fail
    go_ret
    exact ⟨by rw [HN.out]; rfl, rfl⟩
   ·
    have q1 : (y == x) = false := by simpa using hq
    have HN := Lib.hid (show bb = (l.drop (k + 1)).contains x from by rw [HE.out, hdr, List.contains_cons, show (x == y) = false from by simpa using fun e : x = y => hq e.symm, Bool.false_or])
    clear hq hdr
    go_wp2_with fail
    go_round
    case rel => exact ⟨k + 1, by omega, by go_num, HN⟩
    case measure => simp [intOf]; omega
  ·
   obtain rfl : k = l.length := by omega
   have hE := HE.out
   rw [List.drop_length] at hE
   have HN := Lib.hid (show bb = false from hE)
   clear hE
   go_wp2_with fail
   go_ret
   exact ⟨by rw [HN.out]; rfl, rfl⟩
set_option maxRecDepth 100000 in
set_option maxHeartbeats 1000000 in
theorem ref_find (id : Int) (a : RAr) (av : Value) (w : World) (h : RAAt w av a) (hl : a.all.length ≤ 1000000) :
  Calls Tryz.prog 57 #[av, .int .i64 id] w fun e w' => e = .returned (.int .i64 (rFind a.all id)) ∧ Below w.heap.size w w' := by
 obtain ⟨ev, rfl, he⟩ := h
 obtain ⟨wa, hwa⟩ : ∃ z, w.alloc (.cells #[ev, .int .i64 a.last] 56) = z := ⟨_, rfl⟩
 have hba : Below w.heap.size w wa := by rw [← hwa]; exact mx_al _ _
 have hbn : wa.heap[w.heap.size]? = some (.cells #[ev, .int .i64 a.last] 56 (0, 0)) := by rw [← hwa]; exact World.alloc_heap_new _ _
 have HE := Lib.hid (he.below hba)
 have HBA := Lib.hid hba
 have HWA := Lib.hid hwa
 obtain ⟨ms, hms, ⟨A, c, rfl, _, _, _⟩, _⟩ := he
 have c0 : wa.cell? ⟨w.heap.size, 0, none⟩ = some (.slice A a.all.length c) := mx_cell (j := 0) hbn
 clear hba hbn hwa hms
 go_enter Tryz.func57, Tryz.ntmps57
 go_wp2_with fail
 rw [HWA.out]
 go_loop [5] (fun i => ∃ k : Nat, k ≤ a.all.length ∧ i = .int .i64 k ∧ Hid (rFind a.all id = rFd (a.all.drop k) id k)) (fun i => a.all.length - (intOf i).toNat)
 case atStart => exact ⟨0, Nat.zero_le _, rfl, Lib.hid rfl⟩
 case round =>
  obtain ⟨k, hk, rfl, HF⟩ := hrel
  by_cases hlt : k < a.all.length
  ·
   obtain ⟨x, hx⟩ := getElem_of hlt
   obtain ⟨g, o, c', u, hA, _, hg, d0, _, _⟩ := HE.out.at_ hx
   simp only [Value.slice.injEq, true_and] at hA
   obtain ⟨rfl, rfl⟩ := hA
   have hdr := drop_at hx
   clear hx
   by_cases hq : x.id = id
   ·
    have q1 : (x.id == id) = true := by simpa using hq
    have HN := Lib.hid (show rFind a.all id = k from by rw [HF.out, hdr]; exact if_pos hq)
    clear hq hdr
    go_wp2_with fail
    go_ret
    exact ⟨by rw [HN.out]; rfl, HBA.out⟩
   ·
    have q1 : (x.id == id) = false := by simpa using hq
    have HN := Lib.hid (show rFind a.all id = rFd (a.all.drop (k + 1)) id (k + 1) from by rw [HF.out, hdr]; exact if_neg hq)
    clear hq hdr
    go_wp2_with fail
    go_round
    case rel => exact ⟨k + 1, by omega, by go_num, HN⟩
    case measure => simp [intOf]; omega
  ·
   obtain rfl : k = a.all.length := by omega
   have hF := HF.out
   rw [List.drop_length] at hF
   have HN := Lib.hid (show rFind a.all id = -1 from hF)
   clear hF
   go_wp2_with fail
   go_ret
   exact ⟨by rw [HN.out]; rfl, HBA.out⟩
theorem rbox2 (w : World) (ca ct : Array Value) (ta tt : TypeId) : ∃ wa, ((w.alloc (.cells ca ta)).alloc (.cells ct tt)) = wa ∧ Below w.heap.size w wa ∧ wa.heap[w.heap.size]? = some (.cells ca ta (0, 0)) ∧ wa.heap[w.heap.size + 1]? = some (.cells ct tt (0, 0)) := by
 refine ⟨_, rfl, (mx_al _ _).alloc (by simp) _, ?_, ?_⟩
 ·
  rw [Below.heap_alloc _ _ _ (by simp)]
  exact World.alloc_heap_new _ _
 ·
  have := World.alloc_heap_new (w.alloc (.cells ca ta)) (.cells ct tt)
  rwa [World.size_alloc] at this
/-- the rest of a reason -/
def rRest (its : List RIt) (na p : Int) : List Int → List Int → Option (List Int)
 | acc, [] => some acc
 | acc, x :: c => if x = na then rRest its na p acc c else if 0 ≤ rVl its x then none else if p ≤ rP its (litV x) then none else rRest its na p (acc ++ [x]) c
def rReasonAt (all : List REn) (its : List RIt) (y p id : Int) : Option (List Int × Int) :=
 if rFind all id < 0 then none else match all[(rFind all id).toNat]? with
 | some e => if e.lits.contains (-y) = true then (rRest its (-y) p [] e.lits).map (·, id) else none
 | none => none
def rReason (all : List REn) (its : List RIt) (y : Int) : Option (List Int × Int) := match its[(rP its (litV y)).toNat]? with
 | some x => rReasonAt all its y (rP its (litV y)) x.reason
 | none => none
structure RAr.Ok (a : RAr) : Prop where
 len : a.all.length ≤ 1000000
 lits : ∀ e ∈ a.all, e.lits.length ≤ 4096
theorem rRest_len (its : List RIt) (na p : Int) (acc c r : List Int) (h : rRest its na p acc c = some r) : r.length ≤ acc.length + c.length := by
 induction c generalizing acc with
 | nil =>
  obtain rfl := Option.some.inj h
  exact Nat.le_add_right _ _
 | cons x c ih =>
  unfold rRest at h
  simp only [List.length_cons]
  split at h
  ·
   have := ih _ h
   omega
  ·
   split at h
   ·
    cases h
   ·
    split at h
    ·
     cases h
    ·
     have := ih _ h
     simp only [List.length_append, List.length_cons, List.length_nil] at this
     omega
set_option maxRecDepth 100000 in
set_option maxHeartbeats 4000000 in
theorem ref_reason (y : Int) (a : RAr) (t : RTr) (av tv : Value) (w : World) (ha : RAAt w av a) (h : RTAt w tv t) (hao : a.Ok) (ho : t.Ok) (h0 : -9223372036854775807 ≤ y) (h1 : y ≤ 9223372036854775807) (hp : 0 ≤ rP t.items (litV y : Nat)) :
  Calls Tryz.prog 97 #[av, tv, .int .i64 y] w fun e w' => ((∃ v r id, rReason a.all t.items y = some (r, id) ∧ e = .returned (.tuple #[v, .int .i64 id, .bool true]) ∧ w'.ownsRow w.heap.size 3 1 v r.length (r.map (Value.int .i64)) ∧ r.length ≤ 4096) ∨ (rReason a.all t.items y = none ∧ e = .returned (.tuple #[.slice none 0 0, .int .i64 0, .bool false]))) ∧ Below w.heap.size w w' := by
 obtain ⟨i0, hi0, hi1, hi2, hi3⟩ := info_parts tinfo_int
 have hlen := ho.len
 have hlena := hao.len
 have HOK := Lib.hid ho
 obtain ⟨p, hp1⟩ : ∃ p : Nat, rP t.items (litV y : Nat) = p := ⟨_, (Int.toNat_of_nonneg hp).symm⟩
 have hpl : p < t.items.length := by
  have := rP_lt t.items (litV y : Nat)
  omega
 obtain ⟨x, hx⟩ := getElem_of hpl
 have HP := Lib.hid (fun (w : World) tv (h : RTAt w tv t) => hp1 ▸ ref_place14 y t tv w h ho)
 obtain ⟨res, hres⟩ : ∃ r, rReason a.all t.items y = r := ⟨_, rfl⟩
 rw [hres]
 have hrs : rReasonAt a.all t.items y p x.reason = res := by
  rw [← hres]
  unfold rReason
  rw [hp1, Int.toNat_natCast, hx]
 have w1 : IntKind.i64.wrap (-y) = -y := IntWalk.i64_in _ (by omega)
 clear hres hp hp1 ho
 obtain ⟨ev, rfl, he⟩ := ha
 obtain ⟨iv, sv, rfl, hi, hs⟩ := h
 obtain ⟨wa, hwa, hba, hb0, hb1⟩ := rbox2 w #[ev, .int .i64 a.last] #[.int .i64 t.vars, .int .i64 t.now, iv, sv] 56 59
 have HE := Lib.hid (he.below hba)
 have HI := Lib.hid (hi.below hba)
 have HT := Lib.hid (show RTAt wa (.agg #[.int .i64 t.vars, .int .i64 t.now, iv, sv]) t from ⟨iv, sv, rfl, hi.below hba, hs.below hba⟩)
 have HA := Lib.hid (show RAAt wa (.agg #[ev, .int .i64 a.last]) a from ⟨ev, rfl, he.below hba⟩)
 have HBA := Lib.hid hba
 have HWA := Lib.hid hwa
 have hz0 := heap_lt hb0
 have hz1 := heap_lt hb1
 have A0 := Lib.hid (mx_cell (j := 0) hb0)
 have A1 := Lib.hid (mx_cell (j := 1) hb0)
 have B0 := Lib.hid (mx_cell (j := 0) hb1)
 have B1 := Lib.hid (mx_cell (j := 1) hb1)
 have B2 := Lib.hid (mx_cell (j := 2) hb1)
 have B3 := Lib.hid (mx_cell (j := 3) hb1)
 clear hwa hba hb0 hb1 hs
 obtain ⟨g, o, c, rfl, hlc, hg, d0, d1, d2⟩ := HI.out.item hx
 have D1 := Lib.hid d1
 have hpc : p < c := by omega
 obtain ⟨id, hid⟩ : ∃ i, x.reason = i := ⟨_, rfl⟩
 rw [hid] at D1 hrs
 have HF := Lib.hid (fun (w : World) av (h : RAAt w av a) => ref_find id a av w h hlena)
 obtain ⟨fi, hfi⟩ : ∃ f, rFind a.all id = f := ⟨_, rfl⟩
 have hflt := rFind_lt a.all id
 unfold rReasonAt at hrs
 rw [hfi] at HF hrs hflt
 have HRS := Lib.hid hrs
 clear hi d0 d1 d2 hx hid hfi hrs
 go_enter Tryz.func97, Tryz.ntmps97
 go_upto_region 1 with fail
 rw [HWA.out]
 have b0 := ((Below.refl wa.heap.size wa).cell (p := ⟨w.heap.size + 1, 0, none⟩) hz1).trans B0.out
 have b1 := ((Below.refl wa.heap.size wa).cell (p := ⟨w.heap.size + 1, 1, none⟩) hz1).trans B1.out
 have b2 := ((Below.refl wa.heap.size wa).cell (p := ⟨w.heap.size + 1, 2, none⟩) hz1).trans B2.out
 have b3 := ((Below.refl wa.heap.size wa).cell (p := ⟨w.heap.size + 1, 3, none⟩) hz1).trans B3.out
 go_wp2_with fail
 refine (HP.out _ _ HT.out).mono ?_
 rintro e w2 ⟨rfl, hb⟩
 have HB2 := Lib.hid hb
 clear b0 b1 b2 b3 hb
 have b0 := (HB2.out.cell (p := ⟨w.heap.size + 1, 0, none⟩) hz1).trans B0.out
 have b1 := (HB2.out.cell (p := ⟨w.heap.size + 1, 1, none⟩) hz1).trans B1.out
 have b2 := (HB2.out.cell (p := ⟨w.heap.size + 1, 2, none⟩) hz1).trans B2.out
 have b3 := (HB2.out.cell (p := ⟨w.heap.size + 1, 3, none⟩) hz1).trans B3.out
 have a0 := (HB2.out.cell (p := ⟨w.heap.size, 0, none⟩) hz0).trans A0.out
 have a1 := (HB2.out.cell (p := ⟨w.heap.size, 1, none⟩) hz0).trans A1.out
 have d1 := (HB2.out.cell (p := ⟨g, o + p * 3 + 1, none⟩) hg).trans D1.out
 go_wp2_with fail
 refine (HF.out _ _ (HA.out.below HB2.out)).mono ?_
 rintro e w3 ⟨rfl, hb⟩
 have HB3 := Lib.hid (HB2.out.trans (hb.mono HB2.out.size))
 clear hb b0 b1 b2 b3 a0 a1 d1
 by_cases hf0 : fi < 0
 ·
  have q0 : decide (fi < 0) = true := by simpa using hf0
  have HN := Lib.hid (show res = none from by rw [← HRS.out]; exact if_pos hf0)
  clear hf0 hflt
  go_wp2_with fail
  go_ret3
  exact ⟨.inr ⟨HN.out, rfl⟩, HBA.out.trans (HB3.out.mono HBA.out.size)⟩
 ·
  have q0 : decide (fi < 0) = false := by simpa using hf0
  obtain ⟨f, rfl⟩ : ∃ f : Nat, fi = f := ⟨_, (Int.toNat_of_nonneg (by omega)).symm⟩
  have hfl : f < a.all.length := by omega
  obtain ⟨en, hen⟩ := getElem_of hfl
  have hrs := HRS.out
  rw [if_neg hf0, Int.toNat_natCast, hen] at hrs
  simp only at hrs
  obtain ⟨g2, o2, c2, u, rfl, hlc2, hg2, e0, e1, hu⟩ := HE.out.at_ hen
  have HU := Lib.hid hu
  have E1 := Lib.hid e1
  have hul : en.lits.length ≤ 4096 := hao.lits en (List.mem_of_getElem? hen)
  have hfc : f < c2 := by omega
  obtain ⟨Au, cu, rfl, _⟩ := hu
  have HRS2 := Lib.hid hrs
  clear hf0 hflt hen hrs e0 e1 HRS hao
  have a0 := (HB3.out.cell (p := ⟨w.heap.size, 0, none⟩) hz0).trans A0.out
  have a1 := (HB3.out.cell (p := ⟨w.heap.size, 1, none⟩) hz0).trans A1.out
  have b0 := (HB3.out.cell (p := ⟨w.heap.size + 1, 0, none⟩) hz1).trans B0.out
  have b1 := (HB3.out.cell (p := ⟨w.heap.size + 1, 1, none⟩) hz1).trans B1.out
  have b2 := (HB3.out.cell (p := ⟨w.heap.size + 1, 2, none⟩) hz1).trans B2.out
  have b3 := (HB3.out.cell (p := ⟨w.heap.size + 1, 3, none⟩) hz1).trans B3.out
  have e1 := (HB3.out.cell (p := ⟨g2, o2 + f * 2 + 1, none⟩) hg2).trans E1.out
  obtain ⟨bb, hbb⟩ : ∃ b, en.lits.contains (-y) = b := ⟨_, rfl⟩
  have HH := ref_has14 (-y) (.slice Au en.lits.length cu) en.lits w3 (HU.out.below HB3.out) (by omega)
  rw [hbb] at HH HRS2
  have HH := Lib.hid HH
  clear hbb
  go_wp2_with fail
  refine HH.out.mono ?_
  rintro e w' ⟨rfl, rfl⟩
  cases bb with
  | false =>
   have HN := Lib.hid (show res = none from by rw [← HRS2.out]; rfl)
   go_wp2_with fail
   go_ret3
   exact ⟨.inr ⟨HN.out, rfl⟩, HBA.out.trans (HB3.out.mono HBA.out.size)⟩
  | true =>
   have HRR := Lib.hid (show (rRest t.items (-y) p [] en.lits).map (·, id) = res from by rw [← HRS2.out]; rfl)
   clear HRS2 HH
   go_wp2_with fail
   clear a0 a1 b0 b1 b2 b3 e1
   go_loopw [12, 13] (fun v i wr => ∃ (k : Nat) (acc : List Int), k ≤ en.lits.length ∧ acc.length ≤ k ∧ i = .int .i64 k ∧ Hid (rRest t.items (-y) p [] en.lits = rRest t.items (-y) p acc (en.lits.drop k)) ∧ Hid (wr.ownsRow wa.heap.size 3 1 v acc.length (acc.map (Value.int .i64))) ∧ Hid (Below wa.heap.size wa wr)) (fun _ i _ => en.lits.length - (intOf i).toNat)
   case atStart => exact ⟨0, [], Nat.zero_le _, Nat.le_refl _, rfl, Lib.hid rfl, Lib.hid (World.ownsRow_nil _ _ _ _), HB3⟩
   case round =>
    obtain ⟨k, acc, hk, hka, rfl, HR, HV, HW⟩ := hrel
    have hzw := HW.out.size
    obtain ⟨Av, cv, rfl, _⟩ := mx_slice HV.out
    have a0 := (HW.out.cell (p := ⟨w.heap.size, 0, none⟩) hz0).trans A0.out
    have a1 := (HW.out.cell (p := ⟨w.heap.size, 1, none⟩) hz0).trans A1.out
    have b0 := (HW.out.cell (p := ⟨w.heap.size + 1, 0, none⟩) hz1).trans B0.out
    have b1 := (HW.out.cell (p := ⟨w.heap.size + 1, 1, none⟩) hz1).trans B1.out
    have b2 := (HW.out.cell (p := ⟨w.heap.size + 1, 2, none⟩) hz1).trans B2.out
    have b3 := (HW.out.cell (p := ⟨w.heap.size + 1, 3, none⟩) hz1).trans B3.out
    have e1 := (HW.out.cell (p := ⟨g2, o2 + f * 2 + 1, none⟩) hg2).trans E1.out
    by_cases hlt : k < en.lits.length
    ·
     obtain ⟨x, hx⟩ := getElem_of hlt
     obtain ⟨A3, c3, hA3, _, _, hxs⟩ := HU.out.below HW.out
     simp only [Value.slice.injEq, true_and] at hA3
     obtain ⟨rfl, rfl⟩ := hA3
     obtain ⟨g3, o3, rfl, hg3, _, f0⟩ := hxs k x hx
     have hdr := drop_at hx
     clear hx hxs
     by_cases hq : x = -y
     ·
      have q1 : (x == -y) = true := by simpa using hq
      have HN := Lib.hid (show rRest t.items (-y) p [] en.lits = rRest t.items (-y) p acc (en.lits.drop (k + 1)) from by rw [HR.out, hdr]; exact if_pos hq)
      clear hq hdr
      go_wp2_with fail
      go_roundw
      case rel => exact ⟨k + 1, acc, by omega, by omega, by go_num, HN, HV, HW⟩
      case measure => simp [intOf]; omega
     ·
      have q1 : (x == -y) = false := by simpa using hq
      have HVL := Lib.hid (ref_value x t _ wr (HT.out.below HW.out) HOK.out)
      by_cases hv0 : 0 ≤ rVl t.items x
      ·
       have q2 : decide (0 ≤ rVl t.items x) = true := by simpa using hv0
       have HN := Lib.hid (show res = none from by
        rw [← HRR.out, HR.out, hdr]
        have e : rRest t.items (-y) p acc (x :: en.lits.drop (k + 1)) = none := (if_neg hq).trans (if_pos hv0)
        rw [e]
        rfl)
       clear hq hdr hv0
       go_wp2_with fail
       refine HVL.out.mono ?_
       rintro e w4 ⟨rfl, hb⟩
       have HB4 := Lib.hid (HW.out.trans (hb.mono hzw))
       clear hb
       go_wp2_with fail
       go_ret3
       exact ⟨.inr ⟨HN.out, rfl⟩, HBA.out.trans (HB4.out.mono HBA.out.size)⟩
      ·
       have q2 : decide (0 ≤ rVl t.items x) = false := by simpa using hv0
       have HV0 := Lib.hid hv0
       clear hv0
       go_wp2_with fail
       refine HVL.out.mono ?_
       rintro e w4 ⟨rfl, hb⟩
       have HB4 := Lib.hid (HW.out.trans (hb.mono hzw))
       have HR4 := Lib.hid hb
       clear hb HVL a0 a1 b0 b1 b2 b3 e1 f0
       have b0 := (HB4.out.cell (p := ⟨w.heap.size + 1, 0, none⟩) hz1).trans B0.out
       have b1 := (HB4.out.cell (p := ⟨w.heap.size + 1, 1, none⟩) hz1).trans B1.out
       have b2 := (HB4.out.cell (p := ⟨w.heap.size + 1, 2, none⟩) hz1).trans B2.out
       have b3 := (HB4.out.cell (p := ⟨w.heap.size + 1, 3, none⟩) hz1).trans B3.out
       have HPL := Lib.hid (ref_place14 x t _ w4 (HT.out.below HB4.out) HOK.out)
       by_cases hpp : (p : Int) ≤ rP t.items (litV x : Nat)
       ·
        have q3 : decide ((p : Int) ≤ rP t.items (litV x : Nat)) = true := by simpa using hpp
        have HN := Lib.hid (show res = none from by
         rw [← HRR.out, HR.out, hdr]
         have e : rRest t.items (-y) p acc (x :: en.lits.drop (k + 1)) = none := (if_neg hq).trans ((if_neg (Int.not_le.2 HV0.out)).trans (if_pos hpp))
         rw [e]
         rfl)
        clear hq hdr hpp
        go_wp2_with fail
        refine HPL.out.mono ?_
        rintro e w5 ⟨rfl, hb⟩
        have HB5 := Lib.hid (HB4.out.trans (hb.mono HB4.out.size))
        clear hb
        go_wp2_with fail
        go_ret3
        exact ⟨.inr ⟨HN.out, rfl⟩, HBA.out.trans (HB5.out.mono HBA.out.size)⟩
       ·
        have q3 : decide ((p : Int) ≤ rP t.items (litV x : Nat)) = false := by simpa using hpp
        have HN := Lib.hid (show rRest t.items (-y) p [] en.lits = rRest t.items (-y) p (acc ++ [x]) (en.lits.drop (k + 1)) from by rw [HR.out, hdr]; exact (if_neg hq).trans ((if_neg (Int.not_le.2 HV0.out)).trans (if_neg hpp)))
        clear hq hdr hpp
        go_wp2_with fail
        refine HPL.out.mono ?_
        rintro e w5 ⟨rfl, hb⟩
        have HB5 := Lib.hid (HB4.out.trans (hb.mono HB4.out.size))
        have hz5 := HB5.out.size
        have HV5 := Lib.hid (own_below (own_below HV.out HR4.out) hb)
        clear hb HPL b0 b1 b2 b3
        go_wp2_with (at_builtin; refine wpList_append_own_at _ rfl _ _ 36 rfl wa.heap.size 3 i0 (.int .i64 0) 1 8 Tryz.underlying36 hi0 hi1 hi2 hi3 rfl (by decide) _ acc.length _ rfl (own_below HV5.out (mx_al w5 _)) ⟨w5.heap.size, 0, none⟩ 1 1 [.int .i64 x] rfl rfl (cell_one _ _ _) (by simp [Value.oneCell']) (by unfold maxLen; omega) (by omega) (by simp; omega) ?_; intro v' w9 hown hgrow hnl hat; obtain ⟨Aw, kw, hv2, _⟩ := mx_slice hown; subst hv2; have HOWN := Lib.hid hown; have HG := Lib.hid hgrow; clear hown hgrow hnl hat)
        have hw9 : Below wa.heap.size wa w9 := (HB5.out.trans ((mx_al w5 (.cells #[.int .i64 x] 3)).mono hz5)).grown HG.out (by simp; omega) (fun g hg => (own_lt HV5.out g hg).1)
        go_roundw
        case rel => exact ⟨k + 1, acc ++ [x], by omega, by simp; omega, by go_num, HN, Lib.hid (by rw [List.length_append, List.map_append]; exact HOWN.out), Lib.hid hw9⟩
        case measure => simp [intOf]; omega
    ·
     obtain rfl : k = en.lits.length := by omega
     have hR := HR.out
     rw [List.drop_length] at hR
     have HN := Lib.hid (show some (acc, id) = res from by rw [← HRR.out, hR]; rfl)
     clear hR
     go_wp2_with fail
     go_ret3
     exact ⟨.inl ⟨_, acc, id, HN.out.symm, rfl, own_mono HV.out HBA.out.size, by omega⟩, HBA.out.trans (HW.out.mono HBA.out.size)⟩
end Go.Proofs.YtiodfolcnnkdjaaGreat
namespace Go.Proofs.YtiodfolcnnkdjaaGreat
open Go.RowKit

def RowO (O : Nat → Prop) (w : World) (v : Value) (n : Nat) (xs : List Value) : Prop :=
 ∃ A c, v = .slice A n c ∧ n ≤ c ∧ (A = none → c = 0) ∧ ∀ j u, xs[j]? = some u → ∃ g o, A = some ⟨g, o, none⟩ ∧ g < w.heap.size ∧ O g ∧ w.cell? ⟨g, o + j, none⟩ = some u
variable {O O' : Nat → Prop} {w w' : World}
theorem RowO.weak {v : Value} {n : Nat} {xs : List Value} (h : RowO O w v n xs) : RowIn w v n xs := by
 obtain ⟨A, c, h1, h2, h3, h4⟩ := h
 refine ⟨A, c, h1, h2, h3, fun j u hj => ?_⟩
 obtain ⟨g, o, e1, e2, _, e3⟩ := h4 j u hj
 exact ⟨g, o, e1, e2, e3⟩
theorem RowO.kept {v : Value} {n : Nat} {xs : List Value} (h : RowO O w v n xs) (k : Kept O' w w') (hO : ∀ g, O g → ¬ O' g) : RowO O w' v n xs := by
 obtain ⟨A, c, h1, h2, h3, h4⟩ := h
 refine ⟨A, c, h1, h2, h3, fun j u hj => ?_⟩
 obtain ⟨g, o, e1, e2, e3, e4⟩ := h4 j u hj
 exact ⟨g, o, e1, Nat.lt_of_lt_of_le e2 k.size, e3, (k.cell (p := ⟨g, o + j, none⟩) e2 (hO g e3)).trans e4⟩
theorem RowO.below {v : Value} {n : Nat} {xs : List Value} (h : RowO O w v n xs) (k : Below w.heap.size w w') : RowO O w' v n xs :=
 h.kept (O' := fun _ => False) (Kept.of_below k) (fun _ _ h => h)
theorem RowO.mono {v : Value} {n : Nat} {xs : List Value} (h : RowO O w v n xs) (hO : ∀ g, O g → O' g) : RowO O' w v n xs := by
 obtain ⟨A, c, h1, h2, h3, h4⟩ := h
 refine ⟨A, c, h1, h2, h3, fun j u hj => ?_⟩
 obtain ⟨g, o, e1, e2, e3, e4⟩ := h4 j u hj
 exact ⟨g, o, e1, e2, hO g e3, e4⟩
theorem RowO.nil (O : Nat → Prop) (w : World) : RowO O w (.slice none 0 0) 0 [] := ⟨none, 0, rfl, Nat.le_refl _, fun _ => rfl, fun j u h => by simp at h⟩
theorem RowO.of_own {base size n : Nat} {e : TypeId} {v : Value} {xs : List Value} (h : w.ownsRow base e size v n xs) : RowO (fun g => base ≤ g) w v n xs := by
 rcases h.2 with ⟨rfl, rfl⟩ | ⟨g, cap, cur, rfl, hb, hg, hle, _⟩
 ·
  have h1 := h.1
  obtain rfl : xs = [] := List.eq_nil_of_length_eq_zero (by omega)
  exact RowO.nil _ w
 ·
  refine ⟨_, cap, rfl, hle, (fun h => by cases h), fun j u hj => ⟨g, 0, rfl, heap_lt hg, hb, ?_⟩⟩
  rw [Nat.zero_add]
  exact mx_at h hj
theorem IntsIn.of_rowO {v : Value} {n : Nat} {zs : List Value} {xs : List Int} (h : RowO O w v n zs) (hz : zs = xs.map (Value.int .i64)) (hn : n = xs.length) : IntsIn O w v xs := by
 subst hn
 subst hz
 obtain ⟨A, c, h1, h2, h3, h4⟩ := h
 refine ⟨A, c, h1, h2, h3, fun j x hj => ?_⟩
 obtain ⟨g, o, e1, e2, e3, e4⟩ := h4 j (.int .i64 x) (by rw [List.getElem?_map, hj]; rfl)
 exact ⟨g, o, e1, e2, e3, e4⟩
/-- the reference's trail -/
def RTO (O : Nat → Prop) (w : World) (v : Value) (t : RTr) : Prop := ∃ iv sv, v = .agg #[.int .i64 t.vars, .int .i64 t.now, iv, sv] ∧ RowO O w iv t.items.length (t.items.flatMap RIt.cells) ∧ IntsIn O w sv t.starts
theorem RTO.weak {v : Value} {t : RTr} (h : RTO O w v t) : RTAt w v t := by
 obtain ⟨iv, sv, h1, h2, h3⟩ := h
 exact ⟨iv, sv, h1, h2.weak, h3.mono (fun _ _ => trivial)⟩
theorem RTO.kept {v : Value} {t : RTr} (h : RTO O w v t) (k : Kept O' w w') (hO : ∀ g, O g → ¬ O' g) : RTO O w' v t := by
 obtain ⟨iv, sv, h1, h2, h3⟩ := h
 exact ⟨iv, sv, h1, h2.kept k hO, h3.kept k hO⟩
theorem RTO.below {v : Value} {t : RTr} (h : RTO O w v t) (k : Below w.heap.size w w') : RTO O w' v t :=
 h.kept (O' := fun _ => False) (Kept.of_below k) (fun _ _ h => h)
theorem RTO.mono {v : Value} {t : RTr} (h : RTO O w v t) (hO : ∀ g, O g → O' g) : RTO O' w v t := by
 obtain ⟨iv, sv, h1, h2, h3⟩ := h
 exact ⟨iv, sv, h1, h2.mono hO, h3.mono hO⟩
def EntO (O : Nat → Prop) (w : World) (v : Value) (l : List REn) : Prop := ∃ ms : List MEn, ms.map MEn.e = l ∧ RowO O w v l.length (ms.flatMap MEn.cells) ∧ ∀ m ∈ ms, IntsIn O w m.lv m.e.lits
/-- the reference's arena -/
def RAO (O : Nat → Prop) (w : World) (v : Value) (a : RAr) : Prop := ∃ av, v = .agg #[av, .int .i64 a.last] ∧ EntO O w av a.all
theorem EntO.weak {v : Value} {l : List REn} (h : EntO O w v l) : EntsIn w v l := by
 obtain ⟨ms, h1, h2, h3⟩ := h
 exact ⟨ms, h1, h2.weak, fun m hm => (h3 m hm).mono (fun _ _ => trivial)⟩
theorem EntO.kept {v : Value} {l : List REn} (h : EntO O w v l) (k : Kept O' w w') (hO : ∀ g, O g → ¬ O' g) : EntO O w' v l := by
 obtain ⟨ms, h1, h2, h3⟩ := h
 exact ⟨ms, h1, h2.kept k hO, fun m hm => (h3 m hm).kept k hO⟩
theorem EntO.below {v : Value} {l : List REn} (h : EntO O w v l) (k : Below w.heap.size w w') : EntO O w' v l :=
 h.kept (O' := fun _ => False) (Kept.of_below k) (fun _ _ h => h)
theorem EntO.mono {v : Value} {l : List REn} (h : EntO O w v l) (hO : ∀ g, O g → O' g) : EntO O' w v l := by
 obtain ⟨ms, h1, h2, h3⟩ := h
 exact ⟨ms, h1, h2.mono hO, fun m hm => (h3 m hm).mono hO⟩
theorem RAO.weak {v : Value} {a : RAr} (h : RAO O w v a) : RAAt w v a := by
 obtain ⟨av, h1, h2⟩ := h
 exact ⟨av, h1, h2.weak⟩
theorem RAO.kept {v : Value} {a : RAr} (h : RAO O w v a) (k : Kept O' w w') (hO : ∀ g, O g → ¬ O' g) : RAO O w' v a := by
 obtain ⟨av, h1, h2⟩ := h
 exact ⟨av, h1, h2.kept k hO⟩
theorem RAO.below {v : Value} {a : RAr} (h : RAO O w v a) (k : Below w.heap.size w w') : RAO O w' v a :=
 h.kept (O' := fun _ => False) (Kept.of_below k) (fun _ _ h => h)
theorem RAO.mono {v : Value} {a : RAr} (h : RAO O w v a) (hO : ∀ g, O g → O' g) : RAO O' w v a := by
 obtain ⟨av, h1, h2⟩ := h
 exact ⟨av, h1, h2.mono hO⟩
end Go.Proofs.YtiodfolcnnkdjaaGreat
namespace Go.Proofs.YtiodfolcnnkdjaaGreat
open Go.RowKit

theorem rP_var {its : List RIt} {v : Int} {p : Nat} {x : RIt} (h : rP its v = p) (hx : its[p]? = some x) : 0 < v ∧ (litV x.lit : Int) = v := by
 have key : ∀ (l : List RIt) (i j : Nat), rPl l v i = (i + j : Nat) → ∀ x, l[j]? = some x → 0 < v ∧ (litV x.lit : Int) = v := by
  intro l
  induction l with
  | nil => intro i j _ x hx; simp at hx
  | cons y l ih =>
   intro i j hj x hx
   unfold rPl at hj
   split at hj
   ·
    rename_i hc
    obtain rfl : j = 0 := by omega
    obtain rfl : y = x := by simpa using hx
    exact hc
   ·
    cases j with
    | zero =>
     have := rPl_ge l v (i + 1)
     omega
    | succ j => exact ih (i + 1) j (by rw [hj]; congr 1; omega) x (by simpa using hx)
 exact key its 0 p (by rw [Nat.zero_add]; exact h) x hx
theorem litV_lit {l : Int} (h : 0 < litV l) : -1048576 ≤ l ∧ l ≤ 1048576 := by
 unfold litV at h
 split at h
 ·
  rename_i hb
  have := (litB_iff l).1 hb
  omega
 ·
  omega
def rRight (all : List REn) (its : List RIt) (v : Int) : Bool := if rP its v < 0 then false else match its[(rP its v).toNat]? with
 | some x => (rReason all its (-x.lit)).isSome
 | none => false
set_option maxRecDepth 100000 in
set_option maxHeartbeats 2000000 in
theorem ref_right14 (v : Int) (a : RAr) (t : RTr) (av tv : Value) (w : World) (ha : RAAt w av a) (h : RTAt w tv t) (hao : a.Ok) (ho : t.Ok) :
  Calls Tryz.prog 93 #[av, tv, .int .i64 v] w fun e w' => e = .returned (.bool (rRight a.all t.items v)) ∧ Below w.heap.size w w' := by
 have hlen := ho.len
 have HOK := Lib.hid ho
 have HAO := Lib.hid hao
 obtain ⟨res, hres⟩ : ∃ r, rRight a.all t.items v = r := ⟨_, rfl⟩
 rw [hres]
 obtain ⟨p, hp⟩ : ∃ p, rP t.items v = p := ⟨_, rfl⟩
 have HP := Lib.hid (fun (w : World) tv (h : RTAt w tv t) => hp ▸ ref_place v t tv w h ho)
 have hpl := rP_lt t.items v
 rw [hp] at hpl
 obtain ⟨ev, rfl, he⟩ := ha
 obtain ⟨iv, sv, rfl, hi, hs⟩ := h
 obtain ⟨wa, hwa, hba, hb0, hb1⟩ := rbox2 w #[ev, .int .i64 a.last] #[.int .i64 t.vars, .int .i64 t.now, iv, sv] 56 59
 have HE := Lib.hid (he.below hba)
 have HI := Lib.hid (hi.below hba)
 have HT := Lib.hid (show RTAt wa (.agg #[.int .i64 t.vars, .int .i64 t.now, iv, sv]) t from ⟨iv, sv, rfl, hi.below hba, hs.below hba⟩)
 have HA := Lib.hid (show RAAt wa (.agg #[ev, .int .i64 a.last]) a from ⟨ev, rfl, he.below hba⟩)
 have HBA := Lib.hid hba
 have HWA := Lib.hid hwa
 have hz0 := heap_lt hb0
 have hz1 := heap_lt hb1
 have A0 := Lib.hid (mx_cell (j := 0) hb0)
 have A1 := Lib.hid (mx_cell (j := 1) hb0)
 have B0 := Lib.hid (mx_cell (j := 0) hb1)
 have B1 := Lib.hid (mx_cell (j := 1) hb1)
 have B2 := Lib.hid (mx_cell (j := 2) hb1)
 have B3 := Lib.hid (mx_cell (j := 3) hb1)
 clear hwa hba hb0 hb1 hs
 by_cases hp0 : p < 0
 ·
  have HN := Lib.hid (show res = false from by rw [← hres]; exact if_pos (by rw [hp]; exact hp0))
  have q0 : decide (p < 0) = true := by simpa using hp0
  clear hres hp0 hp hpl hi
  go_enter Tryz.func93, Tryz.ntmps93
  go_upto_region 1 with fail
  rw [HWA.out]
  have b0 := ((Below.refl wa.heap.size wa).cell (p := ⟨w.heap.size + 1, 0, none⟩) hz1).trans B0.out
  have b1 := ((Below.refl wa.heap.size wa).cell (p := ⟨w.heap.size + 1, 1, none⟩) hz1).trans B1.out
  have b2 := ((Below.refl wa.heap.size wa).cell (p := ⟨w.heap.size + 1, 2, none⟩) hz1).trans B2.out
  have b3 := ((Below.refl wa.heap.size wa).cell (p := ⟨w.heap.size + 1, 3, none⟩) hz1).trans B3.out
  go_wp2_with fail
  refine (HP.out _ _ HT.out).mono ?_
  rintro e w2 ⟨rfl, hb⟩
  have HB2 := Lib.hid hb
  clear hb
  go_wp2_with fail
  go_ret
  exact ⟨by rw [HN.out]; rfl, HBA.out.trans (HB2.out.mono HBA.out.size)⟩
 ·
  have q0 : decide (p < 0) = false := by simpa using hp0
  obtain ⟨p, rfl⟩ : ∃ q : Nat, p = q := ⟨_, (Int.toNat_of_nonneg (by omega)).symm⟩
  have hplt : p < t.items.length := by omega
  obtain ⟨x, hx⟩ := getElem_of hplt
  obtain ⟨hv0, hvx⟩ := rP_var hp hx
  have hxr := litV_lit (l := x.lit) (by omega)
  have hn : rP t.items (litV (-x.lit) : Nat) = p := by rw [litV_negate, hvx, hp]
  have HN := Lib.hid (show res = (rReason a.all t.items (-x.lit)).isSome from by rw [← hres]; unfold rRight; rw [hp, if_neg hp0, Int.toNat_natCast, hx])
  have w1 : IntKind.i64.wrap (-x.lit) = -x.lit := IntWalk.i64_in _ (by omega)
  have HRE := Lib.hid (fun (w : World) av tv (ha : RAAt w av a) (h : RTAt w tv t) => ref_reason (-x.lit) a t av tv w ha h HAO.out HOK.out (by omega) (by omega) (by rw [hn]; omega))
  obtain ⟨g, o, c, rfl, hlc, hg, d0, d1, d2⟩ := HI.out.item hx
  have D0 := Lib.hid d0
  have hpc : p < c := by omega
  obtain ⟨xl, hxl⟩ : ∃ z, x.lit = z := ⟨_, rfl⟩
  rw [hxl] at HN w1 HRE D0
  clear hres hp0 hp hpl hi d0 d1 d2 hx hn hvx hv0 hxr hxl
  go_enter Tryz.func93, Tryz.ntmps93
  go_upto_region 1 with fail
  rw [HWA.out]
  have b0 := ((Below.refl wa.heap.size wa).cell (p := ⟨w.heap.size + 1, 0, none⟩) hz1).trans B0.out
  have b1 := ((Below.refl wa.heap.size wa).cell (p := ⟨w.heap.size + 1, 1, none⟩) hz1).trans B1.out
  have b2 := ((Below.refl wa.heap.size wa).cell (p := ⟨w.heap.size + 1, 2, none⟩) hz1).trans B2.out
  have b3 := ((Below.refl wa.heap.size wa).cell (p := ⟨w.heap.size + 1, 3, none⟩) hz1).trans B3.out
  go_wp2_with fail
  refine (HP.out _ _ HT.out).mono ?_
  rintro e w2 ⟨rfl, hb⟩
  have HB2 := Lib.hid hb
  have HT2 := Lib.hid (HT.out.below hb)
  have HA2 := Lib.hid (HA.out.below hb)
  clear hb b0 b1 b2 b3
  have a0 := (HB2.out.cell (p := ⟨w.heap.size, 0, none⟩) hz0).trans A0.out
  have a1 := (HB2.out.cell (p := ⟨w.heap.size, 1, none⟩) hz0).trans A1.out
  have b0 := (HB2.out.cell (p := ⟨w.heap.size + 1, 0, none⟩) hz1).trans B0.out
  have b1 := (HB2.out.cell (p := ⟨w.heap.size + 1, 1, none⟩) hz1).trans B1.out
  have b2 := (HB2.out.cell (p := ⟨w.heap.size + 1, 2, none⟩) hz1).trans B2.out
  have b3 := (HB2.out.cell (p := ⟨w.heap.size + 1, 3, none⟩) hz1).trans B3.out
  have hz20 := Nat.lt_of_lt_of_le hz0 HB2.out.size
  have hz21 := Nat.lt_of_lt_of_le hz1 HB2.out.size
  have hg2 := Nat.lt_of_lt_of_le hg HB2.out.size
  have PA0 := Lib.hid a0
  have PA1 := Lib.hid a1
  have PB0 := Lib.hid b0
  have PB1 := Lib.hid b1
  have PB2 := Lib.hid b2
  have PB3 := Lib.hid b3
  have PD := Lib.hid ((HB2.out.cell (p := ⟨g, o + p * 3, none⟩) hg).trans D0.out)
  clear a0 a1 b0 b1 b2 b3
  go_upto_region 4 with fail
  refine wp_region_held_drew (S := fun w' => Below w2.heap.size w2 w') (by kernel_rfl) (mx_drew w2) (fun hS => ?_)
  refine takeF 0 17 (fun wq hSw => And.intro ((hSw.cell (p := ⟨w.heap.size, 0, none⟩) hz20).trans PA0.out) ((hSw.cell (p := ⟨w.heap.size, 1, none⟩) hz20).trans PA1.out)) ?_
  refine takeF 1 18 (fun wq hSw => And.intro ((hSw.cell (p := ⟨w.heap.size + 1, 0, none⟩) hz21).trans PB0.out) (And.intro ((hSw.cell (p := ⟨w.heap.size + 1, 1, none⟩) hz21).trans PB1.out) (And.intro ((hSw.cell (p := ⟨w.heap.size + 1, 2, none⟩) hz21).trans PB2.out) ((hSw.cell (p := ⟨w.heap.size + 1, 3, none⟩) hz21).trans PB3.out)))) ?_
  refine takeE 2 19 ?_
  refine takeF 3 20 (fun wq hSw => (hSw.cell (p := ⟨w.heap.size + 1, 2, none⟩) hz21).trans PB2.out) ?_
  refine takeE 4 21 ?_
  refine takeE 5 22 ?_
  refine takeE 6 23 ?_
  refine takeF 7 24 (fun wq hSw => (hSw.cell (p := ⟨g, o + p * 3, none⟩) hg2).trans PD.out) ?_
  refine takeE 8 25 ?_
  refine ready1 9 (fun K hK => ?_)
  go_simp
  refine (HRE.out _ _ _ (HA2.out.below hS) (HT2.out.below hS)).mono ?_
  rintro e w3 ⟨hor, hbN⟩
  have hSN := hS.trans (hbN.mono hS.size)
  have HLAST := Lib.hid (HBA.out.trans ((HB2.out.trans (hSN.mono HB2.out.size)).mono HBA.out.size))
  clear hbN
  rcases hor with ⟨v', r, id, hr, rfl, hown, _⟩ | ⟨hr, rfl⟩
  ·
   have HR := Lib.hid (show res = true from by rw [HN.out, hr]; rfl)
   clear hr hown
   refine hK.out _ _ hSN (fun _ => ?_)
   clear hK hS
   have hS := hSN
   refine takeE 10 16 ?_
   refine takeE 11 27 ?_
   refine takeE 12 28 ?_
   refine takeE 13 29 ?_
   refine takeE 14 8 ?_
   refine takeE 15 9 ?_
   refine takeE 16 10 ?_
   refine wpAnyH_done (by kernel_rfl) ?_ _
   go_wp2_with fail
   go_ret
   exact ⟨by rw [HR.out]; rfl, HLAST.out⟩
  ·
   have HR := Lib.hid (show res = false from by rw [HN.out, hr]; rfl)
   clear hr
   refine hK.out _ _ hSN (fun _ => ?_)
   clear hK hS
   have hS := hSN
   refine takeE 10 16 ?_
   refine takeE 11 27 ?_
   refine takeE 12 28 ?_
   refine takeE 13 29 ?_
   refine takeE 14 8 ?_
   refine takeE 15 9 ?_
   refine takeE 16 10 ?_
   refine wpAnyH_done (by kernel_rfl) ?_ _
   go_wp2_with fail
   go_ret
   exact ⟨by rw [HR.out]; rfl, HLAST.out⟩
/-- the literals of a clause that fails, each once -/
def rFails (its : List RIt) : List Int → List Int → Option (List Int)
 | acc, [] => some acc
 | acc, x :: c => if 0 ≤ rVl its x then none else rFails its (if acc.contains x = true then acc else acc ++ [x]) c
theorem rFails_len (its : List RIt) (acc c r : List Int) (h : rFails its acc c = some r) : r.length ≤ acc.length + c.length := by
 induction c generalizing acc with
 | nil =>
  obtain rfl := Option.some.inj h
  exact Nat.le_add_right _ _
 | cons x c ih =>
  unfold rFails at h
  simp only [List.length_cons]
  split at h
  ·
   cases h
  ·
   have := ih _ h
   split at this
   ·
    omega
   ·
    simp only [List.length_append, List.length_cons, List.length_nil] at this
    omega
/-- what fails returns: literals, or the number of the error -/
def rFailsAt (all : List REn) (its : List RIt) (id : Int) : List Int × Int :=
 if rFind all id < 0 then ([], 30) else match all[(rFind all id).toNat]? with
 | some e => match rFails its [] e.lits with
  | some l => (l, 0)
  | none => ([], 140)
 | none => ([], 30)
set_option maxRecDepth 100000 in
set_option maxHeartbeats 4000000 in
theorem ref_fails14 (id : Int) (a : RAr) (t : RTr) (av tv : Value) (w : World) (ha : RAAt w av a) (h : RTAt w tv t) (hao : a.Ok) (ho : t.Ok) :
  Calls Tryz.prog 94 #[av, tv, .int .i64 id] w fun e w' => (∃ v, e = .returned (.tuple #[v, .int .i64 (rFailsAt a.all t.items id).2]) ∧ w'.ownsRow w.heap.size 3 1 v (rFailsAt a.all t.items id).1.length ((rFailsAt a.all t.items id).1.map (Value.int .i64)) ∧ (rFailsAt a.all t.items id).1.length ≤ 4096) ∧ Below w.heap.size w w' := by
 obtain ⟨i0, hi0, hi1, hi2, hi3⟩ := info_parts tinfo_int
 have hlen := ho.len
 have hlena := hao.len
 have HOK := Lib.hid ho
 obtain ⟨res, hres⟩ : ∃ r, rFailsAt a.all t.items id = r := ⟨_, rfl⟩
 rw [hres]
 have HF := Lib.hid (fun (w : World) av (h : RAAt w av a) => ref_find id a av w h hlena)
 obtain ⟨fi, hfi⟩ : ∃ f, rFind a.all id = f := ⟨_, rfl⟩
 have hflt := rFind_lt a.all id
 unfold rFailsAt at hres
 rw [hfi] at HF hres hflt
 have HRS := Lib.hid hres
 clear hres hfi
 obtain ⟨ev, rfl, he⟩ := ha
 obtain ⟨iv, sv, rfl, hi, hs⟩ := h
 obtain ⟨wa, hwa, hba, hb0, hb1⟩ := rbox2 w #[ev, .int .i64 a.last] #[.int .i64 t.vars, .int .i64 t.now, iv, sv] 56 59
 have HE := Lib.hid (he.below hba)
 have HI := Lib.hid (hi.below hba)
 have HT := Lib.hid (show RTAt wa (.agg #[.int .i64 t.vars, .int .i64 t.now, iv, sv]) t from ⟨iv, sv, rfl, hi.below hba, hs.below hba⟩)
 have HA := Lib.hid (show RAAt wa (.agg #[ev, .int .i64 a.last]) a from ⟨ev, rfl, he.below hba⟩)
 have HBA := Lib.hid hba
 have HWA := Lib.hid hwa
 have hz0 := heap_lt hb0
 have hz1 := heap_lt hb1
 have A0 := Lib.hid (mx_cell (j := 0) hb0)
 have A1 := Lib.hid (mx_cell (j := 1) hb0)
 have B0 := Lib.hid (mx_cell (j := 0) hb1)
 have B1 := Lib.hid (mx_cell (j := 1) hb1)
 have B2 := Lib.hid (mx_cell (j := 2) hb1)
 have B3 := Lib.hid (mx_cell (j := 3) hb1)
 clear hwa hba hb0 hb1 hs
 clear hi
 go_enter Tryz.func94, Tryz.ntmps94
 go_upto_region 1 with fail
 rw [HWA.out]
 have a0 := ((Below.refl wa.heap.size wa).cell (p := ⟨w.heap.size, 0, none⟩) hz0).trans A0.out
 have a1 := ((Below.refl wa.heap.size wa).cell (p := ⟨w.heap.size, 1, none⟩) hz0).trans A1.out
 go_wp2_with fail
 refine (HF.out _ _ HA.out).mono ?_
 rintro e w2 ⟨rfl, hb⟩
 have HB2 := Lib.hid hb
 clear hb a0 a1
 by_cases hf0 : fi < 0
 ·
  have q0 : decide (fi < 0) = true := by simpa using hf0
  have HN := Lib.hid (show res = ([], 30) from by rw [← HRS.out]; exact if_pos hf0)
  clear hf0 hflt
  go_wp2_with fail
  go_ret2
  exact ⟨⟨_, by rw [HN.out]; rfl, by rw [HN.out]; exact World.ownsRow_nil _ _ _ _, by rw [HN.out]; exact Nat.zero_le _⟩, HBA.out.trans (HB2.out.mono HBA.out.size)⟩
 ·
  have q0 : decide (fi < 0) = false := by simpa using hf0
  obtain ⟨f, rfl⟩ : ∃ f : Nat, fi = f := ⟨_, (Int.toNat_of_nonneg (by omega)).symm⟩
  have hfl : f < a.all.length := by omega
  obtain ⟨en, hen⟩ := getElem_of hfl
  have hrs := HRS.out
  rw [if_neg hf0, Int.toNat_natCast, hen] at hrs
  simp only at hrs
  obtain ⟨g2, o2, c2, u, rfl, hlc2, hg2, e0, e1, hu⟩ := HE.out.at_ hen
  have HU := Lib.hid hu
  have E1 := Lib.hid e1
  have hul : en.lits.length ≤ 4096 := hao.lits en (List.mem_of_getElem? hen)
  have hfc : f < c2 := by omega
  obtain ⟨Au, cu, rfl, _⟩ := hu
  have HRR := Lib.hid hrs
  clear hf0 hflt hen hrs e0 e1 HRS hao
  go_wp2_with fail
  go_loopw [9, 10] (fun v i wr => ∃ (k : Nat) (acc : List Int), k ≤ en.lits.length ∧ acc.length ≤ k ∧ i = .int .i64 k ∧ Hid (rFails t.items [] en.lits = rFails t.items acc (en.lits.drop k)) ∧ Hid (wr.ownsRow wa.heap.size 3 1 v acc.length (acc.map (Value.int .i64))) ∧ Hid (Below wa.heap.size wa wr)) (fun _ i _ => en.lits.length - (intOf i).toNat)
  case atStart => exact ⟨0, [], Nat.zero_le _, Nat.le_refl _, rfl, Lib.hid rfl, Lib.hid (World.ownsRow_nil _ _ _ _), HB2⟩
  case round =>
   obtain ⟨k, acc, hk, hka, rfl, HR, HV, HW⟩ := hrel
   have hzw := HW.out.size
   obtain ⟨Av, cv, rfl, _⟩ := mx_slice HV.out
   have a0 := (HW.out.cell (p := ⟨w.heap.size, 0, none⟩) hz0).trans A0.out
   have a1 := (HW.out.cell (p := ⟨w.heap.size, 1, none⟩) hz0).trans A1.out
   have b0 := (HW.out.cell (p := ⟨w.heap.size + 1, 0, none⟩) hz1).trans B0.out
   have b1 := (HW.out.cell (p := ⟨w.heap.size + 1, 1, none⟩) hz1).trans B1.out
   have b2 := (HW.out.cell (p := ⟨w.heap.size + 1, 2, none⟩) hz1).trans B2.out
   have b3 := (HW.out.cell (p := ⟨w.heap.size + 1, 3, none⟩) hz1).trans B3.out
   have e1 := (HW.out.cell (p := ⟨g2, o2 + f * 2 + 1, none⟩) hg2).trans E1.out
   by_cases hlt : k < en.lits.length
   ·
    obtain ⟨x, hx⟩ := getElem_of hlt
    obtain ⟨A3, c3, hA3, _, _, hxs⟩ := HU.out.below HW.out
    simp only [Value.slice.injEq, true_and] at hA3
    obtain ⟨rfl, rfl⟩ := hA3
    obtain ⟨g3, o3, rfl, hg3, _, f0⟩ := hxs k x hx
    have hdr := drop_at hx
    clear hx hxs
    have HVL := Lib.hid (ref_value x t _ wr (HT.out.below HW.out) HOK.out)
    by_cases hv0 : 0 ≤ rVl t.items x
    ·
     have q2 : decide (0 ≤ rVl t.items x) = true := by simpa using hv0
     have HN := Lib.hid (show res = ([], 140) from by
      rw [← HRR.out, HR.out, hdr]
      have e : rFails t.items acc (x :: en.lits.drop (k + 1)) = none := if_pos hv0
      rw [e])
     clear hdr hv0
     go_wp2_with fail
     refine HVL.out.mono ?_
     rintro e w4 ⟨rfl, hb⟩
     have HB4 := Lib.hid (HW.out.trans (hb.mono hzw))
     clear hb
     go_wp2_with fail
     go_ret2
     exact ⟨⟨_, by rw [HN.out]; rfl, by rw [HN.out]; exact World.ownsRow_nil _ _ _ _, by rw [HN.out]; exact Nat.zero_le _⟩, HBA.out.trans (HB4.out.mono HBA.out.size)⟩
    ·
     have q2 : decide (0 ≤ rVl t.items x) = false := by simpa using hv0
     have HNX := Lib.hid (show rFails t.items [] en.lits = rFails t.items (if acc.contains x = true then acc else acc ++ [x]) (en.lits.drop (k + 1)) from by rw [HR.out, hdr]; exact if_neg hv0)
     clear hdr hv0
     go_wp2_with fail
     refine HVL.out.mono ?_
     rintro e w4 ⟨rfl, hb⟩
     have HB4 := Lib.hid (HW.out.trans (hb.mono hzw))
     have HV4 := Lib.hid (own_below HV.out hb)
     clear hb HVL a0 a1 b0 b1 b2 b3 e1 f0
     have HH := ref_has14 x (.slice Av acc.length cv) acc w4 (IntsIn.of_own HV4.out) (by omega)
     obtain ⟨bb, hbb⟩ : ∃ b, acc.contains x = b := ⟨_, rfl⟩
     rw [hbb] at HH HNX
     have HH := Lib.hid HH
     clear hbb
     go_wp2_with fail
     refine HH.out.mono ?_
     rintro e w' ⟨rfl, rfl⟩
     cases bb with
     | true =>
      clear HH
      go_wp2_with fail
      go_roundw
      case rel => exact ⟨k + 1, acc, by omega, by omega, by go_num, Lib.hid (HNX.out.trans (by simp)), HV4, HB4⟩
      case measure => simp [intOf]; omega
     | false =>
      clear HH
      have hz4 := HB4.out.size
      go_wp2_with (at_builtin; refine wpList_append_own_at _ rfl _ _ 36 rfl wa.heap.size 3 i0 (.int .i64 0) 1 8 Tryz.underlying36 hi0 hi1 hi2 hi3 rfl (by decide) _ acc.length _ rfl (own_below HV4.out (mx_al w4 _)) ⟨w4.heap.size, 0, none⟩ 1 1 [.int .i64 x] rfl rfl (cell_one _ _ _) (by simp [Value.oneCell']) (by unfold maxLen; omega) (by omega) (by simp; omega) ?_; intro v' w9 hown hgrow hnl hat; obtain ⟨Aw, kw, hv2, _⟩ := mx_slice hown; subst hv2; have HOWN := Lib.hid hown; have HG := Lib.hid hgrow; clear hown hgrow hnl hat)
      have hw9 : Below wa.heap.size wa w9 := (HB4.out.trans ((mx_al w4 (.cells #[.int .i64 x] 3)).mono hz4)).grown HG.out (by simp; omega) (fun g hg => (own_lt HV4.out g hg).1)
      go_roundw
      case rel => exact ⟨k + 1, acc ++ [x], by omega, by simp; omega, by go_num, Lib.hid (HNX.out.trans (by simp)), Lib.hid (by rw [List.length_append, List.map_append]; exact HOWN.out), Lib.hid hw9⟩
      case measure => simp [intOf]; omega
   ·
    obtain rfl : k = en.lits.length := by omega
    have hR := HR.out
    rw [List.drop_length] at hR
    have HN := Lib.hid (show res = (acc, 0) from by rw [← HRR.out, hR]; rfl)
    clear hR
    go_wp2_with fail
    go_ret2
    exact ⟨⟨_, by rw [HN.out]; rfl, by rw [HN.out]; exact own_mono HV.out HBA.out.size, by rw [HN.out]; exact Nat.le_trans hka hul⟩, HBA.out.trans (HW.out.mono HBA.out.size)⟩
def rGr (its : List RIt) : Int → List Int → Int
 | m, [] => m
 | m, x :: c => rGr its (max m (rL its x)) c
set_option maxRecDepth 100000 in
set_option maxHeartbeats 2000000 in
theorem ref_greatest {O : Nat → Prop} (u : Value) (l : List Int) (t : RTr) (tv : Value) (w : World) (h : RTAt w tv t) (ho : t.Ok) (hu : IntsIn O w u l) (hl : l.length ≤ 1000000) (hp : ∀ x ∈ l, 0 ≤ rP t.items (litV x : Nat)) :
  Calls Tryz.prog 95 #[tv, u] w fun e w' => e = .returned (.int .i64 (rGr t.items 0 l)) ∧ Below w.heap.size w w' := by
 have hlen := ho.len
 have HOK := Lib.hid ho
 have HPX := Lib.hid hp
 have HU0 := Lib.hid hu
 obtain ⟨Au, cu, rfl, _⟩ := hu
 clear hp
 obtain ⟨iv, sv, rfl, hi, hs⟩ := h
 obtain ⟨wa, hwa⟩ : ∃ z, w.alloc (.cells #[.int .i64 t.vars, .int .i64 t.now, iv, sv] 59) = z := ⟨_, rfl⟩
 have hba : Below w.heap.size w wa := by rw [← hwa]; exact mx_al _ _
 have hbn : wa.heap[w.heap.size]? = some (.cells #[.int .i64 t.vars, .int .i64 t.now, iv, sv] 59 (0, 0)) := by rw [← hwa]; exact World.alloc_heap_new _ _
 have HI := Lib.hid (hi.below hba)
 have HS := Lib.hid (hs.below hba)
 have HBA := Lib.hid hba
 have HBN := Lib.hid hbn
 have HWA := Lib.hid hwa
 have C0 := Lib.hid (mx_cell (j := 0) hbn)
 have C1 := Lib.hid (mx_cell (j := 1) hbn)
 have C2 := Lib.hid (mx_cell (j := 2) hbn)
 have C3 := Lib.hid (mx_cell (j := 3) hbn)
 have hzw := heap_lt hbn
 have HT := Lib.hid (show RTAt wa (.agg #[.int .i64 t.vars, .int .i64 t.now, iv, sv]) t from ⟨iv, sv, rfl, HI.out, HS.out⟩)
 have HU := Lib.hid (HU0.out.below hba)
 clear hba hbn hs hwa hi
 go_enter Tryz.func95, Tryz.ntmps95
 go_wp2_with fail
 rw [HWA.out]
 go_loopw [5, 6] (fun m i wr => ∃ (k : Nat) (x : Int), k ≤ l.length ∧ i = .int .i64 k ∧ m = .int .i64 x ∧ Hid (rGr t.items 0 l = rGr t.items x (l.drop k)) ∧ Hid (Below wa.heap.size wa wr)) (fun _ i _ => l.length - (intOf i).toNat)
 case atStart => exact ⟨0, 0, Nat.zero_le _, rfl, rfl, Lib.hid rfl, Lib.hid (Below.refl _ _)⟩
 case round =>
  obtain ⟨k, m, hk, rfl, rfl, HE, HW⟩ := hrel
  by_cases hlt : k < l.length
  ·
   obtain ⟨x, hx⟩ := getElem_of hlt
   obtain ⟨A3, c3, hA3, hlc3, _, hxs⟩ := HU.out.below HW.out
   simp only [Value.slice.injEq, true_and] at hA3
   obtain ⟨rfl, rfl⟩ := hA3
   obtain ⟨g3, o3, rfl, hg3, _, f0⟩ := hxs k x hx
   have F0 := Lib.hid f0
   have hkc : k < cu := by omega
   have HN := Lib.hid (show rGr t.items 0 l = rGr t.items (max m (rL t.items x)) (l.drop (k + 1)) from by rw [HE.out, drop_at hx]; rfl)
   have HTW := Lib.hid (HT.out.below HW.out)
   have HLV := Lib.hid (fun (w : World) tv (h : RTAt w tv t) => ref_level14 x t tv w h HOK.out (HPX.out x (List.mem_of_getElem? hx)))
   have hzr := Nat.lt_of_lt_of_le hzw HW.out.size
   have R0 := Lib.hid ((HW.out.cell (p := ⟨w.heap.size, 0, none⟩) hzw).trans C0.out)
   have R1 := Lib.hid ((HW.out.cell (p := ⟨w.heap.size, 1, none⟩) hzw).trans C1.out)
   have R2 := Lib.hid ((HW.out.cell (p := ⟨w.heap.size, 2, none⟩) hzw).trans C2.out)
   have R3 := Lib.hid ((HW.out.cell (p := ⟨w.heap.size, 3, none⟩) hzw).trans C3.out)
   clear hx hxs f0
   go_upto_region 5 with fail
   refine wp_region_held_drew (S := fun w' => Below wr.heap.size wr w') (by kernel_rfl) (mx_drew wr) (fun hS => ?_)
   refine takeE 0 13 ?_
   refine takeF 1 14 (fun wq hSw => And.intro ((hSw.cell (p := ⟨w.heap.size, 0, none⟩) hzr).trans R0.out) (And.intro ((hSw.cell (p := ⟨w.heap.size, 1, none⟩) hzr).trans R1.out) (And.intro ((hSw.cell (p := ⟨w.heap.size, 2, none⟩) hzr).trans R2.out) ((hSw.cell (p := ⟨w.heap.size, 3, none⟩) hzr).trans R3.out)))) ?_
   refine takeE 2 15 ?_
   refine takeE 3 16 ?_
   refine takeE 4 17 ?_
   refine takeF 5 18 (fun wq hSw => (hSw.cell (p := ⟨g3, o3 + k, none⟩) hg3).trans F0.out) ?_
   refine ready1 6 (fun K hK => ?_)
   go_simp
   refine (HLV.out _ _ (HTW.out.below hS)).mono ?_
   rintro e w2 ⟨rfl, hbN⟩
   have hSN := hS.trans (hbN.mono hS.size)
   refine hK.out _ _ hSN (fun _ => ?_)
   clear hK hbN hS
   have hS := hSN
   clear hSN
   refine takeE 7 20 ?_
   refine takeE 8 5 ?_
   refine wpAnyH_done (by kernel_rfl) ?_ _
   have HB2 := Lib.hid (HW.out.trans (hS.mono HW.out.size))
   clear hS
   go_wp2_with fail
   go_roundw
   case rel => exact ⟨k + 1, _, by omega, by go_num, rfl, Lib.hid (HN.out.trans (by congr 1; split <;> omega)), HB2⟩
   case measure => simp [intOf]; omega
  ·
   obtain rfl : k = l.length := by omega
   have hE := HE.out
   rw [List.drop_length] at hE
   have HN := Lib.hid (show rGr t.items 0 l = m from hE)
   clear hE
   go_wp2_with fail
   go_ret
   exact ⟨by rw [HN.out]; rfl, HBA.out.trans (HW.out.mono HBA.out.size)⟩
end Go.Proofs.YtiodfolcnnkdjaaGreat
