/- The references of layers 3, 4 and 14: what they compute; their states in memory. -/
import Derived.Test.YtfbiaclpopjipaaGreatMj
import Derived.Test.YtfbiaclpopjipaaGreatRa
import Derived.Test.YtfbiaclpopjipaaGreatTc
namespace Go.Proofs.YtfbiaclpopjipaaGreat
open Go.RowKit

/-- what was assigned -/
structure RIt where
  lit : Int
  reason : Int
  level : Int
def RIt.cells (x : RIt) : List Value := [.int .i64 x.lit, .int .i64 x.reason, .int .i64 x.level]
structure RTr where
  vars : Int
  now : Int
  items : List RIt
  starts : List Int
structure REn where
  id : Int
  lits : List Int
structure RAr where
  all : List REn
  last : Int
/-- the first place of a variable, from one on -/
def rPl : List RIt → Int → Nat → Int
  | [], _, _ => -1
  | x :: l, v, i => if 0 < v ∧ (litV x.lit : Int) = v then i else rPl l v (i + 1)
def rP (l : List RIt) (v : Int) : Int := rPl l v 0
def rVl : List RIt → Int → Int
  | [], _ => 0
  | x :: l, y => if litB y = true ∧ x.lit = y then 1 else if litB y = true ∧ x.lit = -y then -1 else rVl l y
def rL (l : List RIt) (y : Int) : Int := match l[(rP l (litV y)).toNat]? with
  | some x => x.level
  | none => 0
def rFd : List REn → Int → Nat → Int
  | [], _, _ => -1
  | x :: l, id, i => if x.id = id then i else rFd l id (i + 1)
def rFind (l : List REn) (id : Int) : Int := rFd l id 0
theorem rPl_ge (l : List RIt) (v : Int) (i : Nat) : rPl l v i = -1 ∨ (i : Int) ≤ rPl l v i ∧ rPl l v i < i + l.length := by
  induction l generalizing i with
  | nil => exact .inl rfl
  | cons x l ih =>
    unfold rPl
    split
    · right
      simp only [List.length_cons]
      omega
    · have := ih (i + 1)
      simp only [List.length_cons]
      omega
theorem rP_lt (l : List RIt) (v : Int) : rP l v = -1 ∨ 0 ≤ rP l v ∧ rP l v < l.length := by
  have := rPl_ge l v 0
  unfold rP
  omega
theorem rFd_ge (l : List REn) (v : Int) (i : Nat) : rFd l v i = -1 ∨ (i : Int) ≤ rFd l v i ∧ rFd l v i < i + l.length := by
  induction l generalizing i with
  | nil => exact .inl rfl
  | cons x l ih =>
    unfold rFd
    split
    · right
      simp only [List.length_cons]
      omega
    · have := ih (i + 1)
      simp only [List.length_cons]
      omega
theorem rFind_lt (l : List REn) (v : Int) : rFind l v = -1 ∨ 0 ≤ rFind l v ∧ rFind l v < l.length := by
  have := rFd_ge l v 0
  unfold rFind
  omega
/-- a slice whose cells read so -/
def RowIn (w : World) (v : Value) (n : Nat) (xs : List Value) : Prop :=
  ∃ A c, v = .slice A n c ∧ n ≤ c ∧ (A = none → c = 0) ∧ ∀ j u, xs[j]? = some u → ∃ g o, A = some ⟨g, o, none⟩ ∧ g < w.heap.size ∧ w.cell? ⟨g, o + j, none⟩ = some u
theorem RowIn.below {w w' : World} {v : Value} {n : Nat} {xs : List Value} (h : RowIn w v n xs) (k : Below w.heap.size w w') : RowIn w' v n xs := by
  obtain ⟨A, c, h1, h2, h3, h4⟩ := h
  refine ⟨A, c, h1, h2, h3, fun j u hj => ?_⟩
  obtain ⟨g, o, e1, e2, e3⟩ := h4 j u hj
  exact ⟨g, o, e1, Nat.lt_of_lt_of_le e2 k.size, (k.cell (p := ⟨g, o + j, none⟩) e2).trans e3⟩
theorem RowIn.nil (w : World) : RowIn w (.slice none 0 0) 0 [] := ⟨none, 0, rfl, Nat.le_refl _, fun _ => rfl, fun j u h => by simp at h⟩
theorem RowIn.of_own {w : World} {base size n : Nat} {e : TypeId} {v : Value} {xs : List Value} (h : w.ownsRow base e size v n xs) : RowIn w v n xs := by
  rcases h.2 with ⟨rfl, rfl⟩ | ⟨g, cap, cur, rfl, hb, hg, hle, _⟩
  · have h1 := h.1
    obtain rfl : xs = [] := List.eq_nil_of_length_eq_zero (by omega)
    exact RowIn.nil w
  · refine ⟨_, cap, rfl, hle, (fun h => by cases h), fun j u hj => ⟨g, 0, rfl, heap_lt hg, ?_⟩⟩
    rw [Nat.zero_add]
    exact mx_at h hj
theorem RowIn.src {w : World} {v : Value} {n : Nat} {xs : List Value} (h : RowIn w v n xs) (hx : n = 0 → xs = []) : SrcAt w v n xs := by
  obtain ⟨A, c, h1, h2, h3, h4⟩ := h
  cases A with
  | none =>
    have h0 := h3 rfl
    have hn : n = 0 := by omega
    subst hn
    subst h0
    exact .inl ⟨h1, rfl, hx rfl⟩
  | some ad =>
    refine .inr ⟨ad, c, h1, fun j u hj => ?_⟩
    obtain ⟨g, o, e1, _, e3⟩ := h4 j u hj
    obtain rfl := Option.some.inj e1
    rw [addr_add2]
    exact e3
theorem RowIn.ints {w : World} {v : Value} {xs : List Int} (h : RowIn w v xs.length (xs.map (Value.int .i64))) : IntsIn (fun _ => True) w v xs := by
  obtain ⟨A, c, h1, h2, h3, h4⟩ := h
  refine ⟨A, c, h1, h2, h3, fun j x hj => ?_⟩
  obtain ⟨g, o, e1, e2, e3⟩ := h4 j (.int .i64 x) (by rw [List.getElem?_map, hj]; rfl)
  exact ⟨g, o, e1, e2, trivial, e3⟩
theorem itCells_at (l : List RIt) (i j : Nat) (x : RIt) (h : l[i]? = some x) (hj : j < 3) : (l.flatMap RIt.cells)[i * 3 + j]? = x.cells[j]? := by
  induction l generalizing i with
  | nil => simp at h
  | cons y l ih =>
    rw [List.flatMap_cons]
    cases i with
    | zero =>
      obtain rfl : y = x := by simpa using h
      rw [Nat.zero_mul, Nat.zero_add, List.getElem?_append_left (by simpa [RIt.cells] using hj)]
    | succ i =>
      rw [List.getElem?_append_right (by simp [RIt.cells]; omega)]
      have e : (i + 1) * 3 + j - y.cells.length = i * 3 + j := by simp [RIt.cells]; omega
      rw [e]
      exact ih i (by simpa using h)
theorem itCells_len (l : List RIt) : (l.flatMap RIt.cells).length = l.length * 3 := by
  induction l with
  | nil => rfl
  | cons y l ih =>
    rw [List.flatMap_cons, List.length_append, ih, List.length_cons]
    simp only [RIt.cells, List.length_cons, List.length_nil]
    omega
/-- an item in memory -/
theorem RowIn.item {w : World} {v : Value} {l : List RIt} (h : RowIn w v l.length (l.flatMap RIt.cells)) {i : Nat} {x : RIt} (hx : l[i]? = some x) : ∃ g o c, v = .slice (some ⟨g, o, none⟩) l.length c ∧ l.length ≤ c ∧ g < w.heap.size ∧ w.cell? ⟨g, o + i * 3, none⟩ = some (.int .i64 x.lit) ∧ w.cell? ⟨g, o + i * 3 + 1, none⟩ = some (.int .i64 x.reason) ∧ w.cell? ⟨g, o + i * 3 + 2, none⟩ = some (.int .i64 x.level) := by
  obtain ⟨A, c, rfl, h2, h3, h4⟩ := h
  obtain ⟨g, o, rfl, e2, e3⟩ := h4 _ _ (itCells_at l i 0 x hx (by decide))
  have f : ∀ r, r < 3 → ∀ u, x.cells[r]? = some u → w.cell? ⟨g, o + (i * 3 + r), none⟩ = some u := fun r hr u hu => by
    obtain ⟨g', o', e, _, f3⟩ := h4 _ _ ((itCells_at l i r x hx hr).trans hu)
    cases e
    exact f3
  have f1 := f 1 (by decide) (.int .i64 x.reason) rfl
  have f2 := f 2 (by decide) (.int .i64 x.level) rfl
  rw [← Nat.add_assoc] at f1 f2
  exact ⟨g, o, c, rfl, h2, e2, e3, f1, f2⟩
/-- the reference's trail -/
def RTAt (w : World) (v : Value) (t : RTr) : Prop := ∃ iv sv, v = .agg #[.int .i64 t.vars, .int .i64 t.now, iv, sv] ∧ RowIn w iv t.items.length (t.items.flatMap RIt.cells) ∧ IntsIn (fun _ => True) w sv t.starts
theorem RTAt.below {w w' : World} {v : Value} {t : RTr} (h : RTAt w v t) (k : Below w.heap.size w w') : RTAt w' v t := by
  obtain ⟨iv, sv, h1, h2, h3⟩ := h
  exact ⟨iv, sv, h1, h2.below k, h3.below k⟩
/-- a clause of the reference's arena, and its list in memory -/
structure MEn where
  e : REn
  lv : Value
def MEn.cells (x : MEn) : List Value := [.int .i64 x.e.id, x.lv]
theorem enCells_at (l : List MEn) (i j : Nat) (x : MEn) (h : l[i]? = some x) (hj : j < 2) : (l.flatMap MEn.cells)[i * 2 + j]? = x.cells[j]? := by
  induction l generalizing i with
  | nil => simp at h
  | cons y l ih =>
    rw [List.flatMap_cons]
    cases i with
    | zero =>
      obtain rfl : y = x := by simpa using h
      rw [Nat.zero_mul, Nat.zero_add, List.getElem?_append_left (by simpa [MEn.cells] using hj)]
    | succ i =>
      rw [List.getElem?_append_right (by simp [MEn.cells]; omega)]
      have e : (i + 1) * 2 + j - y.cells.length = i * 2 + j := by simp [MEn.cells]; omega
      rw [e]
      exact ih i (by simpa using h)
theorem enCells_len (l : List MEn) : (l.flatMap MEn.cells).length = l.length * 2 := by
  induction l with
  | nil => rfl
  | cons y l ih =>
    rw [List.flatMap_cons, List.length_append, ih, List.length_cons]
    simp only [MEn.cells, List.length_cons, List.length_nil]
    omega
def EntsIn (w : World) (v : Value) (l : List REn) : Prop := ∃ ms : List MEn, ms.map MEn.e = l ∧ RowIn w v l.length (ms.flatMap MEn.cells) ∧ ∀ m ∈ ms, IntsIn (fun _ => True) w m.lv m.e.lits
theorem EntsIn.below {w w' : World} {v : Value} {l : List REn} (h : EntsIn w v l) (k : Below w.heap.size w w') : EntsIn w' v l := by
  obtain ⟨ms, h1, h2, h3⟩ := h
  exact ⟨ms, h1, h2.below k, fun m hm => (h3 m hm).below k⟩
theorem EntsIn.at_ {w : World} {v : Value} {l : List REn} (h : EntsIn w v l) {i : Nat} {x : REn} (hx : l[i]? = some x) : ∃ g o c u, v = .slice (some ⟨g, o, none⟩) l.length c ∧ l.length ≤ c ∧ g < w.heap.size ∧ w.cell? ⟨g, o + i * 2, none⟩ = some (.int .i64 x.id) ∧ w.cell? ⟨g, o + i * 2 + 1, none⟩ = some u ∧ IntsIn (fun _ => True) w u x.lits := by
  obtain ⟨ms, h1, ⟨A, c, rfl, h2, h3, h4⟩, h5⟩ := h
  rw [← h1, List.getElem?_map] at hx
  cases hm : ms[i]? with
  | none => rw [hm] at hx; cases hx
  | some m =>
    rw [hm] at hx
    obtain rfl := Option.some.inj hx
    obtain ⟨g, o, rfl, e2, e3⟩ := h4 _ _ (enCells_at ms i 0 m hm (by decide))
    obtain ⟨g', o', e, _, f3⟩ := h4 _ _ (enCells_at ms i 1 m hm (by decide))
    cases e
    rw [← Nat.add_assoc] at f3
    exact ⟨g, o, c, m.lv, rfl, h2, e2, e3, f3, h5 m (List.mem_of_getElem? hm)⟩
/-- the reference's arena -/
def RAAt (w : World) (v : Value) (a : RAr) : Prop := ∃ av, v = .agg #[av, .int .i64 a.last] ∧ EntsIn w av a.all
theorem RAAt.below {w w' : World} {v : Value} {a : RAr} (h : RAAt w v a) (k : Below w.heap.size w w') : RAAt w' v a := by
  obtain ⟨av, h1, h2⟩ := h
  exact ⟨av, h1, h2.below k⟩
end Go.Proofs.YtfbiaclpopjipaaGreat
