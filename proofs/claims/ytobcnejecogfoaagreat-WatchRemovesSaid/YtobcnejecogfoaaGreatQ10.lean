/- Maps of any values at integer keys (int, or a type of its kind), that the program made: their entries in the order of the keys. The watch, plainly: what its calls do. -/
import Derived.Test.YtobcnejecogfoaaGreatQ00
import Derived.Maps.OwnSet
import Derived.Maps.OwnOps
import Derived.Test.YtobcnejecogfoaaGreatQ05
import Derived.Test.YtobcnejecogfoaaGreatQ06
import Derived.Test.YtobcnejecogfoaaGreatQ09
namespace Go.Proofs.YtobcnejecogfoaaGreat
open Go.RowKit Go.Maps Go.MapKept Go.ChangeMaps
open Go.WideElems (Fit rd rg pl rd_val elemAt)

/-! ### lists of entries in the order of their keys -/
section
variable {α β : Type}
def insA (x : Int × α) : List (Int × α) → List (Int × α)
  | [] => [x]
  | y :: r => if x.1 < y.1 then x :: y :: r else y :: insA x r
def delA (m : List (Int × α)) (x : Int) : List (Int × α) := m.filter fun p => decide (p.1 ≠ x)
def putA (m : List (Int × α)) (x : Int) (v : α) : List (Int × α) := insA (x, v) (delA m x)
def getA (m : List (Int × α)) (x : Int) : Option α := (m.find? fun p => decide (p.1 = x)).map (·.2)
theorem insA_mem {x : Int × α} {m : List (Int × α)} {p : Int × α} : p ∈ insA x m ↔ p = x ∨ p ∈ m := by
  induction m with
  | nil => simp [insA]
  | cons y r ih =>
    unfold insA
    split
    · simp
    · simp only [List.mem_cons, ih]
      constructor
      · rintro (h | h | h)
        · exact .inr (.inl h)
        · exact .inl h
        · exact .inr (.inr h)
      · rintro (h | h | h)
        · exact .inr (.inl h)
        · exact .inl h
        · exact .inr (.inr h)
theorem delA_mem {m : List (Int × α)} {x : Int} {p : Int × α} : p ∈ delA m x ↔ p ∈ m ∧ p.1 ≠ x := by
  unfold delA
  rw [List.mem_filter, decide_eq_true_eq]
def Rising (m : List (Int × α)) : Prop := m.Pairwise fun p q => p.1 < q.1
theorem Rising.del {m : List (Int × α)} (h : Rising m) (x : Int) : Rising (delA m x) := List.Pairwise.filter _ h
theorem Rising.ins {m : List (Int × α)} (h : Rising m) {x : Int × α} (hx : ∀ p ∈ m, p.1 ≠ x.1) : Rising (insA x m) := by
  induction m with
  | nil => exact List.pairwise_singleton _ _
  | cons y r ih =>
    obtain ⟨h1, h2⟩ := List.pairwise_cons.1 h
    unfold insA
    split
    · rename_i hlt
      refine List.pairwise_cons.2 ⟨fun p hp => ?_, h⟩
      rcases List.mem_cons.1 hp with rfl | hp
      · exact hlt
      · exact Int.lt_trans hlt (h1 p hp)
    · rename_i hge
      refine List.pairwise_cons.2 ⟨fun p hp => ?_, ih h2 (fun p hp => hx p (List.mem_cons_of_mem _ hp))⟩
      rcases insA_mem.1 hp with rfl | hp
      · have := hx y List.mem_cons_self
        omega
      · exact h1 p hp
theorem Rising.put {m : List (Int × α)} (h : Rising m) (x : Int) (v : α) : Rising (putA m x v) := (h.del x).ins (fun _ hp => (delA_mem.1 hp).2)
theorem Rising.eq_of {m : List (Int × α)} (h : Rising m) {p q : Int × α} (hp : p ∈ m) (hq : q ∈ m) (he : p.1 = q.1) : p = q := by
  induction m with
  | nil => cases hp
  | cons y r ih =>
    obtain ⟨h1, h2⟩ := List.pairwise_cons.1 h
    rcases List.mem_cons.1 hp with rfl | hp'
    · rcases List.mem_cons.1 hq with rfl | hq'
      · rfl
      · have := h1 q hq'
        omega
    · rcases List.mem_cons.1 hq with rfl | hq'
      · have := h1 p hp'
        omega
      · exact ih h2 hp' hq'
theorem getA_some {m : List (Int × α)} {x : Int} {v : α} (h : getA m x = some v) : (x, v) ∈ m := by
  unfold getA at h
  cases hf : m.find? (fun p => decide (p.1 = x)) with
  | none => rw [hf] at h; cases h
  | some p =>
    rw [hf] at h
    obtain rfl := Option.some.inj h
    have h1 := List.find?_some hf
    rw [decide_eq_true_eq] at h1
    have h2 := List.mem_of_find?_eq_some hf
    rw [← h1]
    exact h2
theorem getA_of {m : List (Int × α)} (hr : Rising m) {x : Int} {v : α} (h : (x, v) ∈ m) : getA m x = some v := by
  unfold getA
  cases hf : m.find? (fun p => decide (p.1 = x)) with
  | none =>
    have := List.find?_eq_none.1 hf _ h
    simp at this
  | some p =>
    have h1 := List.find?_some hf
    rw [decide_eq_true_eq] at h1
    have := hr.eq_of (List.mem_of_find?_eq_some hf) h h1
    rw [this]
    rfl
theorem getA_none {m : List (Int × α)} {x : Int} : getA m x = none ↔ ∀ v, (x, v) ∉ m := by
  constructor
  · intro h v hv
    unfold getA at h
    rw [Option.map_eq_none_iff, List.find?_eq_none] at h
    have := h _ hv
    simp at this
  · intro h
    cases hg : getA m x with
    | none => rfl
    | some v => exact absurd (getA_some hg) (h v)
theorem getA_put {m : List (Int × α)} (hr : Rising m) (x : Int) (v : α) (y : Int) : getA (putA m x v) y = if y = x then some v else getA m y := by
  by_cases h : y = x
  · subst h
    rw [if_pos rfl]
    exact getA_of (hr.put _ _) (insA_mem.2 (.inl rfl))
  · rw [if_neg h]
    cases hg : getA m y with
    | some u => exact getA_of (hr.put _ _) (insA_mem.2 (.inr (delA_mem.2 ⟨getA_some hg, h⟩)))
    | none =>
      rw [getA_none] at hg ⊢
      intro u hu
      rcases insA_mem.1 hu with h' | h'
      · simp only [Prod.mk.injEq] at h'
        exact h h'.1
      · exact hg u (delA_mem.1 h').1
theorem getA_del {m : List (Int × α)} (hr : Rising m) (x y : Int) : getA (delA m x) y = if y = x then none else getA m y := by
  by_cases h : y = x
  · subst h
    rw [if_pos rfl, getA_none]
    intro u hu
    exact (delA_mem.1 hu).2 rfl
  · rw [if_neg h]
    cases hg : getA m y with
    | some u => exact getA_of (hr.del _) (delA_mem.2 ⟨getA_some hg, h⟩)
    | none =>
      rw [getA_none] at hg ⊢
      exact fun u hu => hg u (delA_mem.1 hu).1
theorem insA_length (x : Int × α) (m : List (Int × α)) : (insA x m).length = m.length + 1 := by
  induction m with
  | nil => rfl
  | cons y r ih =>
    unfold insA
    split
    · rfl
    · simp [ih]
theorem putA_length_le (m : List (Int × α)) (x : Int) (v : α) : (putA m x v).length ≤ m.length + 1 := by
  unfold putA
  rw [insA_length]
  exact Nat.succ_le_succ (List.length_filter_le _ _)

/-- the entries, changed each for itself -/
def mapV (f : α → β) (m : List (Int × α)) : List (Int × β) := m.map fun p => (p.1, f p.2)
theorem mapV_ins (f : α → β) (x : Int × α) (m : List (Int × α)) : mapV f (insA x m) = insA (x.1, f x.2) (mapV f m) := by
  induction m with
  | nil => rfl
  | cons y r ih =>
    unfold mapV at ih ⊢
    simp only [insA, List.map_cons]
    split
    · rfl
    · rw [List.map_cons, ih]
theorem mapV_del (f : α → β) (m : List (Int × α)) (x : Int) : mapV f (delA m x) = delA (mapV f m) x := by
  unfold mapV delA
  rw [List.filter_map]
  rfl
theorem mapV_put (f : α → β) (m : List (Int × α)) (x : Int) (v : α) : mapV f (putA m x v) = putA (mapV f m) x (f v) := by
  unfold putA
  rw [mapV_ins, mapV_del]
theorem mapV_get (f : α → β) (m : List (Int × α)) (x : Int) : getA (mapV f m) x = (getA m x).map f := by
  unfold getA mapV
  rw [List.find?_map]
  have : ((fun p : Int × β => decide (p.1 = x)) ∘ fun p : Int × α => (p.1, f p.2)) = fun p : Int × α => decide (p.1 = x) := rfl
  rw [this]
  cases m.find? (fun p => decide (p.1 = x)) <;> rfl
theorem mapV_length (f : α → β) (m : List (Int × α)) : (mapV f m).length = m.length := List.length_map _
theorem mapV_rising (f : α → β) {m : List (Int × α)} (h : Rising m) : Rising (mapV f m) := by
  unfold Rising mapV
  rw [List.pairwise_map]
  exact h
theorem mapV_rising_of {f : α → β} {m : List (Int × α)} (h : Rising (mapV f m)) : Rising m := by
  unfold Rising mapV at h
  rw [List.pairwise_map] at h
  exact h
theorem Rising.length_le {m : List (Int × α)} (h : Rising m) {lo hi : Int} (hr : ∀ p ∈ m, lo ≤ p.1 ∧ p.1 ≤ hi) (hlo : lo ≤ hi + 1) : (m.length : Int) ≤ hi - lo + 1 := by
  induction m generalizing lo with
  | nil => simp; omega
  | cons y r ih =>
    obtain ⟨h1, h2⟩ := List.pairwise_cons.1 h
    have hy := hr y List.mem_cons_self
    have := ih (lo := y.1 + 1) h2 (fun p hp => ⟨by have := h1 p hp; omega, (hr p (List.mem_cons_of_mem _ hp)).2⟩) (by omega)
    simp only [List.length_cons]
    omega
end

/-! ### the map in memory -/
def mapR (v : Value) : Option (DataW Value × List MemPlace) := some (.held v, [])
def encE (m : List (Int × Value)) : List (Lit × DataW Value) := m.map fun p => (.int .i64 p.1, .held p.2)
theorem encE_ins (x : Int × Value) (m : List (Int × Value)) : DataW.insert (.int .i64 x.1, .held x.2) (encE m) = encE (insA x m) := by
  induction m with
  | nil => rfl
  | cons y r ih =>
    have hb : (Lit.int .i64 x.1).before (.int .i64 y.1) = decide (x.1 < y.1) := rfl
    show (if (Lit.int .i64 x.1).before (.int .i64 y.1) = true then _ else _) = _
    by_cases h : x.1 < y.1
    · rw [if_pos (by rw [hb]; exact decide_eq_true h)]
      unfold insA
      rw [if_pos h]
      rfl
    · rw [if_neg (by rw [hb]; simpa using h)]
      unfold insA
      rw [if_neg h]
      show _ :: DataW.insert _ (encE r) = _
      rw [ih]
      rfl
theorem encE_del (m : List (Int × Value)) (x : Int) : (encE m).filter (fun p => !p.1.sameKey (.int .i64 x)) = encE (delA m x) := by
  unfold encE delA
  rw [List.filter_map]
  congr 1
  refine List.filter_congr (fun p _ => ?_)
  simp [Lit.sameKey]
section
variable {P : Program} {kt t et : TypeId} {w : World} {b : Nat} {m : List (Int × Value)}
/-- block b is a map with these entries, in the order of their keys -/
def MapS (P : Program) (kt : TypeId) (w : World) (b : Nat) (m : List (Int × Value)) : Prop :=
  w.ownsMap P kt mapR b m.length (.map (encE m)) ∧ Rising m ∧ ∀ p ∈ m, (Lit.int .i64 p.1).wf = true
theorem MapS.lt (h : MapS P kt w b m) : b < w.heap.size := h.1.lt
theorem MapS.rising (h : MapS P kt w b m) : Rising m := h.2.1
theorem MapS.kept {O : Nat → Prop} {w' : World} (h : MapS P kt w b m) (k : Kept O w w') (hO : ¬ O b) : MapS P kt w' b m := by
  obtain ⟨⟨es, cl, hb, rest⟩, h2⟩ := h
  exact ⟨⟨es, cl, (k.block b (heap_lt hb) hO).trans hb, rest⟩, h2⟩
theorem MapS.below {w' : World} (h : MapS P kt w b m) (k : Below w.heap.size w w') : MapS P kt w' b m := h.kept (O := fun _ => False) (Kept.of_below k) (fun h => h)
theorem MapS.made (w : World) : MapS P kt (w.alloc (.map #[] 0)) w.heap.size [] :=
  ⟨World.ownsMap_made _ _ _ _, List.Pairwise.nil, fun p hp => by cases hp⟩
theorem ownsMap_exact {R : Value → Option (DataW Value × List MemPlace)} {n : Nat} {E : List (Lit × DataW Value)} (h : w.ownsMap P kt R b n (.map E)) : w.ownsMap P kt R b E.length (.map E) := by
  obtain ⟨es, cl, hb, F, _, hD⟩ := h
  refine ⟨es, cl, hb, F, ?_, hD⟩
  cases hD
  rw [length_sorted]
  simp
theorem encE_length (m : List (Int × Value)) : (encE m).length = m.length := List.length_map _
theorem atKey_encE (m : List (Int × Value)) (x : Int) (z : DataW Value) : (DataW.map (encE m)).atKey (.int .i64 x) z = match getA m x with
    | some v => .held v
    | none => z := by
  have e : (encE m).find? (fun p => p.1.sameKey (.int .i64 x)) = (m.find? (fun p => decide (p.1 = x))).map fun p => (.int .i64 p.1, .held p.2) := by
    unfold encE
    rw [List.find?_map]
    have : ((fun p : Lit × DataW Value => p.1.sameKey (.int .i64 x)) ∘ fun p : Int × Value => (Lit.int .i64 p.1, DataW.held p.2)) = fun p : Int × Value => decide (p.1 = x) := by
      funext p
      simp [Lit.sameKey]
    rw [this]
  unfold DataW.atKey getA
  simp only [e]
  cases m.find? (fun p => decide (p.1 = x)) <;> rfl
/-- what is read at a key -/
theorem MapS.look (h : MapS P kt w b m) (K : Keyed P kt) (hk : P.underlying kt = some (.int .i64)) (ht : P.underlying t = some (.map kt et)) {z : Value} (hz : (zeroValue et).run P w = .ok z w) (c : Bool) {x : Int} (hx : (Lit.int .i64 x).wf = true) :
    (Instr.lookup t (.map (some b)) (.int .i64 x) c).run P w = .ok (if c then .tuple #[(getA m x).getD z, .bool (getA m x).isSome] else (getA m x).getD z) w := by
  obtain ⟨⟨es, cl, hb, F, _, hD⟩, _⟩ := h
  have hat0 := atKey_encE m x
  rw [hD] at hat0
  rcases Maps.fit_look c K ht hz hb F (keyOf_int_mk hk hx) with ⟨hrun, _, hat⟩ | ⟨e0, y, _, _, hrun, hRv, hat, _⟩
  · have h1 := hat0 .nil
    rw [hat] at h1
    cases hg : getA m x with
    | none => rw [hrun]; rfl
    | some v => rw [hg] at h1; cases h1
  · have h1 := hat0 .nil
    rw [hat] at h1
    have hy : y.1 = .held e0.val := by
      cases hRv
      rfl
    rw [hy] at h1
    cases hg : getA m x with
    | none => rw [hg] at h1; cases h1
    | some v =>
      rw [hg] at h1
      cases h1
      rw [hrun]
      rfl
theorem MapS.of_put {w' : World} {n : Nat} (hr : Rising m) (hw : ∀ p ∈ m, (Lit.int .i64 p.1).wf = true) {x : Int} (hx : (Lit.int .i64 x).wf = true) {v : Value} (h : w'.ownsMap P kt mapR b n ((DataW.map (encE m)).put (.int .i64 x) (.held v))) : MapS P kt w' b (putA m x v) := by
  have e : (DataW.map (encE m)).put (.int .i64 x) (.held v) = .map (encE (putA m x v)) := by
    show DataW.map (DataW.insert _ ((encE m).filter _)) = _
    rw [encE_del, encE_ins (x, v)]
    rfl
  rw [e] at h
  have h2 := ownsMap_exact h
  rw [encE_length] at h2
  refine ⟨h2, hr.put _ _, fun p hp => ?_⟩
  rcases insA_mem.1 hp with rfl | hp
  · exact hx
  · exact hw p (delA_mem.1 hp).1
theorem MapS.of_del {w' : World} {n : Nat} (hr : Rising m) (hw : ∀ p ∈ m, (Lit.int .i64 p.1).wf = true) {x : Int} (h : w'.ownsMap P kt mapR b n ((DataW.map (encE m)).del (.int .i64 x))) : MapS P kt w' b (delA m x) := by
  have e : (DataW.map (encE m)).del (.int .i64 x) = .map (encE (delA m x)) := by
    show DataW.map ((encE m).filter _) = _
    rw [encE_del]
  rw [e] at h
  have h2 := ownsMap_exact h
  rw [encE_length] at h2
  exact ⟨h2, hr.del _, fun p hp => hw p (delA_mem.1 hp).1⟩
theorem MapS.update (h : MapS P kt w b m) (K : Keyed P kt) (hk : P.underlying kt = some (.int .i64)) (ht : P.underlying t = some (.map kt et)) (hn : m.length < maxLen) {x : Int} (hx : (Lit.int .i64 x).wf = true) (v : Value) :
    ∃ w', (Instr.mapUpdate t (.map (some b)) (.int .i64 x) v).run P w = .ok () w' ∧ MapS P kt w' b (putA m x v) ∧ w.grownBy w' (some b) := by
  obtain ⟨w', h1, h2, h3⟩ := h.1.update K ht hn (keyOf_int_mk hk hx) (show mapR v = some (.held v, []) from rfl)
  exact ⟨w', h1, MapS.of_put h.2.1 h.2.2 hx h2, h3⟩
theorem wpList_putS {ops : Array Oper} {rest : List Oper} {o : Oper} {a : Act} {Q : Exit → Act → World → Prop} (h : MapS P kt w b m) (K : Keyed P kt) (hk : P.underlying kt = some (.int .i64)) (ht : P.underlying t = some (.map kt et))
    (hg : o.guard = none) (mm x v : Operand) (hop : o.op = Op.mapUpdate t mm x v) (hm : a.eval mm = .map (some b)) (hn : m.length < maxLen) (i : Int) (y : Value) (hx : a.eval x = .int .i64 i) (hv : a.eval v = y) (hi : (Lit.int .i64 i).wf = true)
    (hK : ∀ w', MapS P kt w' b (putA m i y) → w.grownBy w' (some b) → wpList P ops Q rest (a.put o.dst undef) w') : wpList P ops Q (o :: rest) a w :=
  wpList_mapUpdate_own w hg mm x v t hop kt et K ht mapR b m.length _ hm h.1 hn _ _ _ hx hv (keyOf_int_mk hk hi) (.held y) [] rfl (fun w' h1 h2 => hK w' (MapS.of_put h.2.1 h.2.2 hi h1) h2)
theorem wpList_delS {ops : Array Oper} {rest : List Oper} {o : Oper} {a : Act} {Q : Exit → Act → World → Prop} (h : MapS P kt w b m) (K : Keyed P kt) (hk : P.underlying kt = some (.int .i64)) (ht : P.underlying t = some (.map kt et))
    (hg : o.guard = none) (mm x : Operand) (hop : o.op = Op.call { callee := Callee.builtin Builtin.delete, args := #[mm, x], argTypes := #[t, kt] }) (hm : a.eval mm = .map (some b)) (i : Int) (hx : a.eval x = .int .i64 i) (hi : (Lit.int .i64 i).wf = true)
    (hK : ∀ w', MapS P kt w' b (delA m i) → w.grownBy w' (some b) → wpList P ops Q rest (a.put o.dst (.tuple #[])) w') : wpList P ops Q (o :: rest) a w :=
  wpList_delete_own w hg mm x t _ hop et K ht _ b m.length _ hm h.1 _ _ hx (keyOf_int_mk hk hi) (fun w' h1 h2 => hK w' (MapS.of_del h.2.1 h.2.2 h1) h2.grown)
end
end Go.Proofs.YtobcnejecogfoaaGreat
namespace Go.Proofs.YtobcnejecogfoaaGreat
open Go.RowKit Go.Shelf

/-- a number's place in a rising list; put in, taken out -/
def insI (r : List Int) (x : Int) : List Int := r.take (r.countP (· < x)) ++ x :: r.drop (r.countP (· < x))
def remI (r : List Int) (x : Int) : List Int := if r.contains x = true then r.eraseIdx (r.countP (· < x)) else r
structure Kn where
  by_ : List Int
  lits : List Int
structure Wst where
  known : List (Int × Kn)
  of : List (Int × List Int)
  looked : Nat
def Wst.row (S : Wst) (l : Int) : List Int := (getA S.of l).getD []
def Wst.kn (S : Wst) (id : Int) : Option Kn := getA S.known id
def Wst.put (S : Wst) (l id : Int) : Wst := ⟨S.known, putA S.of l (insI (S.row l) id), S.looked⟩
def Wst.drop (S : Wst) (l id : Int) : Wst := if (S.row l).contains id = true then ⟨S.known, putA S.of l (remI (S.row l) id), S.looked⟩ else S
def Wst.set (S : Wst) (id : Int) (k : Kn) : Wst := ⟨putA S.known id k, S.of, S.looked⟩
def Wst.del (S : Wst) (id : Int) : Wst := ⟨delA S.known id, S.of, S.looked⟩
/-- the literals of a clause, each once, in their order -/
def eachGo (o : List Int) : List Int → List Int
  | [] => o
  | l :: r => eachGo (if o.contains l = true then o else o ++ [l]) r
def eachL (c : List Int) : List Int := eachGo [] c
def Trl.fal (T : Trl) (l : Int) : Bool := decide (T.val l < 0)
def Trl.tru (T : Trl) (l : Int) : Bool := decide (0 < T.val l)
def ordI (a b : Int) : Int := if a < b then -1 else if b < a then 1 else 0
/-- how literals that are false are ordered: greater levels first -/
def Trl.lvOrd (T : Trl) (a b : Int) : Int := ordI (T.level (litV b : Nat)) (T.level (litV a : Nat))
def Trl.stab (T : Trl) (xs : List Int) : List Int := (Sort.insertionSort (ltOf T.lvOrd) xs.toArray 0 xs.length).toList
/-- what comes first -/
def Trl.first (T : Trl) (xs : List Int) : List Int := xs.filter (fun x => !T.fal x) ++ T.stab (xs.filter T.fal)
def Wst.addBy (S : Wst) (id : Int) (c : List Int) : List Int → Wst
  | [a, b] => ((S.set id ⟨[a, b], c⟩).put a id).put b id
  | _ => S.set id ⟨[], c⟩
def addKind (T : Trl) : List Int → Nat
  | [] => 3
  | [a] => if T.fal a = true then 3 else if T.tru a = true then 1 else 2
  | a :: b :: _ => if T.fal a = true then 3 else if T.tru a = true ∨ T.fal b = false then 1 else 2
/-- what a call gives: its first result, its error, and what there is then -/
structure WRes where
  res : Nat
  err : Nat
  T : Trl
  S : Wst
def addTwo (T : Trl) (c : List Int) : List Int := (T.first (eachL c)).take 2
def addOk (T : Trl) (S : Wst) (id : Int) (c : List Int) : WRes :=
  if alwL c = true then ⟨4, 0, T, S.set id ⟨[], eachL c⟩⟩ else
  ⟨addKind T (addTwo T c), 0, if addKind T (addTwo T c) = 2 then T.assigned ((addTwo T c).headD 0) id else T, S.addBy id (eachL c) (addTwo T c)⟩
def addW (A : Arn) (T : Trl) (S : Wst) (id : Int) : WRes := match S.kn id with
  | some _ => ⟨0, 130, T, S⟩
  | none => match A.get id with
    | none => ⟨0, 30, T, S⟩
    | some c => if c.any (fun l => decide ((T.vars.length : Int) - 1 < (litV l : Nat))) = true then ⟨0, 40, T, S⟩ else addOk T S id c
def Wst.dropAll (S : Wst) (id : Int) : List Int → Wst
  | [] => S
  | l :: r => (S.drop l id).dropAll id r
def Wst.remove (S : Wst) (id : Int) : Wst := match S.kn id with
  | none => S
  | some k => (S.dropAll id k.by_).del id
def Kn.other (k : Kn) (l : Int) : Int := if k.by_.getD 0 0 = l then k.by_.getD 1 0 else k.by_.getD 0 0
def Kn.move (k : Kn) (l x : Int) : Kn := ⟨if k.by_.getD 0 0 = l then [x, k.by_.getD 1 0] else [k.by_.getD 0 0, x], k.lits⟩
def Kn.next (T : Trl) (k : Kn) (l : Int) : Option Int := k.lits.find? fun x => decide (x ≠ l ∧ x ≠ k.other l) && !T.fal x
def Wst.move (S : Wst) (id l x : Int) (k : Kn) : Wst := ((S.drop l id).put x id).set id (k.move l x)
/-- one clause is looked at; whether it fails -/
def lookOne (A : Arn) (T : Trl) (S : Wst) (l id : Int) : Trl × Wst × Bool :=
  if (A.find id).isSome = false then (T, S.remove id, false) else
  match S.kn id with
  | none => (T, S, false)
  | some k => if T.tru (k.other l) = true then (T, S, false) else match k.next T l with
    | some x => (T, S.move id l x k, false)
    | none => if T.fal (k.other l) = true then (T, S, true) else (T.assigned (k.other l) id, S, false)
def lookGo (A : Arn) (T : Trl) (S : Wst) (l : Int) : List Int → Trl × Wst × Option Int
  | [] => (T, S, none)
  | id :: r => if (lookOne A T S l id).2.2 = true then ((lookOne A T S l id).1, (lookOne A T S l id).2.1, some id) else lookGo A (lookOne A T S l id).1 (lookOne A T S l id).2.1 l r
def Wst.step (S : Wst) : Wst := ⟨S.known, S.of, S.looked + 1⟩
def propGo (A : Arn) : Nat → Trl → Wst → Trl × Wst × Option Int
  | 0, T, S => (T, S, none)
  | n + 1, T, S => match T.order[S.looked]? with
    | none => (T, S, none)
    | some y => match lookGo A T S (litN y) (S.row (litN y)) with
      | (T', S', some id) => (T', S', some id)
      | (T', S', none) => propGo A n T' S'.step
def propW (A : Arn) (T : Trl) (S : Wst) : Trl × Wst × Option Int := propGo A (T.vars.length + 1) T S
end Go.Proofs.YtobcnejecogfoaaGreat
