/- Plain: what the reference's Conflict returns. -/
import Derived.Test.YtiodfolcnnkdjaaGreatDg
import Derived.Test.YtiodfolcnnkdjaaGreatDf
namespace Go.Proofs.YtiodfolcnnkdjaaGreat
open Go.RowKit

/-- k rows of integers, in blocks of one's own, no two in one -/
structure Rws (w : World) (base k : Nat) (v : Nat → Value) (xs : Nat → List Int) : Prop where
 own : ∀ i, i < k → w.ownsRow base 3 1 (v i) (xs i).length ((xs i).map (Value.int .i64))
 apart : ∀ i j, i < k → j < k → i ≠ j → ∀ g, (v i).ownBlock = some g → (v j).ownBlock ≠ some g
def up {α : Type} (f : Nat → α) (i : Nat) (x : α) : Nat → α := fun j => if j = i then x else f j
theorem up_same {α : Type} (f : Nat → α) (i : Nat) (x : α) : up f i x i = x := if_pos rfl
theorem up_ne {α : Type} (f : Nat → α) {i j : Nat} (x : α) (h : j ≠ i) : up f i x j = f j := if_neg h
theorem Rws.below {w w' : World} {base k : Nat} {v : Nat → Value} {xs : Nat → List Int} (h : Rws w base k v xs) (hb : Below w.heap.size w w') : Rws w' base k v xs :=
 ⟨fun i hi => own_below (h.own i hi) hb, h.apart⟩
theorem Rws.mono {w : World} {base base' k : Nat} {v : Nat → Value} {xs : Nat → List Int} (h : Rws w base k v xs) (hb : base' ≤ base) : Rws w base' k v xs :=
 ⟨fun i hi => own_mono (h.own i hi) hb, h.apart⟩
/-- a row takes another's place that is in no block of the others -/
theorem Rws.put {w : World} {base k : Nat} {v : Nat → Value} {xs : Nat → List Int} (h : Rws w base k v xs) (i : Nat) {u : Value} {ys : List Int} (ho : w.ownsRow base 3 1 u ys.length (ys.map (Value.int .i64))) (ha : ∀ j, j < k → j ≠ i → ∀ g, u.ownBlock = some g → (v j).ownBlock ≠ some g) : Rws w base k (up v i u) (up xs i ys) := by
 refine ⟨fun j hj => ?_, fun a b ha' hb' hab g hg => ?_⟩
 ·
  by_cases hji : j = i
  ·
   subst hji
   rw [up_same, up_same]
   exact ho
  ·
   rw [up_ne _ _ hji, up_ne _ _ hji]
   exact h.own j hj
 ·
  by_cases hai : a = i
  ·
   subst hai
   rw [up_same] at hg
   rw [up_ne _ _ (Ne.symm hab)]
   exact ha b hb' (Ne.symm hab) g hg
  ·
   rw [up_ne _ _ hai] at hg
   by_cases hbi : b = i
   ·
    subst hbi
    rw [up_same]
    intro hu
    exact ha a ha' hai g hu hg
   ·
    rw [up_ne _ _ hbi]
    exact h.apart a b ha' hb' hab g hg
theorem Rws.nil {w : World} {base k : Nat} {v : Nat → Value} {xs : Nat → List Int} (h : Rws w base k v xs) (i : Nat) : Rws w base k (up v i (.slice none 0 0)) (up xs i []) :=
 h.put i (World.ownsRow_nil _ _ _ _) (fun _ _ _ g hg => by cases hg)
/-- a fresh row -/
theorem Rws.fresh {w w' : World} {base k : Nat} {v : Nat → Value} {xs : Nat → List Int} (h : Rws w base k v xs) (hbz : base ≤ w.heap.size) (hb : Below w.heap.size w w') (i : Nat) {u : Value} {ys : List Int} (ho : w'.ownsRow w.heap.size 3 1 u ys.length (ys.map (Value.int .i64))) : Rws w' base k (up v i u) (up xs i ys) :=
 (h.below hb).put i (own_mono ho hbz) (fun j hj _ g hg hv => by
  have h1 := (own_lt ho g hg).1
  have h2 := (own_lt (h.own j hj) g hv).2
  omega)
/-- a row grows -/
theorem Rws.grow {w w' : World} {base k : Nat} {v : Nat → Value} {xs : Nat → List Int} (h : Rws w base k v xs) (i : Nat) {u : Value} {ys : List Int} (hg : w.grownBy w' (v i).ownBlock) (ho : w'.ownsRow base 3 1 u ys.length (ys.map (Value.int .i64))) (hat : u.ownBlock = (v i).ownBlock ∨ u.ownBlock = some w.heap.size) (hi : i < k) : Rws w' base k (up v i u) (up xs i ys) := by
 refine ⟨fun j hj => ?_, fun a b ha' hb' hab g hgg => ?_⟩
 ·
  by_cases hji : j = i
  ·
   subst hji
   rw [up_same, up_same]
   exact ho
  ·
   rw [up_ne _ _ hji, up_ne _ _ hji]
   exact own_kept (h.own j hj) (Kept.grown hg) (fun g hgj e => h.apart j i hj hi hji g hgj e.symm)
 ·
  have key : ∀ c, c < k → c ≠ i → ∀ g, u.ownBlock = some g → (v c).ownBlock ≠ some g := fun c hc hci g hu hv => by
   rcases hat with e | e
   ·
    exact h.apart c i hc hi hci g hv (e ▸ hu)
   ·
    rw [e] at hu
    cases hu
    exact absurd (own_lt (h.own c hc) _ hv).2 (Nat.lt_irrefl _)
  by_cases hai : a = i
  ·
   subst hai
   rw [up_same] at hgg
   rw [up_ne _ _ (Ne.symm hab)]
   exact key b hb' (Ne.symm hab) g hgg
  ·
   rw [up_ne _ _ hai] at hgg
   by_cases hbi : b = i
   ·
    subst hbi
    rw [up_same]
    intro hu
    exact key a ha' hai g hu hgg
   ·
    rw [up_ne _ _ hbi]
    exact h.apart a b ha' hb' hab g hgg
/-- six things by number -/
def s6 {α : Type} (a b c d e f : α) : Nat → α
 | 0 => a
 | 1 => b
 | 2 => c
 | 3 => d
 | 4 => e
 | _ => f
theorem Rws.congr {w : World} {base k : Nat} {v v' : Nat → Value} {xs xs' : Nat → List Int} (h : Rws w base k v xs) (hv : ∀ j, j < k → v' j = v j) (hx : ∀ j, j < k → xs' j = xs j) : Rws w base k v' xs' := by
 refine ⟨fun i hi => ?_, fun i j hi hj hij g => ?_⟩
 ·
  rw [hv i hi, hx i hi]
  exact h.own i hi
 ·
  rw [hv i hi, hv j hj]
  exact h.apart i j hi hj hij g
theorem up6_0 {α : Type} (a b c d e f x : α) : ∀ j, j < 6 → s6 x b c d e f j = up (s6 a b c d e f) 0 x j := fun j hj => by
 match j, hj with
 | 0, _ => rfl
 | 1, _ => rfl
 | 2, _ => rfl
 | 3, _ => rfl
 | 4, _ => rfl
 | 5, _ => rfl
 | n + 6, h => omega
theorem up6_1 {α : Type} (a b c d e f x : α) : ∀ j, j < 6 → s6 a x c d e f j = up (s6 a b c d e f) 1 x j := fun j hj => by
 match j, hj with
 | 0, _ => rfl
 | 1, _ => rfl
 | 2, _ => rfl
 | 3, _ => rfl
 | 4, _ => rfl
 | 5, _ => rfl
 | n + 6, h => omega
theorem up6_2 {α : Type} (a b c d e f x : α) : ∀ j, j < 6 → s6 a b x d e f j = up (s6 a b c d e f) 2 x j := fun j hj => by
 match j, hj with
 | 0, _ => rfl
 | 1, _ => rfl
 | 2, _ => rfl
 | 3, _ => rfl
 | 4, _ => rfl
 | 5, _ => rfl
 | n + 6, h => omega
theorem up6_3 {α : Type} (a b c d e f x : α) : ∀ j, j < 6 → s6 a b c x e f j = up (s6 a b c d e f) 3 x j := fun j hj => by
 match j, hj with
 | 0, _ => rfl
 | 1, _ => rfl
 | 2, _ => rfl
 | 3, _ => rfl
 | 4, _ => rfl
 | 5, _ => rfl
 | n + 6, h => omega
theorem up6_4 {α : Type} (a b c d e f x : α) : ∀ j, j < 6 → s6 a b c d x f j = up (s6 a b c d e f) 4 x j := fun j hj => by
 match j, hj with
 | 0, _ => rfl
 | 1, _ => rfl
 | 2, _ => rfl
 | 3, _ => rfl
 | 4, _ => rfl
 | 5, _ => rfl
 | n + 6, h => omega
theorem up6_5 {α : Type} (a b c d e f x : α) : ∀ j, j < 6 → s6 a b c d e x j = up (s6 a b c d e f) 5 x j := fun j hj => by
 match j, hj with
 | 0, _ => rfl
 | 1, _ => rfl
 | 2, _ => rfl
 | 3, _ => rfl
 | 4, _ => rfl
 | 5, _ => rfl
 | n + 6, h => omega
theorem Rws.r0 {w : World} {base : Nat} {a b c d e f : Value} {A B C D E F : List Int} (h : Rws w base 6 (s6 a b c d e f) (s6 A B C D E F)) : w.ownsRow base 3 1 a A.length (A.map (Value.int .i64)) := h.own 0 (by decide)
theorem Rws.r1 {w : World} {base : Nat} {a b c d e f : Value} {A B C D E F : List Int} (h : Rws w base 6 (s6 a b c d e f) (s6 A B C D E F)) : w.ownsRow base 3 1 b B.length (B.map (Value.int .i64)) := h.own 1 (by decide)
theorem Rws.r2 {w : World} {base : Nat} {a b c d e f : Value} {A B C D E F : List Int} (h : Rws w base 6 (s6 a b c d e f) (s6 A B C D E F)) : w.ownsRow base 3 1 c C.length (C.map (Value.int .i64)) := h.own 2 (by decide)
theorem Rws.r3 {w : World} {base : Nat} {a b c d e f : Value} {A B C D E F : List Int} (h : Rws w base 6 (s6 a b c d e f) (s6 A B C D E F)) : w.ownsRow base 3 1 d D.length (D.map (Value.int .i64)) := h.own 3 (by decide)
theorem Rws.r4 {w : World} {base : Nat} {a b c d e f : Value} {A B C D E F : List Int} (h : Rws w base 6 (s6 a b c d e f) (s6 A B C D E F)) : w.ownsRow base 3 1 e E.length (E.map (Value.int .i64)) := h.own 4 (by decide)
theorem Rws.r5 {w : World} {base : Nat} {a b c d e f : Value} {A B C D E F : List Int} (h : Rws w base 6 (s6 a b c d e f) (s6 A B C D E F)) : w.ownsRow base 3 1 f F.length (F.map (Value.int .i64)) := h.own 5 (by decide)
/-- the fifth row takes the first's place -/
theorem Rws.move {w : World} {base : Nat} {a b c d e f : Value} {A B C D E F : List Int} (h : Rws w base 6 (s6 a b c d e f) (s6 A B C D E F)) : Rws w base 6 (s6 e b c d (.slice none 0 0) (.slice none 0 0)) (s6 E B C D [] []) := by
 have hq : ∀ i, i < 4 → ∃ q, q < 6 ∧ (s6 e b c d (.slice none 0 0) (.slice none 0 0) : Nat → Value) i = s6 a b c d e f q ∧ (s6 E B C D [] [] : Nat → List Int) i = s6 A B C D E F q ∧ ((i = 0 ∧ q = 4) ∨ (i ≠ 0 ∧ q = i)) := fun i hi => by
  match i, hi with
  | 0, _ => exact ⟨4, by decide, rfl, rfl, .inl ⟨rfl, rfl⟩⟩
  | 1, _ => exact ⟨1, by decide, rfl, rfl, .inr ⟨by decide, rfl⟩⟩
  | 2, _ => exact ⟨2, by decide, rfl, rfl, .inr ⟨by decide, rfl⟩⟩
  | 3, _ => exact ⟨3, by decide, rfl, rfl, .inr ⟨by decide, rfl⟩⟩
  | n + 4, h => omega
 have hn : ∀ i, ¬ i < 4 → (s6 e b c d (.slice none 0 0) (.slice none 0 0) : Nat → Value) i = .slice none 0 0 ∧ (s6 E B C D [] [] : Nat → List Int) i = [] := fun i hi => by
  match i, hi with
  | 0, hi => omega
  | 1, hi => omega
  | 2, hi => omega
  | 3, hi => omega
  | 4, _ => exact ⟨rfl, rfl⟩
  | n + 5, _ => exact ⟨rfl, rfl⟩
 refine ⟨fun i hi => ?_, fun i j hi hj hij g hg => ?_⟩
 ·
  by_cases h4 : i < 4
  ·
   obtain ⟨q, h1, h2, h3, _⟩ := hq i h4
   rw [h2, h3]
   exact h.own q h1
  ·
   rw [(hn i h4).1, (hn i h4).2]
   exact World.ownsRow_nil _ _ _ _
 ·
  by_cases h4 : i < 4
  ·
   obtain ⟨q, h1, h2, _, h5⟩ := hq i h4
   by_cases k4 : j < 4
   ·
    obtain ⟨p, g1, g2, _, g5⟩ := hq j k4
    rw [h2] at hg
    rw [g2]
    exact h.apart q p h1 g1 (by omega) g hg
   ·
    rw [(hn j k4).1]
    intro hh
    cases hh
  ·
   rw [(hn i h4).1] at hg
   cases hg
/-! ### what the reference's Conflict does -/
structure RSt where
 l : List Int
 met : List Int
 hints : List Int
 keys : List Int
def rAdd : List Int → List Int → List Int
 | acc, [] => acc
 | acc, x :: c => rAdd (if acc.contains x = true then acc else acc ++ [x]) c
def rNext (its : List RIt) (s : RSt) (i : Nat) (r : List Int) (by_ : Int) : RSt :=
 ⟨rAdd (s.l.eraseIdx i) r, rAdd s.met r, s.hints ++ [by_], s.keys ++ [rP its (litV (s.l.getD i 0))]⟩
/-- the rounds, with fuel: nothing if it does not end; an error, if a reason is not right -/
def rIter (all : List REn) (its : List RIt) (top : Int) : Nat → RSt → Option (Option RSt)
 | 0, s => if rGoes its s.l top < 0 then some (some s) else none
 | n + 1, s => if rGoes its s.l top < 0 then some (some s) else match rReason all its (s.l.getD (rGoes its s.l top).toNat 0) with
  | none => some none
  | some (r, b) => rIter all its top n (rNext its s (rGoes its s.l top).toNat r b)
theorem rAdd_mem {acc c : List Int} {x : Int} (h : x ∈ rAdd acc c) : x ∈ acc ∨ x ∈ c := by
 induction c generalizing acc with
 | nil => exact .inl h
 | cons y c ih =>
  unfold rAdd at h
  rcases ih h with h | h
  ·
   split at h
   ·
    exact .inl h
   ·
    rcases List.mem_append.1 h with h | h
    ·
     exact .inl h
    ·
     exact .inr (by rw [List.mem_singleton.1 h]; exact List.mem_cons_self ..)
  ·
   exact .inr (List.mem_cons_of_mem _ h)
theorem rAdd_len (acc c : List Int) : (rAdd acc c).length ≤ acc.length + c.length := by
 induction c generalizing acc with
 | nil => exact Nat.le_refl _
 | cons y c ih =>
  unfold rAdd
  have := ih (if acc.contains y = true then acc else acc ++ [y])
  simp only [List.length_cons]
  split at this
  ·
   split
   ·
    omega
   ·
    rename_i h1 h2
    exact absurd h1 h2
  ·
   split
   ·
    rename_i h1 h2
    exact absurd h2 h1
   ·
    simp only [List.length_append, List.length_cons, List.length_nil] at this
    omega
theorem rRest_neg {its : List RIt} {na p : Int} {acc c r : List Int} (h : rRest its na p acc c = some r) (ha : ∀ x ∈ acc, rVl its x < 0) : ∀ x ∈ r, rVl its x < 0 := by
 induction c generalizing acc with
 | nil =>
  obtain rfl := Option.some.inj h
  exact ha
 | cons y c ih =>
  unfold rRest at h
  split at h
  ·
   exact ih h ha
  ·
   split at h
   ·
    cases h
   ·
    rename_i hy
    split at h
    ·
     cases h
    ·
     refine ih h (fun x hx => ?_)
     rcases List.mem_append.1 hx with hx | hx
     ·
      exact ha x hx
     ·
      rw [List.mem_singleton.1 hx]
      omega
theorem rReason_neg {all : List REn} {its : List RIt} {y : Int} {r : List Int} {b : Int} (h : rReason all its y = some (r, b)) : ∀ x ∈ r, rVl its x < 0 := by
 unfold rReason at h
 split at h
 ·
  unfold rReasonAt at h
  split at h
  ·
   cases h
  ·
   split at h
   ·
    split at h
    ·
     rename_i e _ _
     rw [Option.map_eq_some_iff] at h
     obtain ⟨r', h1, h2⟩ := h
     cases h2
     exact rRest_neg h1 (fun x hx => by cases hx)
    ·
     cases h
   ·
    cases h
 ·
  cases h
theorem rGo1_lt (its : List RIt) (top : Int) (l : List Int) (i : Nat) (b m : Int) (c : List Int) (hb : b = -1 ∨ 0 ≤ b ∧ b < i + c.length) : (rGo1 its top l i b m c).1 = -1 ∨ 0 ≤ (rGo1 its top l i b m c).1 ∧ (rGo1 its top l i b m c).1 < i + c.length := by
 induction c generalizing i b m with
 | nil => simpa [rGo1] using hb
 | cons x c ih =>
  unfold rGo1
  simp only [List.length_cons] at hb ⊢
  split
  ·
   split
   ·
    have := ih (i + 1) (i : Int) (m + 1) (by omega)
    omega
   ·
    have := ih (i + 1) b (m + 1) (by omega)
    omega
  ·
   have := ih (i + 1) b m (by omega)
   omega
theorem rGo2_lt (its : List RIt) (l : List Int) (i : Nat) (b : Int) (c : List Int) (hb : b = -1 ∨ 0 ≤ b ∧ b < i + c.length) : rGo2 its l i b c = -1 ∨ 0 ≤ rGo2 its l i b c ∧ rGo2 its l i b c < i + c.length := by
 induction c generalizing i b with
 | nil => simpa [rGo2] using hb
 | cons x c ih =>
  unfold rGo2
  simp only [List.length_cons] at hb ⊢
  split
  ·
   have := ih (i + 1) (i : Int) (by omega)
   omega
  ·
   have := ih (i + 1) b (by omega)
   omega
theorem rGoes_lt (its : List RIt) (l : List Int) (top : Int) : rGoes its l top = -1 ∨ 0 ≤ rGoes its l top ∧ rGoes its l top < l.length := by
 unfold rGoes
 split
 ·
  have := rGo1_lt its top l 0 (-1) 0 l (.inl rfl)
  omega
 ·
  have := rGo2_lt its l 0 (-1) l (.inl rfl)
  omega
theorem rSrt_mem {out at_ l ks : List Int} {x : Int} (h : x ∈ rSrt out at_ l ks) : x ∈ out ∨ x ∈ l := by
 induction l generalizing out at_ ks with
 | nil =>
  unfold rSrt at h
  exact .inl h
 | cons y l ih =>
  cases ks with
  | nil =>
   unfold rSrt at h
   exact .inl h
  | cons k ks =>
   unfold rSrt at h
   rcases ih h with h | h
   ·
    rcases List.mem_append.1 h with h | h
    ·
     rcases List.mem_append.1 h with h | h
     ·
      exact .inl (List.mem_of_mem_take h)
     ·
      exact .inr (by rw [List.mem_singleton.1 h]; exact List.mem_cons_self ..)
    ·
     exact .inl (List.mem_of_mem_drop h)
   ·
    exact .inr (List.mem_cons_of_mem _ h)
theorem rSorted_mem {l ks : List Int} {x : Int} (h : x ∈ rSorted l ks) : x ∈ l := by
 rcases rSrt_mem h with h | h
 ·
  cases h
 ·
  exact h
end Go.Proofs.YtiodfolcnnkdjaaGreat
namespace Go.Proofs.YtiodfolcnnkdjaaGreat
open Go.RowKit

def rVars (its : List RIt) (l : List Int) : List Int := (l.filter fun x => decide (0 < rL its x)).map fun x => (litV x : Int)
def rLits (its : List RIt) (s : RSt) : List Int := rSorted s.l (s.l.map fun x => -(rP its (litV x)))
def rBack (its : List RIt) (s : RSt) : Int := if 1 < s.l.length then rL its ((rLits its s).getD 1 0) else 0
def rLevels (its : List RIt) (c : List Int) : Int := if clauseB c = true then ((rLvs its [] c).length : Nat) else 0
def rMet (its : List RIt) (s : RSt) : List Int := rSorted (rVars its s.met) (rVars its s.met)
def rHints (id : Int) (s : RSt) : List Int := rSorted s.hints s.keys ++ [id]
end Go.Proofs.YtiodfolcnnkdjaaGreat
