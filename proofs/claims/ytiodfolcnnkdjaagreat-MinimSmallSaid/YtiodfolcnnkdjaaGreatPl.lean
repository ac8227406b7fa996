/- How many different numbers there are in a list: sorted, and compacted. -/
import Derived.Test.YtiodfolcnnkdjaaGreatAp
import Derived.Test.YtiodfolcnnkdjaaGreatPq
namespace Go.Proofs.YtiodfolcnnkdjaaGreat
open Go

theorem posOf_append (l : List Ent) (e : Ent) (j : Int) : posOf (l ++ [e]) j = if posOf l j < l.length then posOf l j else if e.id < j then l.length + 1 else l.length := by
  induction l with
  | nil => simp [posOf]
  | cons x l ih =>
    simp only [List.cons_append, posOf, List.length_cons]
    by_cases hx : x.id < j
    · simp only [hx, if_true, ih]
      by_cases h1 : posOf l j < l.length
      · simp only [if_pos h1, if_pos (Nat.succ_lt_succ h1)]
      · simp only [if_neg h1, if_neg (fun h => h1 (Nat.lt_of_succ_lt_succ h))]
        split <;> rfl
    · simp only [hx, if_false]
      rw [if_pos (Nat.succ_pos _)]
theorem posOf_all {l : List Ent} {j : Int} (h : ∀ e ∈ l, e.id < j) : posOf l j = l.length := by
  induction l with
  | nil => rfl
  | cons x l ih => simp only [posOf, if_pos (h x (List.mem_cons_self ..)), ih (fun e he => h e (List.mem_cons_of_mem _ he)), List.length_cons]
theorem posOf_set {l : List Ent} {p : Nat} {e x : Ent} (hp : l[p]? = some e) (hx : x.id = e.id) (j : Int) : posOf (l.set p x) j = posOf l j := by
  induction l generalizing p with
  | nil => rfl
  | cons y l ih =>
    cases p with
    | zero =>
      obtain rfl : y = e := by simpa using hp
      simp only [List.set_cons_zero, posOf, hx]
    | succ p => simp only [List.set_cons_succ, posOf, ih (by simpa using hp)]

/-- what an arena's entries keep -/
structure Arn.Inv (A : Arn) : Prop where
  last : ∀ e ∈ A.all, e.id ≤ A.last
  span : ∀ e ∈ A.all, e.fr ≤ e.upto ∧ e.upto ≤ A.store.length
  low : 0 ≤ A.last
theorem Arn.Ok.inv {A : Arn} (h : A.Ok) : A.Inv := ⟨h.last, fun e he => ⟨(h.each e he).2.2.1, (h.each e he).2.2.2⟩, h.nums.2.2.1⟩
theorem inv0 : arn0.Inv := ⟨fun e h => (by cases h), fun e h => (by cases h), Int.le_refl 0⟩
theorem Arn.Inv.add {A : Arn} (h : A.Inv) {id : Int} (c : List Int) (hid : A.last < id) : (A.add id c).Inv := by
  refine ⟨fun e he => ?_, fun e he => ?_, ?_⟩
  · rcases List.mem_append.1 he with he | he
    · have := h.last e he
      show e.id ≤ id
      omega
    · obtain rfl := List.mem_singleton.1 he
      exact Int.le_refl _
  · rcases List.mem_append.1 he with he | he
    · have := h.span e he
      show e.fr ≤ e.upto ∧ e.upto ≤ (A.store ++ c).length
      rw [List.length_append]
      omega
    · obtain rfl := List.mem_singleton.1 he
      show A.store.length ≤ A.store.length + c.length ∧ A.store.length + c.length ≤ (A.store ++ c).length
      rw [List.length_append]
      omega
  · have := h.low
    show (0 : Int) ≤ id
    omega
theorem Arn.Inv.gone {A : Arn} (h : A.Inv) {j : Int} (hj : A.last < j) : A.get j = none := by
  have hp : posOf A.all j = A.all.length := posOf_all (fun e he => by have := h.last e he; omega)
  have hf : A.find j = Option.none := by
    unfold Arn.find
    rw [hp, List.getElem?_eq_none (Nat.le_refl _)]
    split <;> rfl
  unfold Arn.get Arn.ent
  rw [hf]
theorem Arn.get_low (A : Arn) {j : Int} (hj : j < 1) : A.get j = none := by
  have hf : A.find j = Option.none := by
    unfold Arn.find
    rw [if_neg (by omega)]
  unfold Arn.get Arn.ent
  rw [hf]
theorem Arn.Inv.get_add {A : Arn} (h : A.Inv) {id : Int} (c : List Int) (hid : A.last < id) (h2 : id ≤ 1073741824) : (A.add id c).get id = some c := by
  have hp : posOf A.all id = A.all.length := posOf_all (fun e he => by have := h.last e he; omega)
  have hlow := h.low
  have hf : (A.add id c).find id = some A.all.length := by
    unfold Arn.find Arn.add
    simp only [posOf_append, hp, Nat.lt_irrefl, if_false, Int.lt_irrefl]
    rw [if_pos (by omega)]
    simp
  unfold Arn.get Arn.ent
  rw [hf]
  simp [Arn.add]
theorem Arn.Inv.get_add_ne {A : Arn} (h : A.Inv) {id j : Int} (c : List Int) (hj : j ≠ id) : (A.add id c).get j = A.get j := by
  by_cases hp : posOf A.all j < A.all.length
  · have hx := List.getElem?_eq_getElem hp
    have hf : (A.add id c).find j = A.find j := by
      unfold Arn.find Arn.add
      simp only [posOf_append, if_pos hp, List.getElem?_append_left hp]
    unfold Arn.get Arn.ent
    rw [hf]
    cases hq : A.find j with
    | none => rfl
    | some p =>
      obtain ⟨x, hx, _, _⟩ := Arn.find_lt hq
      have hpl : p < A.all.length := (List.getElem?_eq_some_iff.1 hx).1
      have hsp := h.span x (List.mem_of_getElem? hx)
      simp only [Arn.add, List.getElem?_append_left hpl, hx]
      congr 1
      rw [List.drop_append_of_le_length (by omega), List.take_append_of_le_length (by rw [List.length_drop]; omega)]
  · have h1 : A.find j = none := by
      unfold Arn.find
      rw [List.getElem?_eq_none (by omega)]
      split <;> rfl
    have h2 : (A.add id c).find j = none := by
      unfold Arn.find Arn.add
      simp only [posOf_append, if_neg hp]
      by_cases hlt : id < j
      · simp only [if_pos hlt, List.getElem?_eq_none (show (A.all ++ [(⟨A.store.length, A.store.length + c.length, id, false⟩ : Ent)]).length ≤ A.all.length + 1 by simp)]
        split <;> rfl
      · simp only [if_neg hlt, List.getElem?_append_right (Nat.le_refl _), Nat.sub_self, List.getElem?_cons_zero]
        split
        · rw [if_neg (fun hh => hj hh.1.symm)]
        · rfl
    unfold Arn.get Arn.ent
    rw [h1, h2]

/-- what is there behind the clauses of Put -/
theorem addAll_get (cs : List (List Int)) (A : Arn) (i : Nat) (h : A.Inv) (hl : A.last ≤ i) (hn : i + cs.length ≤ 1000) (j : Int) :
    (addAll A i cs).get j = (if (i : Int) < j then (cs[(j - i - 1).toNat]?).bind (fun c => if clauseB c = true then some c else none) else A.get j) ∧ (addAll A i cs).Inv ∧ (addAll A i cs).last ≤ (i + cs.length : Nat) := by
  induction cs generalizing A i with
  | nil =>
    refine ⟨?_, h, by simpa [addAll] using hl⟩
    simp only [addAll]
    split
    · rw [h.gone (by omega)]
      simp
    · rfl
  | cons c cs ih =>
    simp only [List.length_cons] at hn
    by_cases hc : clauseB c = true
    · have hput : A.put ((i : Int) + 1) c = A.add ((i : Int) + 1) c := by unfold Arn.put; rw [if_pos hc]
      obtain ⟨e1, e2, e3⟩ := ih (A.add ((i : Int) + 1) c) (i + 1) (h.add c (by omega)) (by show (i : Int) + 1 ≤ ((i + 1 : Nat) : Int); omega) (by omega)
      simp only [addAll, hput]
      refine ⟨?_, e2, by simp only [List.length_cons]; omega⟩
      rw [e1]
      by_cases h1 : (i : Int) + 1 < j
      · rw [if_pos (by omega), if_pos (by omega)]
        obtain ⟨n, hn1⟩ : ∃ n : Nat, j = i + 1 + 1 + n := ⟨(j - i - 1 - 1).toNat, by omega⟩
        subst hn1
        rw [show ((i : Int) + 1 + 1 + n - ((i + 1 : Nat) : Int) - 1).toNat = n by omega, show ((i : Int) + 1 + 1 + n - i - 1).toNat = n + 1 by omega, List.getElem?_cons_succ]
      · rw [if_neg (by omega)]
        by_cases h2 : j = (i : Int) + 1
        · subst h2
          rw [if_pos (by omega), h.get_add c (by omega) (by omega), show ((i : Int) + 1 - i - 1).toNat = 0 by omega]
          simp [hc]
        · rw [if_neg (by omega), h.get_add_ne c h2]
    · have hput : A.put ((i : Int) + 1) c = A := by unfold Arn.put; rw [if_neg hc]
      obtain ⟨e1, e2, e3⟩ := ih A (i + 1) h (by omega) (by omega)
      simp only [addAll, hput]
      refine ⟨?_, e2, by simp only [List.length_cons]; omega⟩
      rw [e1]
      by_cases h1 : (i : Int) + 1 < j
      · rw [if_pos (by omega), if_pos (by omega)]
        obtain ⟨n, hn1⟩ : ∃ n : Nat, j = i + 1 + 1 + n := ⟨(j - i - 1 - 1).toNat, by omega⟩
        subst hn1
        rw [show ((i : Int) + 1 + 1 + n - ((i + 1 : Nat) : Int) - 1).toNat = n by omega, show ((i : Int) + 1 + 1 + n - i - 1).toNat = n + 1 by omega, List.getElem?_cons_succ]
      · rw [if_neg (by omega)]
        by_cases h2 : j = (i : Int) + 1
        · subst h2
          rw [if_pos (by omega), h.gone (by omega), show ((i : Int) + 1 - i - 1).toNat = 0 by omega]
          simp [hc]
        · rw [if_neg (by omega)]

/-- without a clause -/
def Arn.del (A : Arn) (p : Nat) (x : Ent) : Arn := ⟨A.store, A.all.set p ⟨x.fr, x.upto, x.id, true⟩, A.used - (x.upto - x.fr), A.count - 1, A.last⟩
theorem Arn.get_del {A : Arn} {id : Int} {p : Nat} {x : Ent} (hf : A.find id = some p) (hx : A.all[p]? = some x) : (A.del p x).get id = none ∧ ∀ j, j ≠ id → (A.del p x).get j = A.get j := by
  obtain ⟨x', hx', hid, hg⟩ := Arn.find_lt hf
  obtain rfl : x' = x := Option.some.inj (hx'.symm.trans hx)
  have hpl : p < A.all.length := (List.getElem?_eq_some_iff.1 hx).1
  have hpos : ∀ j, posOf (A.all.set p ⟨x'.fr, x'.upto, x'.id, true⟩) j = posOf A.all j := fun j => posOf_set (x := ⟨x'.fr, x'.upto, x'.id, true⟩) hx rfl j
  have hpp : posOf A.all id = p := by
    unfold Arn.find at hf
    split at hf
    · split at hf
      · split at hf
        · exact Option.some.inj hf
        · cases hf
      · cases hf
    · cases hf
  constructor
  · have h2 : (A.del p x').find id = none := by
      unfold Arn.find Arn.del
      simp only [hpos, hpp, List.getElem?_set_self hpl]
      split
      · rw [if_neg (fun hh => by cases hh.2)]
      · rfl
    unfold Arn.get Arn.ent
    rw [h2]
  · intro j hj
    have hne : ∀ q, A.find j = some q → q ≠ p := fun q hq e => by
      subst e
      obtain ⟨y, hy, hyi, _⟩ := Arn.find_lt hq
      obtain rfl : y = x' := Option.some.inj (hy.symm.trans hx)
      exact hj (hyi.symm.trans hid)
    have h2 : (A.del p x').find j = A.find j := by
      unfold Arn.find Arn.del
      simp only [hpos]
      by_cases hq : posOf A.all j = p
      · rw [hq, List.getElem?_set_self hpl, hx]
        split
        · show (if x'.id = j ∧ (true : Bool) = false then some p else none) = if x'.id = j ∧ x'.gone = false then some p else none
          rw [if_neg (fun hh => by cases hh.2), if_neg (fun hh => hj (hh.1.symm.trans hid))]
        · rfl
      · rw [List.getElem?_set_ne (fun e => hq e.symm)]
    unfold Arn.get Arn.ent
    rw [h2]
    cases hq : A.find j with
    | none => rfl
    | some q =>
      have := hne q hq
      simp only [Arn.del, List.getElem?_set_ne (fun e => this e.symm)]
end Go.Proofs.YtiodfolcnnkdjaaGreat
namespace Go.Proofs.YtiodfolcnnkdjaaGreat
open Go.RowKit

/-- how many different numbers -/
def dn (xs : List Int) : Nat := (Lib.compact (sortI xs)).length
theorem compact_up (d : Array Int) (n : Nat) (hs : ∀ i j, i ≤ j → j < n → d[i]! ≤ d[j]!) (m : Nat) (hm : m ≤ n) :
    (Lib.compactUpTo d m).Pairwise (· < ·) ∧ (∀ y ∈ Lib.compactUpTo d m, ∃ j, j < m ∧ y = d[j]!) ∧ ∀ j, j < m → d[j]! ∈ Lib.compactUpTo d m := by
  induction m with
  | zero => exact ⟨by simp [Lib.compactUpTo], fun y hy => by simp [Lib.compactUpTo] at hy, fun j hj => by omega⟩
  | succ m ih =>
    obtain ⟨h1, h2, h3⟩ := ih (by omega)
    rw [Lib.compactUpTo_succ]
    by_cases h0 : m = 0
    · subst h0
      have hk : Lib.keeps d 0 = true := Lib.keeps_lt_one d 0 (by omega)
      have he : Lib.compactUpTo d 0 = [] := by simp [Lib.compactUpTo]
      rw [he, hk]
      simp only [if_true, List.nil_append]
      exact ⟨List.pairwise_singleton _ _, fun y hy => ⟨0, by omega, by simpa using hy⟩, fun j hj => by
        obtain rfl : j = 0 := by omega
        simp⟩
    · by_cases hne : d[m]! = d[m - 1]!
      · rw [Lib.keeps_neg (by omega) hne]
        simp only [Bool.false_eq_true, if_false, List.append_nil]
        refine ⟨h1, fun y hy => ?_, fun j hj => ?_⟩
        · obtain ⟨j, hj, e⟩ := h2 y hy
          exact ⟨j, by omega, e⟩
        · by_cases hjm : j = m
          · rw [hjm, hne]
            exact h3 (m - 1) (by omega)
          · exact h3 j (by omega)
      · rw [Lib.keeps_pos hne]
        simp only [if_true]
        refine ⟨List.pairwise_append.2 ⟨h1, List.pairwise_singleton _ _, fun y hy z hz => ?_⟩, fun y hy => ?_, fun j hj => ?_⟩
        · obtain ⟨j, hj, rfl⟩ := h2 y hy
          obtain rfl := List.mem_singleton.1 hz
          have a1 := hs j (m - 1) (by omega) (by omega)
          have a2 := hs (m - 1) m (by omega) (by omega)
          omega
        · rcases List.mem_append.1 hy with hy | hy
          · obtain ⟨j, hj, e⟩ := h2 y hy
            exact ⟨j, by omega, e⟩
          · exact ⟨m, by omega, List.mem_singleton.1 hy⟩
        · by_cases hjm : j = m
          · rw [hjm]
            exact List.mem_append_right _ (List.mem_singleton.2 rfl)
          · exact List.mem_append_left _ (h3 j (by omega))
theorem sortI_sorted (xs : List Int) : (sortI xs).Pairwise (· ≤ ·) := by
  have := List.pairwise_mergeSort (le := fun x y : Int => decide (x ≤ y)) (fun a b c h1 h2 => by simp at *; omega) (fun a b => by simp; omega) xs
  exact this.imp (fun h => by simpa using h)
theorem sortI_mem (xs : List Int) (x : Int) : x ∈ sortI xs ↔ x ∈ xs := (List.mergeSort_perm xs _).mem_iff
theorem dn_nodup (xs : List Int) : (Lib.compact (sortI xs)).Nodup ∧ ∀ x, x ∈ Lib.compact (sortI xs) ↔ x ∈ xs := by
  have hs : ∀ i j, i ≤ j → j < (sortI xs).length → (sortI xs).toArray[i]! ≤ (sortI xs).toArray[j]! := by
    intro i j hij hj
    have hi : i < (sortI xs).length := by omega
    rw [show (sortI xs).toArray[i]! = (sortI xs)[i] by simp [hi], show (sortI xs).toArray[j]! = (sortI xs)[j] by simp [hj]]
    rcases Nat.eq_or_lt_of_le hij with rfl | hlt
    · exact Int.le_refl _
    · exact List.pairwise_iff_getElem.1 (sortI_sorted xs) i j hi hj hlt
  obtain ⟨h1, h2, h3⟩ := compact_up (sortI xs).toArray (sortI xs).length hs (sortI xs).length (Nat.le_refl _)
  refine ⟨h1.imp (fun h => by omega), fun x => ⟨fun hx => ?_, fun hx => ?_⟩⟩
  · obtain ⟨j, hj, rfl⟩ := h2 x hx
    rw [show (sortI xs).toArray[j]! = (sortI xs)[j] by simp [hj]]
    exact (sortI_mem xs _).1 (List.getElem_mem hj)
  · obtain ⟨j, hj, rfl⟩ := List.getElem_of_mem ((sortI_mem xs x).2 hx)
    have := h3 j hj
    rwa [show (sortI xs).toArray[j]! = (sortI xs)[j] by simp [hj]] at this
theorem dn_le {xs ys : List Int} (h : ∀ x ∈ xs, x ∈ ys) : dn xs ≤ dn ys :=
  List.Nodup.length_le_of_subset (dn_nodup xs).1 (fun x hx => ((dn_nodup ys).2 x).2 (h x (((dn_nodup xs).2 x).1 hx)))
theorem dn_len (xs : List Int) : dn xs ≤ xs.length := List.Nodup.length_le_of_subset (dn_nodup xs).1 (fun x hx => ((dn_nodup xs).2 x).1 hx)
theorem dn_append (xs ys : List Int) : dn (xs ++ ys) ≤ dn xs + dn ys := by
  unfold dn
  rw [← List.length_append]
  refine List.Nodup.length_le_of_subset (dn_nodup (xs ++ ys)).1 (fun x hx => ?_)
  rcases List.mem_append.1 (((dn_nodup (xs ++ ys)).2 x).1 hx) with h | h
  · exact List.mem_append_left _ (((dn_nodup xs).2 x).2 h)
  · exact List.mem_append_right _ (((dn_nodup ys).2 x).2 h)
theorem dn_seen {xs seen : List Int} (hn : seen.Nodup) (h : ∀ x, x ∈ seen ↔ x ∈ xs) : dn xs = seen.length := by
  refine Nat.le_antisymm ?_ ?_
  · exact List.Nodup.length_le_of_subset (dn_nodup xs).1 (fun x hx => (h x).2 (((dn_nodup xs).2 x).1 hx))
  · exact List.Nodup.length_le_of_subset hn (fun x hx => ((dn_nodup xs).2 x).2 ((h x).1 hx))
theorem dn_bound {xs : List Int} {n : Nat} (h : ∀ x ∈ xs, 1 ≤ x ∧ x ≤ (n : Int)) : dn xs ≤ n := by
  have hl : ((List.range n).map fun k : Nat => (k : Int) + 1).length = n := by simp
  rw [← hl]
  refine List.Nodup.length_le_of_subset (dn_nodup xs).1 (fun x hx => ?_)
  have hx' := h x (((dn_nodup xs).2 x).1 hx)
  exact List.mem_map.2 ⟨(x - 1).toNat, List.mem_range.2 (by omega), by omega⟩
end Go.Proofs.YtiodfolcnnkdjaaGreat
