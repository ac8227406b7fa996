/- The watch, plainly: bounds and links, and what keeps them. Rising rows of integers: a number's place, put in, taken out. -/
import Derived.Test.YtoojmhjagipmdaaGreatU005
import Derived.Test.YtoojmhjagipmdaaGreatShelf
import Derived.Test.YtoojmhjagipmdaaGreatU004
import Derived.Shelf.SlSortFuncK.RowK2
import Derived.Deep.Upon
namespace Go.Proofs.YtoojmhjagipmdaaGreat
open Go.RowKit

/-! ### bounds and links -/
theorem countP_le_len (r : List Int) (x : Int) : r.countP (· < x) ≤ r.length := List.countP_le_length
/-- in a rising list the numbers below x come first -/
theorem up_split {r : List Int} (h : r.Pairwise (· < ·)) (x : Int) : (∀ y ∈ r.take (r.countP (· < x)), y < x) ∧ (∀ y ∈ r.drop (r.countP (· < x)), x ≤ y) := by
  induction r with
  | nil => simp
  | cons z r ih =>
    obtain ⟨h1, h2⟩ := List.pairwise_cons.1 h
    obtain ⟨i1, i2⟩ := ih h2
    by_cases hz : z < x
    · rw [List.countP_cons_of_pos (by simpa using hz)]
      constructor
      · intro y hy
        rw [List.take_succ_cons] at hy
        rcases List.mem_cons.1 hy with rfl | hy
        · exact hz
        · exact i1 y hy
      · intro y hy
        rw [List.drop_succ_cons] at hy
        exact i2 y hy
    · have h0 : (z :: r).countP (· < x) = 0 := by
        rw [List.countP_eq_zero]
        intro y hy
        rcases List.mem_cons.1 hy with rfl | hy
        · simpa using hz
        · have := h1 y hy
          simp
          omega
      rw [h0]
      constructor
      · simp
      · intro y hy
        rcases List.mem_cons.1 hy with rfl | hy
        · omega
        · have := h1 y hy
          omega
theorem insI_mem {r : List Int} {x y : Int} : y ∈ insI r x ↔ y = x ∨ y ∈ r := by
  unfold insI
  rw [List.mem_append, List.mem_cons]
  have : y ∈ r ↔ y ∈ r.take (r.countP (· < x)) ∨ y ∈ r.drop (r.countP (· < x)) := by
    rw [← List.mem_append, List.take_append_drop]
  rw [this]
  constructor
  · rintro (h | h | h)
    · exact .inr (.inl h)
    · exact .inl h
    · exact .inr (.inr h)
  · rintro (h | h | h)
    · exact .inr (.inl h)
    · exact .inl h
    · exact .inr (.inr h)
theorem insI_up {r : List Int} (h : r.Pairwise (· < ·)) {x : Int} (hx : x ∉ r) : (insI r x).Pairwise (· < ·) := by
  obtain ⟨h1, h2⟩ := up_split h x
  unfold insI
  rw [List.pairwise_append]
  refine ⟨h.sublist (List.take_sublist _ _), ?_, ?_⟩
  · rw [List.pairwise_cons]
    refine ⟨fun y hy => ?_, h.sublist (List.drop_sublist _ _)⟩
    have := h2 y hy
    have : y ≠ x := fun e => hx (e ▸ List.mem_of_mem_drop hy)
    omega
  · intro a ha b hb
    have := h1 a ha
    rcases List.mem_cons.1 hb with rfl | hb
    · exact this
    · have := h2 b hb
      omega
theorem insI_length (r : List Int) (x : Int) : (insI r x).length = r.length + 1 := by
  unfold insI
  have := countP_le_len r x
  simp
  omega
theorem up_at {r : List Int} (h : r.Pairwise (· < ·)) {x : Int} (hx : x ∈ r) : r[r.countP (· < x)]? = some x := by
  obtain ⟨h1, h2⟩ := up_split h x
  have hm : x ∈ r.drop (r.countP (· < x)) := by
    have : x ∈ r.take (r.countP (· < x)) ∨ x ∈ r.drop (r.countP (· < x)) := by
      rw [← List.mem_append, List.take_append_drop]
      exact hx
    rcases this with h | h
    · have := h1 x h
      omega
    · exact h
  have hs := h.sublist (List.drop_sublist (r.countP (· < x)) r)
  cases hd : r.drop (r.countP (· < x)) with
  | nil => rw [hd] at hm; cases hm
  | cons z t =>
    rw [hd] at hm hs h2
    have hz : z = x := by
      rcases List.mem_cons.1 hm with e | e
      · exact e.symm
      · have := (List.pairwise_cons.1 hs).1 x e
        have := h2 z List.mem_cons_self
        omega
    have : (r.drop (r.countP (· < x)))[0]? = some z := by rw [hd]; rfl
    rw [List.getElem?_drop, Nat.add_zero] at this
    rw [this, hz]
theorem remI_eq {r : List Int} (h : r.Pairwise (· < ·)) (x : Int) : remI r x = r.filter fun y => decide (y ≠ x) := by
  unfold remI
  split
  · rename_i hc
    have hx : x ∈ r := by simpa using hc
    have hat := up_at h hx
    generalize hn : r.countP (· < x) = n at hat
    clear hn hc
    induction r generalizing n with
    | nil => cases hx
    | cons z r ih =>
      obtain ⟨h1, h2⟩ := List.pairwise_cons.1 h
      cases n with
      | zero =>
        obtain rfl : z = x := by simpa using hat
        rw [List.eraseIdx_cons_zero, List.filter_cons_of_neg (by simp), List.filter_eq_self.2]
        intro a ha
        have := h1 a ha
        simp
        omega
      | succ n =>
        rw [List.getElem?_cons_succ] at hat
        have hm := List.mem_of_getElem? hat
        have := h1 x hm
        rw [List.eraseIdx_cons_succ, List.filter_cons_of_pos (by simp; omega), ih h2 hm n hat]
  · rename_i hc
    have hx : x ∉ r := by simpa using hc
    rw [List.filter_eq_self.2]
    intro a ha
    simp
    rintro rfl
    exact hx ha
structure Wst.Bnd (S : Wst) : Prop where
  kr : Rising S.known
  kb : ∀ p ∈ S.known, 1 ≤ p.1 ∧ p.1 ≤ 1073741824
  kl : ∀ p ∈ S.known, (p.2.by_ = [] ∨ ∃ a b, a ≠ b ∧ p.2.by_ = [a, b] ∧ a ∈ p.2.lits ∧ b ∈ p.2.lits) ∧ p.2.lits.length ≤ 4096 ∧ ∀ l ∈ p.2.lits, litB l = true
  orr : Rising S.of
  ob : ∀ p ∈ S.of, litB p.1 = true ∧ p.2.Pairwise (· < ·) ∧ ∀ x ∈ p.2, 1 ≤ x ∧ x ≤ 1073741824
def Wst.Link (S : Wst) : Prop := ∀ l id, id ∈ S.row l ↔ ∃ k, S.kn id = some k ∧ l ∈ k.by_
theorem Wst.Bnd.row {S : Wst} (h : S.Bnd) (l : Int) : (S.row l).Pairwise (· < ·) ∧ ∀ x ∈ S.row l, 1 ≤ x ∧ x ≤ 1073741824 := by
  unfold Wst.row
  cases hg : getA S.of l with
  | none => exact ⟨List.Pairwise.nil, fun x hx => by cases hx⟩
  | some r => exact (h.ob _ (getA_some hg)).2
theorem Wst.Bnd.kn {S : Wst} (h : S.Bnd) {id : Int} {k : Kn} (hk : S.kn id = some k) : (1 ≤ id ∧ id ≤ 1073741824) ∧ (k.by_ = [] ∨ ∃ a b, a ≠ b ∧ k.by_ = [a, b] ∧ a ∈ k.lits ∧ b ∈ k.lits) ∧ k.lits.length ≤ 4096 ∧ ∀ l ∈ k.lits, litB l = true :=
  ⟨h.kb _ (getA_some hk), h.kl _ (getA_some hk)⟩
theorem up_len {r : List Int} (h : r.Pairwise (· < ·)) {lo hi : Int} (hb : ∀ x ∈ r, lo ≤ x ∧ x ≤ hi) (hl : lo ≤ hi + 1) : (r.length : Int) ≤ hi - lo + 1 := by
  have := (Rising.length_le (m := r.map fun x => (x, ())) (by unfold Rising; rw [List.pairwise_map]; exact h) (lo := lo) (hi := hi) (fun p hp => by
    obtain ⟨x, hx, rfl⟩ := List.mem_map.1 hp
    exact hb x hx) hl)
  rwa [List.length_map] at this
theorem Wst.Bnd.rowLen {S : Wst} (h : S.Bnd) (l : Int) : (S.row l).length ≤ 1073741824 := by
  obtain ⟨h1, h2⟩ := h.row l
  have := up_len h1 h2 (by omega)
  omega
theorem Wst.Bnd.knownLen {S : Wst} (h : S.Bnd) : S.known.length ≤ 1073741824 := by
  have := h.kr.length_le h.kb (by omega)
  omega
theorem Wst.Bnd.ofLen {S : Wst} (h : S.Bnd) : S.of.length ≤ 2097153 := by
  have := h.orr.length_le (lo := -1048576) (hi := 1048576) (fun p hp => by
    have := (h.ob p hp).1
    unfold litB at this
    rw [decide_eq_true_eq] at this
    omega) (by omega)
  omega
theorem putA_mem {α : Type} {m : List (Int × α)} {x : Int} {v : α} {p : Int × α} : p ∈ putA m x v ↔ p = (x, v) ∨ (p ∈ m ∧ p.1 ≠ x) := by
  unfold putA
  rw [insA_mem, delA_mem]
theorem Wst.Bnd.set {S : Wst} (h : S.Bnd) {id : Int} {k : Kn} (hid : 1 ≤ id ∧ id ≤ 1073741824) (hk : (k.by_ = [] ∨ ∃ a b, a ≠ b ∧ k.by_ = [a, b] ∧ a ∈ k.lits ∧ b ∈ k.lits) ∧ k.lits.length ≤ 4096 ∧ ∀ l ∈ k.lits, litB l = true) : (S.set id k).Bnd where
  kr := h.kr.put _ _
  kb := fun p hp => by
    rcases putA_mem.1 hp with rfl | hp
    · exact hid
    · exact h.kb p hp.1
  kl := fun p hp => by
    rcases putA_mem.1 hp with rfl | hp
    · exact hk
    · exact h.kl p hp.1
  orr := h.orr
  ob := h.ob
theorem Wst.Bnd.put {S : Wst} (h : S.Bnd) {l id : Int} (hid : 1 ≤ id ∧ id ≤ 1073741824) (hl : litB l = true) (hn : id ∉ S.row l) : (S.put l id).Bnd where
  kr := h.kr
  kb := h.kb
  kl := h.kl
  orr := h.orr.put _ _
  ob := fun p hp => by
    rcases putA_mem.1 hp with rfl | hp
    · refine ⟨hl, insI_up (h.row l).1 hn, fun x hx => ?_⟩
      rcases insI_mem.1 hx with rfl | hx
      · exact hid
      · exact (h.row l).2 x hx
    · exact h.ob p hp.1
theorem remI_mem {r : List Int} (h : r.Pairwise (· < ·)) {x y : Int} : y ∈ remI r x ↔ y ∈ r ∧ y ≠ x := by
  rw [remI_eq h, List.mem_filter, decide_eq_true_eq]
theorem Wst.Bnd.drop {S : Wst} (h : S.Bnd) (l id : Int) : (S.drop l id).Bnd := by
  unfold Wst.drop
  split
  · rename_i hc
    have hm : id ∈ S.row l := by simpa using hc
    have hr := h.row l
    refine ⟨h.kr, h.kb, h.kl, h.orr.put _ _, fun p hp => ?_⟩
    rcases putA_mem.1 hp with rfl | hp
    · have hl : litB l = true := by
        unfold Wst.row at hm
        cases hg : getA S.of l with
        | none => rw [hg] at hm; cases hm
        | some r => exact (h.ob _ (getA_some hg)).1
      refine ⟨hl, ?_, fun x hx => ?_⟩
      · rw [remI_eq hr.1]
        exact hr.1.filter _
      · exact hr.2 x ((remI_mem hr.1).1 hx).1
    · exact h.ob p hp.1
  · exact h
theorem Wst.Bnd.del {S : Wst} (h : S.Bnd) (id : Int) : (S.del id).Bnd :=
  ⟨h.kr.del _, fun p hp => h.kb p (delA_mem.1 hp).1, fun p hp => h.kl p (delA_mem.1 hp).1, h.orr, h.ob⟩
theorem Wst.row_put {S : Wst} (h : S.Bnd) (l id m : Int) : (S.put l id).row m = if m = l then insI (S.row l) id else S.row m := by
  unfold Wst.put Wst.row
  rw [getA_put h.orr]
  split <;> rfl
theorem Wst.row_drop {S : Wst} (h : S.Bnd) (l id m : Int) : (S.drop l id).row m = if m = l then remI (S.row l) id else S.row m := by
  unfold Wst.drop
  split
  · show (getA (putA S.of l _) m).getD [] = _
    rw [getA_put h.orr]
    split <;> rfl
  · rename_i hc
    split
    · rename_i e
      subst e
      unfold remI
      rw [if_neg hc]
    · rfl
theorem Wst.kn_drop (S : Wst) (l id j : Int) : (S.drop l id).kn j = S.kn j := by
  unfold Wst.drop
  split <;> rfl
theorem Wst.kn_set {S : Wst} (h : S.Bnd) (id : Int) (k : Kn) (j : Int) : (S.set id k).kn j = if j = id then some k else S.kn j := getA_put h.kr _ _ _
theorem Wst.kn_del {S : Wst} (h : S.Bnd) (id j : Int) : (S.del id).kn j = if j = id then none else S.kn j := getA_del h.kr _ _
theorem Wst.row_set (S : Wst) (id : Int) (k : Kn) (m : Int) : (S.set id k).row m = S.row m := rfl
theorem Wst.kn_put (S : Wst) (l id j : Int) : (S.put l id).kn j = S.kn j := rfl
theorem mem_row_put {S : Wst} (h : S.Bnd) (l id m x : Int) : x ∈ (S.put l id).row m ↔ (m = l ∧ x = id) ∨ x ∈ S.row m := by
  rw [Wst.row_put h]
  split
  · rename_i e
    subst e
    rw [insI_mem]
    constructor
    · rintro (h | h)
      · exact .inl ⟨rfl, h⟩
      · exact .inr h
    · rintro (h | h)
      · exact .inl h.2
      · exact .inr h
  · rename_i e
    constructor
    · exact .inr
    · rintro (h | h)
      · exact absurd h.1 e
      · exact h
theorem mem_row_drop {S : Wst} (h : S.Bnd) (l id m x : Int) : x ∈ (S.drop l id).row m ↔ x ∈ S.row m ∧ ¬ (m = l ∧ x = id) := by
  rw [Wst.row_drop h]
  split
  · rename_i e
    subst e
    rw [remI_mem (h.row _).1]
    constructor
    · rintro ⟨h1, h2⟩
      exact ⟨h1, fun e => h2 e.2⟩
    · rintro ⟨h1, h2⟩
      exact ⟨h1, fun e => h2 ⟨rfl, e⟩⟩
  · rename_i e
    constructor
    · exact fun h => ⟨h, fun e' => e e'.1⟩
    · exact fun h => h.1
theorem Wst.Link.none {S : Wst} (h : S.Link) {id : Int} (hn : S.kn id = none) (l : Int) : id ∉ S.row l := fun hm => by
  obtain ⟨k, hk, _⟩ := (h l id).1 hm
  rw [hn] at hk
  cases hk
/-- a clause that is watched by two -/
theorem watch_two {S : Wst} (h : S.Bnd) (hL : S.Link) {id a b : Int} {c : List Int} (hn : S.kn id = none) (hid : 1 ≤ id ∧ id ≤ 1073741824) (hc : c.length ≤ 4096 ∧ ∀ l ∈ c, litB l = true) (hab : a ≠ b) (ha : a ∈ c) (hb : b ∈ c) :
    (S.set id ⟨[a, b], c⟩).Bnd ∧ id ∉ (S.set id ⟨[a, b], c⟩).row a ∧ ((S.set id ⟨[a, b], c⟩).put a id).Bnd ∧ id ∉ ((S.set id ⟨[a, b], c⟩).put a id).row b ∧ (((S.set id ⟨[a, b], c⟩).put a id).put b id).Bnd ∧ (((S.set id ⟨[a, b], c⟩).put a id).put b id).Link := by
  have h1 : (S.set id ⟨[a, b], c⟩).Bnd := h.set hid ⟨.inr ⟨a, b, hab, rfl, ha, hb⟩, hc⟩
  have h2 : id ∉ (S.set id ⟨[a, b], c⟩).row a := hL.none hn a
  have h3 := h1.put hid (hc.2 a ha) h2
  have h4 : id ∉ ((S.set id ⟨[a, b], c⟩).put a id).row b := fun hm => by
    rcases (mem_row_put h1 _ _ _ _).1 hm with h | h
    · exact hab h.1.symm
    · exact hL.none hn b h
  refine ⟨h1, h2, h3, h4, h3.put hid (hc.2 b hb) h4, fun l j => ?_⟩
  rw [mem_row_put h3, mem_row_put h1, Wst.row_set, Wst.kn_put, Wst.kn_put, Wst.kn_set h, hL l j]
  by_cases hj : j = id
  · subst hj
    rw [if_pos rfl, hn]
    constructor
    · rintro (h | h | h)
      · exact ⟨_, rfl, by rw [h.1]; simp⟩
      · exact ⟨_, rfl, by rw [h.1]; simp⟩
      · obtain ⟨k, hk, _⟩ := h
        cases hk
    · rintro ⟨k, hk, hl⟩
      obtain rfl := Option.some.inj hk
      rcases List.mem_cons.1 hl with e | hl
      · exact .inr (.inl ⟨e, rfl⟩)
      · exact .inl ⟨List.mem_singleton.1 hl, rfl⟩
  · rw [if_neg hj]
    constructor
    · rintro (h | h | h)
      · exact absurd h.2 hj
      · exact absurd h.2 hj
      · exact h
    · exact fun h => .inr (.inr h)
/-- one that is watched by none -/
theorem watch_none {S : Wst} (h : S.Bnd) (hL : S.Link) {id : Int} {c : List Int} (hn : S.kn id = none) (hid : 1 ≤ id ∧ id ≤ 1073741824) (hc : c.length ≤ 4096 ∧ ∀ l ∈ c, litB l = true) :
    (S.set id ⟨[], c⟩).Bnd ∧ (S.set id ⟨[], c⟩).Link := by
  refine ⟨h.set hid ⟨.inl rfl, hc⟩, fun l j => ?_⟩
  rw [Wst.row_set, Wst.kn_set h, hL l j]
  by_cases hj : j = id
  · subst hj
    rw [if_pos rfl, hn]
    constructor
    · rintro ⟨k, hk, _⟩
      cases hk
    · rintro ⟨k, hk, hl⟩
      obtain rfl := Option.some.inj hk
      cases hl
  · rw [if_neg hj]
theorem dropAll_bnd (id : Int) (ls : List Int) {S : Wst} (h : S.Bnd) : (S.dropAll id ls).Bnd ∧ (∀ j, (S.dropAll id ls).kn j = S.kn j) ∧ ∀ l x, x ∈ (S.dropAll id ls).row l ↔ x ∈ S.row l ∧ ¬ (l ∈ ls ∧ x = id) := by
  induction ls generalizing S with
  | nil => exact ⟨h, fun j => rfl, fun l x => by simp [Wst.dropAll]⟩
  | cons y r ih =>
    obtain ⟨h1, h2, h3⟩ := ih (h.drop y id)
    refine ⟨h1, fun j => (h2 j).trans (Wst.kn_drop _ _ _ _), fun l x => ?_⟩
    show x ∈ ((S.drop y id).dropAll id r).row l ↔ _
    rw [h3, mem_row_drop h, List.mem_cons]
    constructor
    · rintro ⟨⟨h1, h2⟩, h3⟩
      exact ⟨h1, fun ⟨e, ex⟩ => e.elim (fun e => h2 ⟨e, ex⟩) (fun e => h3 ⟨e, ex⟩)⟩
    · rintro ⟨h1, h2⟩
      exact ⟨⟨h1, fun e => h2 ⟨.inl e.1, e.2⟩⟩, fun e => h2 ⟨.inr e.1, e.2⟩⟩
theorem remove_ok {S : Wst} (h : S.Bnd) (hL : S.Link) (id : Int) : (S.remove id).Bnd ∧ (S.remove id).Link ∧ (∀ j, (S.remove id).kn j = if j = id then none else S.kn j) := by
  cases hk : S.kn id with
  | none =>
    have e : S.remove id = S := by unfold Wst.remove; rw [hk]
    rw [e]
    refine ⟨h, hL, fun j => ?_⟩
    by_cases hj : j = id
    · rw [if_pos hj, hj, hk]
    · rw [if_neg hj]
  | some k =>
    have e : S.remove id = (S.dropAll id k.by_).del id := by unfold Wst.remove; rw [hk]
    rw [e]
    obtain ⟨h1, h2, h3⟩ := dropAll_bnd id k.by_ h
    have hkn : ∀ j, ((S.dropAll id k.by_).del id).kn j = if j = id then none else S.kn j := fun j => by
      rw [Wst.kn_del h1, h2]
    refine ⟨h1.del id, fun l j => ?_, hkn⟩
    show j ∈ (S.dropAll id k.by_).row l ↔ ∃ k', ((S.dropAll id k.by_).del id).kn j = some k' ∧ l ∈ k'.by_
    rw [h3, hL l j, hkn]
    by_cases hj : j = id
    · subst hj
      rw [if_pos rfl]
      constructor
      · rintro ⟨⟨k', hk', hl⟩, hn⟩
        rw [hk] at hk'
        obtain rfl := Option.some.inj hk'
        exact absurd ⟨hl, rfl⟩ hn
      · rintro ⟨k', hk', _⟩
        cases hk'
    · rw [if_neg hj]
      constructor
      · exact fun h => h.1
      · exact fun h => ⟨h, fun e => hj e.2⟩
theorem Kn.other_mem {k : Kn} {a b l : Int} (hab : a ≠ b) (hk : k.by_ = [a, b]) (hl : l ∈ k.by_) : k.other l ∈ k.by_ ∧ k.other l ≠ l ∧ ∀ x, x ∈ k.by_ ↔ x = l ∨ x = k.other l := by
  have e : k.other l = if a = l then b else a := by unfold Kn.other; rw [hk]; rfl
  rw [e, hk]
  rw [hk] at hl
  rcases List.mem_cons.1 hl with rfl | hl
  · rw [if_pos rfl]
    exact ⟨by simp, Ne.symm hab, fun x => by simp⟩
  · obtain rfl := List.mem_singleton.1 hl
    rw [if_neg hab]
    refine ⟨by simp, hab, fun x => ?_⟩
    simp
    exact Or.comm
theorem Kn.move_mem {k : Kn} {a b l : Int} (x : Int) (hk : k.by_ = [a, b]) : ∀ y, y ∈ (k.move l x).by_ ↔ y = x ∨ y = k.other l := by
  intro y
  have e : k.other l = if a = l then b else a := by unfold Kn.other; rw [hk]; rfl
  have e2 : (k.move l x).by_ = if a = l then [x, b] else [a, x] := by unfold Kn.move; rw [hk]; rfl
  rw [e, e2]
  split
  · simp
  · simp
    exact Or.comm
theorem move_ok {S : Wst} (h : S.Bnd) (hL : S.Link) {id l x : Int} {k : Kn} (hk : S.kn id = some k) (hl : l ∈ k.by_) (hx : x ∈ k.lits) (hxl : x ≠ l) (hxo : x ≠ k.other l) :
    (S.drop l id).Bnd ∧ id ∉ (S.drop l id).row x ∧ ((S.drop l id).put x id).Bnd ∧ (S.move id l x k).Bnd ∧ (S.move id l x k).Link ∧ (∀ j, (S.move id l x k).kn j = if j = id then some (k.move l x) else S.kn j) := by
  obtain ⟨hid, hby, hlen, hlit⟩ := h.kn hk
  rcases hby with h0 | ⟨a, b, hab, hab2, ha, hb⟩
  · rw [h0] at hl
    cases hl
  obtain ⟨o1, o2, o3⟩ := Kn.other_mem hab hab2 hl
  have o4 := Kn.move_mem (l := l) x hab2
  have h1 := h.drop l id
  have h2 : id ∉ (S.drop l id).row x := fun hm => by
    have := ((mem_row_drop h _ _ _ _).1 hm).1
    obtain ⟨k', hk', hx'⟩ := (hL x id).1 this
    rw [hk] at hk'
    obtain rfl := Option.some.inj hk'
    rcases (o3 x).1 hx' with e | e
    · exact hxl e
    · exact hxo e
  have h3 := h1.put hid (hlit x hx) h2
  have hmv : ((k.move l x).by_ = [] ∨ ∃ a b, a ≠ b ∧ (k.move l x).by_ = [a, b] ∧ a ∈ (k.move l x).lits ∧ b ∈ (k.move l x).lits) := by
    have e : k.other l = if a = l then b else a := by unfold Kn.other; rw [hab2]; rfl
    have e2 : (k.move l x).by_ = if a = l then [x, b] else [a, x] := by unfold Kn.move; rw [hab2]; rfl
    rw [e] at hxo
    right
    rw [e2]
    split
    · rename_i hal
      rw [if_pos hal] at hxo
      exact ⟨x, b, hxo, rfl, hx, hb⟩
    · rename_i hal
      rw [if_neg hal] at hxo
      exact ⟨a, x, Ne.symm hxo, rfl, ha, hx⟩
  have hkn : ∀ j, (S.move id l x k).kn j = if j = id then some (k.move l x) else S.kn j := fun j => by
    unfold Wst.move
    rw [Wst.kn_set h3, Wst.kn_put, Wst.kn_drop]
  refine ⟨h1, h2, h3, h3.set hid ⟨hmv, hlen, hlit⟩, fun m j => ?_, hkn⟩
  show j ∈ ((S.drop l id).put x id).row m ↔ _
  rw [mem_row_put h1, mem_row_drop h, hL m j, hkn]
  by_cases hj : j = id
  · subst hj
    rw [if_pos rfl]
    constructor
    · rintro (⟨rfl, _⟩ | ⟨⟨k', hk', hm⟩, hn⟩)
      · exact ⟨_, rfl, (o4 m).2 (.inl rfl)⟩
      · rw [hk] at hk'
        obtain rfl := Option.some.inj hk'
        refine ⟨_, rfl, (o4 m).2 (.inr ?_)⟩
        rcases (o3 m).1 hm with e | e
        · exact absurd ⟨e, rfl⟩ hn
        · exact e
    · rintro ⟨k', hk', hm⟩
      obtain rfl := Option.some.inj hk'
      rcases (o4 m).1 hm with e | e
      · exact .inl ⟨e, rfl⟩
      · refine .inr ⟨⟨k, hk, (o3 m).2 (.inr e)⟩, fun e2 => ?_⟩
        exact o2 (e.symm.trans e2.1)
  · rw [if_neg hj]
    constructor
    · rintro (h | h)
      · exact absurd h.2 hj
      · exact h.1
    · exact fun h => .inr ⟨h, fun e => hj e.2⟩
theorem lookOne_ok (A : Arn) (T : Trl) {S : Wst} (h : S.Bnd) (hL : S.Link) {l id : Int} (hm : id ∈ S.row l) : (lookOne A T S l id).2.1.Bnd ∧ (lookOne A T S l id).2.1.Link := by
  unfold lookOne
  obtain ⟨k, hk, hl⟩ := (hL l id).1 hm
  split
  · exact ⟨(remove_ok h hL id).1, (remove_ok h hL id).2.1⟩
  · rw [hk]
    simp only []
    split
    · exact ⟨h, hL⟩
    · split
      · rename_i x hx
        have h1 := List.mem_of_find?_eq_some hx
        have h2 := List.find?_some hx
        rw [Bool.and_eq_true, decide_eq_true_eq] at h2
        have := move_ok h hL hk hl h1 h2.1.1 h2.1.2
        exact ⟨this.2.2.2.1, this.2.2.2.2.1⟩
      · split
        · exact ⟨h, hL⟩
        · exact ⟨h, hL⟩
/-- what is looked at leaves the other clauses that l watches -/
theorem lookOne_row (A : Arn) (T : Trl) {S : Wst} (h : S.Bnd) (hL : S.Link) {l id j : Int} (hm : id ∈ S.row l) (hj : j ∈ S.row l) (hne : j ≠ id) : j ∈ (lookOne A T S l id).2.1.row l := by
  have hok := lookOne_ok A T h hL hm
  rw [hok.2 l j]
  obtain ⟨k, hk, hl⟩ := (hL l j).1 hj
  refine ⟨k, ?_, hl⟩
  obtain ⟨k', hk', hl'⟩ := (hL l id).1 hm
  unfold lookOne
  split
  · rw [(remove_ok h hL id).2.2, if_neg hne, hk]
  · rw [hk']
    simp only []
    split
    · exact hk
    · split
      · rename_i x hx
        have h1 := List.mem_of_find?_eq_some hx
        have h2 := List.find?_some hx
        rw [Bool.and_eq_true, decide_eq_true_eq] at h2
        have := move_ok h hL hk' hl' h1 h2.1.1 h2.1.2
        rw [this.2.2.2.2.2, if_neg hne, hk]
      · split
        · exact hk
        · exact hk
end Go.Proofs.YtoojmhjagipmdaaGreat
namespace Go.Proofs.YtoojmhjagipmdaaGreat
open Go.RowKit Go.Lib Go.Shelf Go.Sort

theorem own_of_cells {w : World} {base g n cap : Nat} {e : TypeId} {cur : Array Value} {xs : List Value} (hg : w.heap[g]? = some (.cells cur e (0, 0))) (hb : base ≤ g) (hn : n ≤ cap) (hc : cap ≤ maxLen) (hs : cur.size = cap) (hl : xs.length = n)
    (hx : ∀ j x, xs[j]? = some x → w.cell? ⟨g, j, none⟩ = some x) : w.ownsRow base e 1 (.slice (some ⟨g, 0, none⟩) n cap) n xs := by
  refine ⟨by omega, .inr ⟨g, cap, cur, rfl, hb, hg, hn, hc, by omega, ?_⟩⟩
  rw [Nat.mul_one]
  apply List.ext_getElem?
  intro j
  rw [List.getElem?_take]
  by_cases hj : j < n
  · rw [if_pos hj]
    have hjx : xs[j]? = some xs[j] := List.getElem?_eq_getElem (by omega)
    have := hx j _ hjx
    rw [mx_cell hg] at this
    rw [hjx, Array.getElem?_toList]
    exact this
  · rw [if_neg hj, List.getElem?_eq_none (by omega)]
theorem block_setCells {g : Nat} {e : TypeId} {fz : Nat × Nat} (vs : List Value) : ∀ (o : Nat) (w : World) (cur : Array Value), w.heap[g]? = some (.cells cur e fz) → ∃ cur', (w.setCells g o vs).heap[g]? = some (.cells cur' e fz) ∧ cur'.size = cur.size := by
  induction vs with
  | nil => exact fun o w cur h => ⟨cur, h, rfl⟩
  | cons v r ih =>
    intro o w cur h
    obtain ⟨c', h1, h2⟩ := ih (o + 1) (w.setCell ⟨g, o, none⟩ v) _ (mx_set h v)
    exact ⟨c', h1, by rw [h2]; simp⟩
theorem kept_setCells (w : World) (g o : Nat) (vs : List Value) : Kept (fun k => k = g) w (w.setCells g o vs) := by
  induction vs generalizing o w with
  | nil => exact Kept.refl _ _
  | cons v r ih => exact (Kept.setCell (Kept.refl (fun k => k = g) w) _ _ rfl).trans (ih _ _) (fun _ _ h => h)
theorem ints_one (r : List Int) : ∀ v ∈ r.map (Value.int .i64), v.oneCell' = true := fun v hv => by
  obtain ⟨x, _, rfl⟩ := List.mem_map.1 hv
  rfl
/-- where a number belongs in a rising row -/
theorem row_search {base : Nat} (v : Value) (r : List Int) (x : Int) (w : World) (h : w.ownsRow base 3 1 v r.length (r.map (Value.int .i64))) (hr : r.Pairwise (· < ·)) (hl : r.length ≤ 1073741824) :
    Calls Tryz.prog 148 #[v, .int .i64 x] w fun e w' => e = .returned (.tuple #[.int .i64 (r.countP (· < x) : Nat), .bool (r.contains x)]) ∧ ∃ q, w' = w.drewN q := by
  rcases h.2 with ⟨rfl, h0⟩ | ⟨g, cap, cur, rfl, hb, hg, h1, h2, h3, h4⟩
  · obtain rfl : r = [] := List.eq_nil_of_length_eq_zero h0
    refine (Tryz.slices_BinarySearch_int_empty none 0 x w).mono ?_
    rintro e w' ⟨rfl, rfl⟩
    exact ⟨rfl, 0, rfl⟩
  · refine (Tryz.slices_BinarySearch_int g 0 r.length cap r x w (Nat.le_refl _) (by omega) (fun j hj => ?_) ?_).mono ?_
    · rw [Nat.zero_add]
      refine mx_at h ?_
      rw [List.getElem?_map, List.getElem?_eq_getElem hj]
      simp [List.getD_eq_getElem?_getD, List.getElem?_eq_getElem hj]
    · rw [List.take_length]
      exact hr.imp (fun h => Int.le_of_lt h)
    · rintro e w' ⟨rfl, hq⟩
      rw [List.take_length]
      exact ⟨rfl, hq⟩
theorem row_delete {base : Nat} (v : Value) (r : List Int) (i : Nat) (w : World) (h : w.ownsRow base 3 1 v r.length (r.map (Value.int .i64))) (hi : i < r.length) :
    Calls Tryz.prog 176 #[v, .int .i64 (i : Nat), .int .i64 ((i : Int) + 1)] w fun e w' => ∃ v', e = .returned v' ∧ w'.ownsRow base 3 1 v' (r.length - 1) ((r.eraseIdx i).map (Value.int .i64)) ∧ Kept (fun g => v.ownBlock = some g) w w' ∧ v'.ownBlock = v.ownBlock := by
  rcases h.2 with ⟨rfl, h0⟩ | ⟨g, cap, cur, rfl, hb, hg, h1, h2, h3, h4⟩
  · omega
  · have hle : (r.eraseIdx i).length = r.length - 1 := by rw [List.length_eraseIdx, if_pos hi]
    have H := Tryz.slices_Delete_int g 0 cap i (i + 1) r w (st_holds hg (by simpa using h4)) h1 h2 (by omega) (by omega)
    rw [show ((i + 1 : Nat) : Int) = (i : Int) + 1 from by omega] at H
    refine H.mono ?_
    rintro e w' ⟨rfl, q, rfl⟩
    have e1 : i + 1 - i = 1 := by omega
    rw [e1, ← List.eraseIdx_eq_take_drop_succ]
    refine ⟨_, rfl, ?_, st_kept1 _, rfl⟩
    refine ⟨by simp [hle], .inr ⟨g, cap, _, rfl, hb, st_heap1 _ hg, by omega, h2, by simp [putCells, h3], ?_⟩⟩
    have ht := st_take cur (r.eraseIdx i ++ [0]) (by rw [List.length_append, hle, List.length_singleton]; omega)
    have e2 : (r.length - 1) * 1 = (r.eraseIdx i).length := by rw [hle, Nat.mul_one]
    rw [e2]
    have e3 := congrArg (List.take (r.eraseIdx i).length) ht
    rw [List.take_take, Nat.min_eq_left (by simp)] at e3
    rw [show List.replicate 1 (0 : Int) = [0] from rfl, e3, List.map_append, List.take_append_of_le_length (by simp), List.take_of_length_le (by simp)]
theorem insI_get {r : List Int} {x : Int} {i : Nat} (hi : r.countP (· < x) = i) (hil : i ≤ r.length) (j : Nat) : (insI r x)[j]? = if j < i then r[j]? else if j = i then some x else r[j - 1]? := by
  unfold insI
  rw [hi]
  have hl : (r.take i).length = i := by rw [List.length_take]; omega
  by_cases h1 : j < i
  · rw [if_pos h1, List.getElem?_append_left (by omega), List.getElem?_take, if_pos h1]
  · rw [if_neg h1, List.getElem?_append_right (by omega), hl]
    by_cases h2 : j = i
    · rw [if_pos h2, h2, Nat.sub_self]
      rfl
    · rw [if_neg h2]
      obtain ⟨k, hk⟩ : ∃ k, j - i = k + 1 := ⟨j - i - 1, by omega⟩
      rw [hk, List.getElem?_cons_succ, List.getElem?_drop]
      congr 1
      omega
/-- rows in which a number was put in, by what their cells hold -/
theorem own_insI {w : World} {base g n cap i : Nat} {cur : Array Value} {r : List Int} {x : Int} (hg : w.heap[g]? = some (.cells cur 3 (0, 0))) (hb : base ≤ g) (hn : r.length + 1 ≤ cap) (hc : cap ≤ maxLen) (hs : cur.size = cap) (hrn : r.length = n) (hi : r.countP (· < x) = i) (hil : i ≤ n)
    (h1 : ∀ j y, j < i → r[j]? = some y → w.cell? ⟨g, j, none⟩ = some (.int .i64 y)) (h2 : w.cell? ⟨g, i, none⟩ = some (.int .i64 x)) (h3 : ∀ j y, i ≤ j → r[j]? = some y → w.cell? ⟨g, j + 1, none⟩ = some (.int .i64 y)) :
    w.ownsRow base 3 1 (.slice (some ⟨g, 0, none⟩) (n + 1) cap) (n + 1) ((insI r x).map (Value.int .i64)) := by
  refine own_of_cells hg hb (by omega) hc hs (by rw [List.length_map, insI_length]; omega) (fun j u hu => ?_)
  rw [List.getElem?_map, Option.map_eq_some_iff] at hu
  obtain ⟨y, hy, rfl⟩ := hu
  rw [insI_get hi (by omega)] at hy
  split at hy
  · rename_i hj
    exact h1 j y hj hy
  · split at hy
    · rename_i hj
      rw [hj, h2, Option.some.inj hy]
    · rename_i hj hj2
      have := h3 (j - 1) y (by omega) hy
      rwa [show j - 1 + 1 = j by omega] at this
theorem zero_size (k : Nat) : (Builtin.zeroCells (Value.int .i64 0).cells k).size = k := by
  show (Builtin.zeroCells #[Value.int .i64 0] k).size = k
  simp [Builtin.zeroCells]
theorem row_insert {base vb : Nat} (v : Value) (r : List Int) (x : Int) (w : World) (h : w.ownsRow base 3 1 v r.length (r.map (Value.int .i64))) (hbase : base ≤ w.heap.size) (hvb : w.heap[vb]? = some (.cells #[.int .i64 x] 3 (0, 0))) (hne : v.ownBlock ≠ some vb) (hl : r.length ≤ 1073741824) :
    Calls Tryz.prog 149 #[v, .int .i64 (r.countP (· < x) : Nat), .slice (some ⟨vb, 0, none⟩) 1 1] w fun e w' => ∃ v', e = .returned v' ∧ w'.ownsRow base 3 1 v' (r.length + 1) ((insI r x).map (Value.int .i64)) ∧ Kept (fun g => v.ownBlock = some g) w w' ∧ (v'.ownBlock = v.ownBlock ∨ v'.ownBlock = some w.heap.size) := by
  have hvs : ∀ (W : World), Below w.heap.size w W → ∀ j u, [Value.int .i64 x][j]? = some u → W.cell? ⟨vb, 0 + j, none⟩ = some u := fun W hW j u hu => by
    match j, hu with
    | 0, hu =>
      rw [(hW.cell (p := ⟨vb, 0 + 0, none⟩) (heap_lt hvb)), mx_cell hvb]
      exact hu
  have hvs0 := hvs w (Below.refl _ _)
  have h1v : ∀ u ∈ [Value.int .i64 x], u.oneCell' = true := fun u hu => by rw [List.mem_singleton.1 hu]; rfl
  obtain ⟨i, hi⟩ : ∃ i, r.countP (· < x) = i := ⟨_, rfl⟩
  have hil : i ≤ r.length := by rw [← hi]; exact countP_le_len r x
  obtain ⟨n, hn⟩ : ∃ n, r.length = n := ⟨_, rfl⟩
  have hget : ∀ j y, r[j]? = some y → (r.map (Value.int .i64))[j]? = some (Value.int .i64 y) := fun j y hj => by rw [List.getElem?_map, hj]; rfl
  have hml : (r.map (Value.int .i64)).length = n := by rw [List.length_map, hn]
  rw [hi]
  rw [hn] at h hl hil ⊢
  -- a new block, all of its cells written
  have fresh : ∀ (W : World) (cur : Array Value) (c : Nat), W.heap[w.heap.size]? = some (.cells cur 3 (0, 0)) → cur.size = c → n + 1 ≤ c → c ≤ maxLen → (∀ j y, j < i → r[j]? = some y → W.cell? ⟨w.heap.size, j, none⟩ = some (.int .i64 y)) → W.cell? ⟨w.heap.size, i, none⟩ = some (.int .i64 x) → (∀ j y, i ≤ j → r[j]? = some y → W.cell? ⟨w.heap.size, j + 1, none⟩ = some (.int .i64 y)) →
      W.ownsRow base 3 1 (.slice (some ⟨w.heap.size, 0, none⟩) (n + 1) c) (n + 1) ((insI r x).map (Value.int .i64)) := fun W cur c hW hs hc hm h1 h2 h3 =>
    own_insI hW hbase (by omega) hm hs hn hi hil h1 h2 h3
  rcases h.2 with ⟨rfl, h0⟩ | ⟨g, cap, cur, rfl, hb, hg, h1, h2, h3, h4⟩
  · obtain rfl : r = [] := List.eq_nil_of_length_eq_zero (by omega)
    obtain rfl : n = 0 := by rw [← hn]; rfl
    obtain rfl : i = 0 := by omega
    have H := Tryz.slices_Insert_int_end_grow none 0 0 vb 0 1 1 [] [.int .i64 x] w (by omega) (by omega) (by omega) (by decide) rfl rfl (fun _ => rfl) (fun a ha => by cases ha) hvs0 h1v
    refine H.mono ?_
    rintro e w' ⟨rfl, rfl⟩
    have hge := grownCap_ge w 1 0 3
    have hmx := grownCap_le_maxLen w 1 0 3 (by unfold maxLen; omega)
    refine ⟨_, rfl, ?_, (Kept.drew (Kept.refl _ w) 1).alloc _, .inr rfl⟩
    refine fresh _ _ _ (World.alloc_heap_new w.drew _) ?_ hge hmx (fun j y hj => by omega) ?_ (fun j y _ hj => by simp at hj)
    · rw [Array.size_append, zero_size]
      simp
      omega
    · rw [show w.heap.size = w.drew.heap.size from rfl, cell_new, Array.getElem?_append_left (by simp)]
      rfl
  · have hcell : ∀ (W : World), Below w.heap.size w W → ∀ j y, r[j]? = some y → W.cell? ⟨g, j, none⟩ = some (.int .i64 y) := fun W hW j y hj => (hW.cell (p := ⟨g, j, none⟩) (heap_lt hg)).trans (mx_at h (hget j y hj))
    have hcs : ∀ j u, (r.map (Value.int .i64))[j]? = some u → w.cell? ⟨g, 0 + j, none⟩ = some u := fun j u hu => by rw [Nat.zero_add]; exact mx_at h hu
    have hsp : ∀ j, j < cap → (w.cell? ⟨g, j, none⟩).isSome = true := fun j hj => by
      rw [mx_cell hg, Array.getElem?_eq_getElem (by omega)]
      rfl
    have hfz : ∀ j, w.frozen? ⟨g, j, none⟩ = false := fun j => by simp [World.frozen?, hg]
    have hgv : vb ≠ g := fun e => hne (by rw [e]; rfl)
    by_cases hin : i < n
    · by_cases hroom : n + 1 ≤ cap
      · have H := Tryz.slices_Insert_int_shift g 0 n cap i vb 0 1 1 (r.map (Value.int .i64)) [.int .i64 x] w hin (by omega) hroom (by unfold maxLen at h2; omega) hgv hml rfl hcs (fun j hj => by rw [Nat.zero_add]; exact hsp j (by omega)) (fun j _ => by rw [Nat.zero_add]; exact hfz j) hvs0 (ints_one r) h1v 3 3 1 cap (by simp [World.shape?, hvb]) (by simp [World.shape?, hg]; omega) (by omega) (by simp [World.frozen?, hvb]) (by simp [World.frozen?, hvb])
        refine H.mono ?_
        rintro e w' ⟨rfl, rfl⟩
        obtain ⟨c1, hc1, hs1⟩ := block_setCells ((r.map (Value.int .i64)).drop i) (0 + (i + 1)) w.drew cur hg
        obtain ⟨c2, hc2, hs2⟩ := block_setCells [Value.int .i64 x] (0 + i) _ c1 hc1
        have hdl : ((r.map (Value.int .i64)).drop i).length = n - i := by rw [List.length_drop, hml]
        have q1 : ∀ j, j < ((r.map (Value.int .i64)).drop i).length → (w.drew.cell? ⟨g, 0 + (i + 1) + j, none⟩).isSome = true := fun j hj => hsp _ (by omega)
        refine ⟨_, rfl, ?_, ((((Kept.drew (Kept.refl _ w) 1).trans (kept_setCells _ _ _ _) (fun _ _ h => h)).trans (kept_setCells _ _ _ _) (fun _ _ h => h)).mono (fun k _ h => by rw [h]; rfl)), .inl rfl⟩
        refine own_insI hc2 hb (by omega) h2 (by omega) hn hi hil (fun j y hj hy => ?_) ?_ (fun j y hj hy => ?_)
        · rw [World.cell?_setCells_out _ _ _ _ _ (fun _ _ => .inl (by show j < 0 + i; omega)), World.cell?_setCells_out _ _ _ _ _ (fun _ _ => .inl (by show j < 0 + (i + 1); omega))]
          exact hcell w.drew (mx_drew w) j y hy
        · have := World.cell?_setCells_in g [Value.int .i64 x] (0 + i) (w.drew.setCells g (0 + (i + 1)) ((r.map (Value.int .i64)).drop i)) (fun j hj => by
            have : j = 0 := by simpa using hj
            subst this
            rw [World.cell?_setCells_out _ _ _ _ _ (fun _ _ => .inl (by show 0 + i + 0 < 0 + (i + 1); omega))]
            exact hsp _ (by omega)) 0 (by simp)
          rw [show 0 + i + 0 = i by omega] at this
          exact this
        · have hjn := (List.getElem?_eq_some_iff.1 hy).1
          have := World.cell?_setCells_in g ((r.map (Value.int .i64)).drop i) (0 + (i + 1)) w.drew q1 (j - i) (by omega)
          rw [World.cell?_setCells_out _ _ _ _ _ (fun _ _ => .inr (by show 0 + i + 1 ≤ j + 1; omega)), show j + 1 = 0 + (i + 1) + (j - i) by omega, this]
          have hm := hget j y hy
          rw [← List.getElem?_eq_getElem, List.getElem?_drop, show i + (j - i) = j by omega, hm]
      · have H := Tryz.slices_Insert_int_grow g 0 n cap i vb 0 1 1 (r.map (Value.int .i64)) [.int .i64 x] w hin (by omega) h1 (by omega) (by omega) hml rfl hcs hvs0 (ints_one r) h1v
        refine H.mono ?_
        rintro e w' ⟨rfl, rfl⟩
        have hge := grownCap_ge w (n + 1) cap 3
        have hmx := grownCap_le_maxLen w (n + 1) cap 3 (by unfold maxLen; omega)
        obtain ⟨G, hG⟩ : ∃ G, grownCap w (n + 1) cap 3 = G := ⟨_, rfl⟩
        rw [hG] at hge hmx ⊢
        obtain ⟨C, hC⟩ : ∃ C, ((r.map (Value.int .i64)).take i).toArray ++ Builtin.zeroCells (Value.int .i64 0).cells (n + 1 - i) ++ Builtin.zeroCells (Value.int .i64 0).cells (G - (n + 1)) = C := ⟨_, rfl⟩
        have hCs : C.size = G := by
          rw [← hC, Array.size_append, Array.size_append, zero_size, zero_size]
          simp
          omega
        have hCx : ∀ j y, j < i → r[j]? = some y → C[j]? = some (Value.int .i64 y) := fun j y hj hy => by
          have hjn := (List.getElem?_eq_some_iff.1 hy).1
          rw [← hC, Array.append_assoc, Array.getElem?_append_left (by simp; omega)]
          rw [List.getElem?_toArray, List.getElem?_take, if_pos hj]
          exact hget j y hy
        rw [hC]
        obtain ⟨W0, hW0⟩ : ∃ W, w.alloc (.cells C 3) = W := ⟨_, rfl⟩
        have hb0 : Below w.heap.size w W0 := by rw [← hW0]; exact mx_al _ _
        have hg0 : W0.heap[w.heap.size]? = some (.cells C 3 (0, 0)) := by rw [← hW0]; exact World.alloc_heap_new _ _
        rw [hW0]
        obtain ⟨c1, hc1, hs1⟩ := block_setCells [Value.int .i64 x] i W0.drew C hg0
        obtain ⟨c2, hc2, hs2⟩ := block_setCells ((r.map (Value.int .i64)).drop i) (i + 1) _ c1 (show (W0.drew.setCells w.heap.size i [.int .i64 x]).drew.heap[w.heap.size]? = _ from hc1)
        have hdl : ((r.map (Value.int .i64)).drop i).length = n - i := by rw [List.length_drop, hml]
        have hs0 : ∀ j, j < G → (W0.drew.cell? ⟨w.heap.size, j, none⟩).isSome = true := fun j hj => by
          rw [show W0.drew.cell? ⟨w.heap.size, j, none⟩ = C[j]? from mx_cell (w := W0.drew) hg0, Array.getElem?_eq_getElem (by omega)]
          rfl
        have hs1' : ∀ j, j < G → ((W0.drew.setCells w.heap.size i [.int .i64 x]).drew.cell? ⟨w.heap.size, j, none⟩).isSome = true := fun j hj => World.isSome_setCells w.heap.size [Value.int .i64 x] i W0.drew ⟨w.heap.size, j, none⟩ (hs0 j hj)
        have hkb : Below w.heap.size w ((W0.drew.setCells w.heap.size i [.int .i64 x]).drew.setCells w.heap.size (i + 1) ((r.map (Value.int .i64)).drop i)) :=
          ((hb0.drew.trans ((kept_setCells _ _ _ _).below (fun k e => by omega) (by show w.heap.size ≤ W0.heap.size; exact hb0.size))).drew).trans ((kept_setCells _ _ _ _).below (fun k e => by omega) (by show w.heap.size ≤ (W0.drew.setCells w.heap.size i [.int .i64 x]).heap.size; have := (kept_setCells W0.drew w.heap.size i [.int .i64 x]).size; have h0 : w.heap.size ≤ W0.drew.heap.size := hb0.size; omega))
        refine ⟨_, rfl, ?_, Kept.of_below hkb, .inr rfl⟩
        refine fresh _ c2 G hc2 (by omega) hge hmx (fun j y hj hy => ?_) ?_ (fun j y hj hy => ?_)
        · rw [World.cell?_setCells_out _ _ _ _ _ (fun _ _ => .inl (by show j < i + 1; omega))]
          show (W0.drew.setCells w.heap.size i [.int .i64 x]).cell? _ = _
          rw [World.cell?_setCells_out _ _ _ _ _ (fun _ _ => .inl (by show j < i; omega)), show W0.drew.cell? ⟨w.heap.size, j, none⟩ = C[j]? from mx_cell (w := W0.drew) hg0]
          exact hCx j y hj hy
        · rw [World.cell?_setCells_out _ _ _ _ _ (fun _ _ => .inl (by show i < i + 1; omega))]
          have := World.cell?_setCells_in w.heap.size [Value.int .i64 x] i W0.drew (fun j hj => hs0 _ (by simp at hj; omega)) 0 (by simp)
          exact this
        · have hjn := (List.getElem?_eq_some_iff.1 hy).1
          have := World.cell?_setCells_in w.heap.size ((r.map (Value.int .i64)).drop i) (i + 1) (W0.drew.setCells w.heap.size i [.int .i64 x]).drew (fun j hj => hs1' _ (by omega)) (j - i) (by omega)
          rw [show j + 1 = i + 1 + (j - i) by omega, this]
          have hm := hget j y hy
          rw [← List.getElem?_eq_getElem, List.getElem?_drop, show i + (j - i) = j by omega, hm]
    · obtain rfl : i = n := by omega
      by_cases hroom : i + 1 ≤ cap
      · have H := Tryz.slices_Insert_int_end_room g 0 i cap vb 0 1 1 [.int .i64 x] w (by omega) hroom (by unfold maxLen at h2; omega) rfl (fun j hj => hsp _ (by omega)) (fun j _ => hfz _) hvs0 h1v
        refine H.mono ?_
        rintro e w' ⟨rfl, rfl⟩
        obtain ⟨c2, hc2, hs2⟩ := block_setCells [Value.int .i64 x] (0 + i) _ cur hg
        refine ⟨_, rfl, ?_, (kept_setCells _ _ _ _).mono (fun k _ h => by rw [h]; rfl), .inl rfl⟩
        refine own_insI hc2 hb (by omega) h2 (by omega) hn hi hil (fun j y hj hy => ?_) ?_ (fun j y hj hy => ?_)
        · rw [World.cell?_setCells_out _ _ _ _ _ (fun _ _ => .inl (by show j < 0 + i; omega))]
          exact hcell w (Below.refl _ _) j y hy
        · have := World.cell?_setCells_in g [Value.int .i64 x] (0 + i) w (fun j hj => hsp _ (by simp at hj; omega)) 0 (by simp)
          rw [show 0 + i + 0 = i by omega] at this
          exact this
        · have hjn := (List.getElem?_eq_some_iff.1 hy).1
          omega
      · have H := Tryz.slices_Insert_int_end_grow (some ⟨g, 0, none⟩) i cap vb 0 1 1 (r.map (Value.int .i64)) [.int .i64 x] w (by omega) h1 (by omega) (by omega) hml rfl (fun h => by cases h) (fun a ha j u hu => by
          obtain rfl := Option.some.inj ha
          rw [addr_add2]
          exact hcs j u hu) hvs0 h1v
        refine H.mono ?_
        rintro e w' ⟨rfl, rfl⟩
        have hge := grownCap_ge w (i + 1) cap 3
        have hmx := grownCap_le_maxLen w (i + 1) cap 3 (by unfold maxLen; omega)
        refine ⟨_, rfl, ?_, (Kept.drew (Kept.refl _ w) 1).alloc _, .inr rfl⟩
        refine fresh _ _ _ (World.alloc_heap_new w.drew _) ?_ hge hmx (fun j y hj hy => ?_) ?_ (fun j y hj hy => ?_)
        · rw [Array.size_append, zero_size]
          simp
          omega
        · have hjn := (List.getElem?_eq_some_iff.1 hy).1
          rw [show w.heap.size = w.drew.heap.size from rfl, cell_new, Array.getElem?_append_left (by simp; omega), List.getElem?_toArray, List.getElem?_append_left (by simp; omega)]
          exact hget j y hy
        · rw [show w.heap.size = w.drew.heap.size from rfl, cell_new, Array.getElem?_append_left (by simp; omega), List.getElem?_toArray, List.getElem?_append_right (by omega), hml, Nat.sub_self]
          rfl
        · have hjn := (List.getElem?_eq_some_iff.1 hy).1
          omega
end Go.Proofs.YtoojmhjagipmdaaGreat
