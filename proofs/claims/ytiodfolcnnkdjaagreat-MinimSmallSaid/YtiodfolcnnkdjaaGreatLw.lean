/- The plain law of chapter 14: the reference and the code answer alike. -/
import Derived.Test.YtiodfolcnnkdjaaGreatPe
import Derived.Test.YtiodfolcnnkdjaaGreatDo
import Derived.Test.YtiodfolcnnkdjaaGreatPl
import Derived.Test.YtiodfolcnnkdjaaGreatDf
import Derived.Test.YtiodfolcnnkdjaaGreatDg
import Derived.Test.YtiodfolcnnkdjaaGreatDd
import Derived.Test.YtiodfolcnnkdjaaGreatAm
namespace Go.Proofs.YtiodfolcnnkdjaaGreat
open Go.RowKit

/-! ### the reference's trail and the code's -/
variable {T : Trl} {its : List RIt}
/-! ### lists that grow by what is new -/
theorem rAdd_iff (acc c : List Int) (x : Int) : x ∈ rAdd acc c ↔ x ∈ acc ∨ x ∈ c := by
 induction c generalizing acc with
 | nil => simp [rAdd]
 | cons y c ih =>
  unfold rAdd
  rw [ih]
  by_cases h : y ∈ acc
  ·
   rw [if_pos (List.contains_iff_mem.2 h)]
   refine ⟨fun hh => hh.elim .inl (fun h => .inr (List.mem_cons_of_mem _ h)), fun hh => hh.elim .inl (fun h2 => ?_)⟩
   rcases List.mem_cons.1 h2 with rfl | h2
   ·
    exact .inl h
   ·
    exact .inr h2
  ·
   rw [if_neg (fun e => h (List.contains_iff_mem.1 e))]
   simp only [List.mem_append, List.mem_cons, List.not_mem_nil, or_false, or_assoc]
theorem rAdd_nodup {acc : List Int} (c : List Int) (h : acc.Nodup) : (rAdd acc c).Nodup := by
 induction c generalizing acc with
 | nil => exact h
 | cons y c ih =>
  unfold rAdd
  split
  ·
   exact ih h
  ·
   rename_i hn
   refine ih (List.nodup_append.2 ⟨h, List.pairwise_singleton _ _, fun a ha b hb e => ?_⟩)
   rw [List.mem_singleton.1 hb] at e
   subst e
   exact hn (List.contains_iff_mem.2 ha)
theorem meetGo_mem (T : Trl) (wo lv : Int) (c ms : List Int) (n : Nat) (u : Int) : u ∈ (T.meetGo wo lv c ms n).1 ↔ u ∈ ms ∨ (u ≠ wo ∧ ∃ w ∈ c, (litV w : Int) = u) := by
 induction c generalizing ms n with
 | nil => simp [Trl.meetGo]
 | cons y c ih =>
  unfold Trl.meetGo
  split
  ·
   rename_i hh
   rw [ih]
   simp only [List.mem_append, List.mem_cons, List.not_mem_nil, or_false, exists_eq_or_imp]
   refine ⟨fun h => ?_, fun h => ?_⟩
   ·
    rcases h with (h | h) | ⟨h1, h2⟩
    ·
     exact .inl h
    ·
     exact .inr ⟨by rw [h]; exact hh.1, .inl h.symm⟩
    ·
     exact .inr ⟨h1, .inr h2⟩
   ·
    rcases h with h | ⟨h1, h2 | h2⟩
    ·
     exact .inl (.inl h)
    ·
     exact .inl (.inr h2.symm)
    ·
     exact .inr ⟨h1, h2⟩
  ·
   rename_i hh
   rw [ih]
   simp only [List.mem_cons, exists_eq_or_imp]
   refine ⟨fun h => h.elim .inl (fun h => .inr ⟨h.1, .inr h.2⟩), fun h => ?_⟩
   rcases h with h | ⟨h1, h2 | h2⟩
   ·
    exact .inl h
   ·
    left
    by_cases hm : u ∈ ms
    ·
     exact hm
    ·
     exact absurd ⟨by rw [h2]; exact h1, by
      rw [h2]
      cases hb : ms.contains u with
      | true => exact absurd (List.contains_iff_mem.1 hb) hm
      | false => rfl⟩ hh
   ·
    exact .inr ⟨h1, h2⟩
/-- how many of a level -/
def cnt (its : List RIt) (lv : Int) (l : List Int) : Nat := l.countP fun z => decide (rL its z = lv)
theorem cnt_snoc (its : List RIt) (lv : Int) (l : List Int) (z : Int) : cnt its lv (l ++ [z]) = cnt its lv l + if rL its z = lv then 1 else 0 := by
 unfold cnt
 rw [List.countP_append, List.countP_singleton]
 simp only [decide_eq_true_eq]
theorem meet_cnt (h : Sim T its) (keep : Int → Bool) (wo lv : Int) (c ms acc : List Int) (n : Nat)
  (hc : ∀ w ∈ c, (keep w = false ∧ (litV w : Int) = wo) ∨ (keep w = true ∧ rVl its w < 0 ∧ (litV w : Int) ≠ wo))
  (hr : ∀ w ∈ c, keep w = true → (w ∈ acc ↔ (litV w : Int) ∈ ms)) :
  (T.meetGo wo lv c ms n).2 + cnt its lv acc = n + cnt its lv (rAdd acc (c.filter keep)) := by
 induction c generalizing ms acc n with
 | nil => rfl
 | cons w c ih =>
  have hc' := fun x hx => hc x (List.mem_cons_of_mem _ hx)
  have hr' := fun x hx => hr x (List.mem_cons_of_mem _ hx)
  rcases hc w (List.mem_cons_self ..) with ⟨k1, k2⟩ | ⟨k1, k2, k3⟩
  ·
   rw [List.filter_cons_of_neg (by rw [k1]; decide)]
   unfold Trl.meetGo
   rw [if_neg (fun hh => hh.1 k2)]
   exact ih ms acc n hc' hr'
  ·
   rw [List.filter_cons_of_pos k1]
   unfold Trl.meetGo rAdd
   have hw := hr w (List.mem_cons_self ..) k1
   by_cases hm : (litV w : Int) ∈ ms
   ·
    rw [if_neg (fun hh => by rw [List.contains_iff_mem.2 hm] at hh; exact absurd hh.2 (by decide)), if_pos (List.contains_iff_mem.2 (hw.2 hm))]
    exact ih ms acc n hc' hr'
   ·
    have hcm : ms.contains (litV w : Int) = false := by
     cases hb : ms.contains (litV w : Int) with
     | true => exact absurd (List.contains_iff_mem.1 hb) hm
     | false => rfl
    rw [if_pos ⟨k3, hcm⟩, if_neg (fun e => hm (hw.1 (List.contains_iff_mem.1 e)))]
    have := ih (ms ++ [(litV w : Int)]) (acc ++ [w]) (if T.level (litV w : Nat) = lv then n + 1 else n + 0) hc' (fun z hz hk => by
     have hz' := hr' z hz hk
     rcases hc' z hz with ⟨k, _⟩ | ⟨_, f, _⟩
     ·
      rw [k] at hk
      cases hk
     ·
      simp only [List.mem_append, List.mem_singleton, hz']
      refine or_congr Iff.rfl ⟨fun e => by rw [e], fun e => h.fal_inj f k2 (by rw [e])⟩)
    rw [cnt_snoc] at this
    rw [h.level_fal k2] at this ⊢
    split at this
    ·
     rename_i e
     rw [if_pos e]
     omega
    ·
     rename_i e
     rw [if_neg e]
     omega
/-! ### the best of a list -/
def rBest (f : Int → Bool) (P : Int → Int) (l : List Int) : Nat → Int → List Int → Int
 | _, b, [] => b
 | i, b, x :: c => if f x = true ∧ (b < 0 ∨ P (l.getD b.toNat 0) < P x) then rBest f P l (i + 1) i c else rBest f P l (i + 1) b c
def Good (f : Int → Bool) (P : Int → Int) (b : Int) (l : List Int) : Prop :=
 (b = -1 ∧ ∀ x ∈ l, f x = false) ∨ ∃ n : Nat, b = n ∧ ∃ z, l[n]? = some z ∧ f z = true ∧ ∀ x ∈ l, f x = true → P x ≤ P z
theorem rBest_good (f : Int → Bool) (P : Int → Int) (l pre c : List Int) (b : Int) (hl : l = pre ++ c) (hb : Good f P b pre) : Good f P (rBest f P l pre.length b c) l := by
 induction c generalizing pre b with
 | nil =>
  rw [List.append_nil] at hl
  subst hl
  exact hb
 | cons x c ih =>
  have hl2 : l = (pre ++ [x]) ++ c := by rw [hl, List.append_assoc]; rfl
  have hlen : (pre ++ [x]).length = pre.length + 1 := by simp
  have hx : l[pre.length]? = some x := by rw [hl]; simp
  unfold rBest
  rw [← hlen]
  split
  ·
   rename_i hh
   refine ih _ _ hl2 (.inr ⟨pre.length, rfl, x, by simp, hh.1, fun y hy fy => ?_⟩)
   rcases List.mem_append.1 hy with hy | hy
   ·
    rcases hb with ⟨rfl, h2⟩ | ⟨n, rfl, z, hz, fz, h3⟩
    ·
     rw [h2 y hy] at fy
     cases fy
    ·
     have h4 := h3 y hy fy
     rcases hh.2 with h5 | h5
     ·
      omega
     ·
      have h6 : l.getD (n : Int).toNat 0 = z := by
       have hn := (List.getElem?_eq_some_iff.1 hz).1
       rw [Int.toNat_natCast, List.getD_eq_getElem?_getD, hl, List.getElem?_append_left hn, hz]
       rfl
      rw [h6] at h5
      omega
   ·
    rw [List.mem_singleton.1 hy]
    exact Int.le_refl _
  ·
   rename_i hh
   refine ih _ _ hl2 ?_
   rcases hb with ⟨rfl, h2⟩ | ⟨n, rfl, z, hz, fz, h3⟩
   ·
    refine .inl ⟨rfl, fun y hy => ?_⟩
    rcases List.mem_append.1 hy with hy | hy
    ·
     exact h2 y hy
    ·
     rw [List.mem_singleton.1 hy]
     cases hfx : f x with
     | false => rfl
     | true => exact absurd ⟨hfx, .inl (by decide)⟩ hh
   ·
    have hn := (List.getElem?_eq_some_iff.1 hz).1
    refine .inr ⟨n, rfl, z, by rw [List.getElem?_append_left hn, hz], fz, fun y hy fy => ?_⟩
    rcases List.mem_append.1 hy with hy | hy
    ·
     exact h3 y hy fy
    ·
     rw [List.mem_singleton.1 hy] at fy ⊢
     have h6 : l.getD (n : Int).toNat 0 = z := by
      rw [Int.toNat_natCast, List.getD_eq_getElem?_getD, hl, List.getElem?_append_left hn, hz]
      rfl
     by_cases h7 : P x ≤ P z
     ·
      exact h7
     ·
      exact absurd ⟨fy, .inr (by rw [h6]; omega)⟩ hh
theorem rGo1_best (its : List RIt) (top : Int) (l : List Int) (i : Nat) (b m : Int) (c : List Int) : rGo1 its top l i b m c = (rBest (fun z => decide (rL its z = top)) (fun z => rP its (litV z)) l i b c, m + cnt its top c) := by
 induction c generalizing i b m with
 | nil => simp [rGo1, rBest, cnt]
 | cons x c ih =>
  have hcnt : cnt its top (x :: c) = cnt its top c + if rL its x = top then 1 else 0 := by
   unfold cnt
   rw [List.countP_cons]
   simp only [decide_eq_true_eq]
  unfold rGo1 rBest
  by_cases h1 : rL its x = top
  ·
   rw [if_pos h1] at hcnt ⊢
   by_cases h2 : b < 0 ∨ rP its (litV (l.getD b.toNat 0)) < rP its (litV x)
   ·
    rw [if_pos h2, if_pos ⟨by simpa using h1, h2⟩, ih, hcnt]
    congr 1
    omega
   ·
    rw [if_neg h2, if_neg (fun hh => h2 hh.2), ih, hcnt]
    congr 1
    omega
  ·
   rw [if_neg h1] at hcnt ⊢
   rw [if_neg (fun hh => h1 (by simpa using hh.1)), ih, hcnt]
   congr 1
theorem rGo2_best (its : List RIt) (l : List Int) (i : Nat) (b : Int) (c : List Int) : rGo2 its l i b c = rBest (fun z => decide (rL its z = 0)) (fun z => rP its (litV z)) l i b c := by
 induction c generalizing i b with
 | nil => rfl
 | cons x c ih =>
  unfold rGo2 rBest
  rw [ih, ih]
  simp only [decide_eq_true_eq]
theorem rGoes_top {its : List RIt} {l : List Int} {top y : Int} (hy : y ∈ l) (hl : rL its y = top) (hm : 1 < cnt its top l ∨ top = 0) (hb : ∀ x ∈ l, rL its x = top → rP its (litV x) ≤ rP its (litV y)) (hi : ∀ x ∈ l, rP its (litV x) = rP its (litV y) → x = y) :
  ∃ n : Nat, rGoes its l top = n ∧ l[n]? = some y := by
 have hg := rBest_good (fun z => decide (rL its z = top)) (fun z => rP its (litV z)) l [] l (-1) rfl (.inl ⟨rfl, fun _ h => by cases h⟩)
 unfold rGoes
 rw [rGo1_best]
 simp only [List.length_nil, Int.zero_add] at hg ⊢
 rcases hg with ⟨_, h2⟩ | ⟨n, h1, z, hz, fz, h3⟩
 ·
  have := h2 y hy
  simp only [decide_eq_false_iff_not] at this
  exact absurd hl this
 ·
  rw [h1, if_pos ⟨by omega, by omega⟩]
  refine ⟨n, rfl, ?_⟩
  have hzm := List.mem_of_getElem? hz
  have h4 : rP its (litV y) ≤ rP its (litV z) := h3 y hy (by simpa using hl)
  have h5 := hb z hzm (by simpa using fz)
  rw [← hi z hzm (by omega)]
  exact hz
theorem rGoes_low {its : List RIt} {l : List Int} {top y : Int} (hy : y ∈ l) (hl : rL its y = 0) (ht : top ≠ 0) (hm : cnt its top l ≤ 1) (hb : ∀ x ∈ l, rL its x = 0 → rP its (litV x) ≤ rP its (litV y)) (hi : ∀ x ∈ l, rP its (litV x) = rP its (litV y) → x = y) :
  ∃ n : Nat, rGoes its l top = n ∧ l[n]? = some y := by
 have hg := rBest_good (fun z => decide (rL its z = 0)) (fun z => rP its (litV z)) l [] l (-1) rfl (.inl ⟨rfl, fun _ h => by cases h⟩)
 unfold rGoes
 rw [rGo1_best, rGo2_best]
 simp only [List.length_nil, Int.zero_add] at hg ⊢
 rw [if_neg (by omega)]
 rcases hg with ⟨_, h2⟩ | ⟨n, h1, z, hz, fz, h3⟩
 ·
  have := h2 y hy
  simp only [decide_eq_false_iff_not] at this
  exact absurd hl this
 ·
  rw [h1]
  refine ⟨n, rfl, ?_⟩
  have hzm := List.mem_of_getElem? hz
  have h4 : rP its (litV y) ≤ rP its (litV z) := h3 y hy (by simpa using hl)
  have h5 := hb z hzm (by simpa using fz)
  rw [← hi z hzm (by omega)]
  exact hz
theorem rGoes_none {its : List RIt} {l : List Int} {top : Int} (h0 : ∀ x ∈ l, rL its x ≠ 0) (hm : cnt its top l ≤ 1) : rGoes its l top = -1 := by
 have hg := rBest_good (fun z => decide (rL its z = 0)) (fun z => rP its (litV z)) l [] l (-1) rfl (.inl ⟨rfl, fun _ h => by cases h⟩)
 have hg1 := rBest_good (fun z => decide (rL its z = top)) (fun z => rP its (litV z)) l [] l (-1) rfl (.inl ⟨rfl, fun _ h => by cases h⟩)
 unfold rGoes
 rw [rGo1_best, rGo2_best]
 simp only [List.length_nil, Int.zero_add] at hg hg1 ⊢
 rw [if_neg ?_]
 ·
  rcases hg with ⟨h1, _⟩ | ⟨n, h1, z, hz, fz, h3⟩
  ·
   exact h1
  ·
   exact absurd (by simpa using fz) (h0 z (List.mem_of_getElem? hz))
 ·
  rintro ⟨h1, h2⟩
  rcases h2 with h2 | h2
  ·
   omega
  ·
   rcases hg1 with ⟨h3, _⟩ | ⟨n, h3, z, hz, fz, _⟩
   ·
    omega
   ·
    have := h0 z (List.mem_of_getElem? hz)
    simp only [decide_eq_true_eq] at fz
    omega
/-- one is taken out -/
theorem erase_at {l : List Int} {n : Nat} {y : Int} (hn : l.Nodup) (hy : l[n]? = some y) : (∀ z, z ∈ l.eraseIdx n ↔ z ∈ l ∧ z ≠ y) ∧ (l.eraseIdx n).Nodup ∧ ∀ (its : List RIt) (lv : Int), cnt its lv l = cnt its lv (l.eraseIdx n) + if rL its y = lv then 1 else 0 := by
 obtain ⟨hlt, hg⟩ := List.getElem?_eq_some_iff.1 hy
 have hd : l = l.take n ++ y :: l.drop (n + 1) := by
  rw [← hg, List.getElem_cons_drop, List.take_append_drop]
 have he : l.eraseIdx n = l.take n ++ l.drop (n + 1) := List.eraseIdx_eq_take_drop_succ l n
 have hn2 := hn
 rw [hd] at hn2
 obtain ⟨n1, n2, n3⟩ := List.nodup_append.1 hn2
 obtain ⟨n4, n5⟩ := List.nodup_cons.1 n2
 refine ⟨fun z => ?_, hn.sublist (List.eraseIdx_sublist l n), fun its lv => ?_⟩
 ·
  rw [he]
  constructor
  ·
   intro hz
   refine ⟨(List.eraseIdx_sublist l n).subset (by rw [he]; exact hz), fun e => ?_⟩
   subst e
   rcases List.mem_append.1 hz with hz | hz
   ·
    exact n3 z hz z (List.mem_cons_self ..) rfl
   ·
    exact n4 hz
  ·
   rintro ⟨hz, hzy⟩
   rw [hd] at hz
   rcases List.mem_append.1 hz with hz | hz
   ·
    exact List.mem_append_left _ hz
   ·
    rcases List.mem_cons.1 hz with e | hz
    ·
     exact absurd e hzy
    ·
     exact List.mem_append_right _ hz
 ·
  unfold cnt
  rw [he]
  conv => lhs; rw [hd]
  rw [List.countP_append, List.countP_append, List.countP_cons]
  simp only [decide_eq_true_eq]
  omega
/-! ### arenas -/
def rGet (all : List REn) (id : Int) : Option (List Int) := if rFind all id < 0 then none else (all[(rFind all id).toNat]?).map REn.lits
structure ASim (A : Arn) (all : List REn) : Prop where
 get : ∀ id, A.get id = rGet all id
 count : A.count = all.length
theorem rGet_none {all : List REn} {id : Int} (h : rGet all id = none) : rFind all id < 0 := by
 unfold rGet at h
 split at h
 ·
  assumption
 ·
  rw [Option.map_eq_none_iff, List.getElem?_eq_none_iff] at h
  have := rFind_lt all id
  omega
theorem rGet_some {all : List REn} {id : Int} {c : List Int} (h : rGet all id = some c) : ¬ rFind all id < 0 ∧ ∃ e, all[(rFind all id).toNat]? = some e ∧ e.lits = c := by
 unfold rGet at h
 split at h
 ·
  cases h
 ·
  rename_i hn
  exact ⟨hn, Option.map_eq_some_iff.1 h⟩
theorem rRest_eq (its : List RIt) (na p : Int) (acc c : List Int) : rRest its na p acc c = if (∀ x ∈ c, x ≠ na → rVl its x < 0 ∧ rP its (litV x) < p) then some (acc ++ c.filter fun x => decide (x ≠ na)) else none := by
 induction c generalizing acc with
 | nil => simp [rRest]
 | cons y c ih =>
  unfold rRest
  by_cases h1 : y = na
  ·
   rw [if_pos h1, ih]
   have e : (y :: c).filter (fun x => decide (x ≠ na)) = c.filter fun x => decide (x ≠ na) := List.filter_cons_of_neg (by simpa using h1)
   rw [e]
   congr 1
   refine propext ⟨fun h x hx hn => ?_, fun h x hx => h x (List.mem_cons_of_mem _ hx)⟩
   rcases List.mem_cons.1 hx with rfl | hx
   ·
    exact absurd h1 hn
   ·
    exact h x hx hn
  ·
   have e : (y :: c).filter (fun x => decide (x ≠ na)) = y :: c.filter fun x => decide (x ≠ na) := List.filter_cons_of_pos (by simpa using h1)
   rw [if_neg h1, e]
   by_cases h2 : 0 ≤ rVl its y
   ·
    rw [if_pos h2, if_neg (fun h => by have := (h y (List.mem_cons_self ..) h1).1; omega)]
   ·
    rw [if_neg h2]
    by_cases h3 : p ≤ rP its (litV y)
    ·
     rw [if_pos h3, if_neg (fun h => by have := (h y (List.mem_cons_self ..) h1).2; omega)]
    ·
     rw [if_neg h3, ih, List.append_assoc]
     congr 1
     refine propext ⟨fun h x hx hn => ?_, fun h x hx => h x (List.mem_cons_of_mem _ hx)⟩
     rcases List.mem_cons.1 hx with rfl | hx
     ·
      exact ⟨by omega, by omega⟩
     ·
      exact h x hx hn
/-- the reasons are the same -/
theorem reason_eq (h : Sim T its) {A : Arn} {all : List REn} (ha : ASim A all) {p : Nat} {x : RIt} (hp : its[p]? = some x) :
  (rightP A T x.lit = none ∧ rReason all its (-x.lit) = none) ∨ ∃ id c, rightP A T x.lit = some (id, c) ∧ rReason all its (-x.lit) = some (c.filter (fun z => decide (z ≠ x.lit)), id) ∧ x.lit ∈ c ∧ ∀ z ∈ c, z ≠ x.lit → rVl its z < 0 ∧ rP its (litV z) < p := by
 have hr : T.reason (litV x.lit : Nat) = x.reason := by
  unfold Trl.reason
  rw [h.why hp]
 have hpl : T.place (litV x.lit : Nat) = p := by
  unfold Trl.place
  rw [h.why hp]
 unfold rightP rReason rReasonAt
 rw [litV_negate, h.rp hp, Int.toNat_natCast, hp, hr, ha.get x.reason, hpl]
 simp only [Int.neg_neg]
 cases hg : rGet all x.reason with
 | none =>
  have := rGet_none hg
  rw [if_pos this]
  exact .inl ⟨rfl, rfl⟩
 | some c =>
  obtain ⟨h1, e, h2, rfl⟩ := rGet_some hg
  rw [if_neg h1, h2, h.why hp]
  simp only [Option.isSome_some, true_and]
  have hiff : T.before x.lit p e.lits = true ↔ ∀ z ∈ e.lits, z ≠ x.lit → rVl its z < 0 ∧ rP its (litV z) < p := by
   rw [before_eq]
   refine forall_congr' (fun z => forall_congr' (fun _ => forall_congr' (fun _ => ?_)))
   rw [h.val z]
   refine ⟨fun hh => ⟨hh.1, ?_⟩, fun hh => ⟨hh.1, ?_⟩⟩
   ·
    rw [← h.place_fal hh.1]
    exact hh.2
   ·
    rw [h.place_fal hh.1]
    exact hh.2
  by_cases hc : e.lits.contains x.lit = true
  ·
   rw [if_pos hc]
   simp only [hc, true_and]
   rw [rRest_eq]
   by_cases hb : T.before x.lit p e.lits = true
   ·
    rw [if_pos hb, if_pos (hiff.1 hb)]
    exact .inr ⟨x.reason, e.lits, rfl, rfl, List.contains_iff_mem.1 hc, hiff.1 hb⟩
   ·
    rw [if_neg hb, if_neg (fun hh => hb (hiff.2 hh))]
    exact .inl ⟨rfl, rfl⟩
  ·
   rw [if_neg hc, if_neg (fun hh => hc hh.1)]
   exact .inl ⟨rfl, rfl⟩
/-! ### the run -/
structure Inv (its : List RIt) (lv : Int) (p : Nat) (s : CSt) (r : RSt) : Prop where
 mem : ∀ y, rVl its y < 0 → ((litV y : Int) ∈ s.ms ↔ y ∈ r.met)
 lF : ∀ y ∈ r.l, rVl its y < 0
 mF : ∀ y ∈ r.met, rVl its y < 0
 ln : r.l.Nodup
 mn : r.met.Nodup
 low : ∀ y, rVl its y < 0 → rP its (litV y) < p → (y ∈ r.l ↔ (litV y : Int) ∈ s.ms)
 lits : ∀ y, y ∈ s.lits ↔ y ∈ r.l ∧ (p : Int) ≤ rP its (litV y)
 litd : s.lits.Pairwise fun a b => rP its (litV a) > rP its (litV b)
 hint : r.hints = s.hints
 klen : r.keys.length = s.hints.length
 key : r.keys.Pairwise (· > ·) ∧ ∀ k ∈ r.keys, (p : Int) ≤ k
 op : s.op = cnt its lv r.l
 kept : ∀ y ∈ r.l, (p : Int) ≤ rP its (litV y) → 0 < rL its y ∧ (rL its y = lv → s.op ≤ 1)
 smet : ∀ v, v ∈ s.met ↔ ∃ y, rVl its y < 0 ∧ v = (litV y : Int) ∧ (litV y : Int) ∈ s.ms ∧ (p : Int) ≤ rP its (litV y) ∧ 0 < rL its y
 smn : s.met.Nodup
theorem inv_end {lv : Int} {s : CSt} {r : RSt} (h : Sim T its) (hi : Inv its lv 0 s r) : rGoes its r.l lv = -1 := by
 have hk : ∀ y ∈ r.l, 0 < rL its y ∧ (rL its y = lv → s.op ≤ 1) := fun y hy => hi.kept y hy (h.fal_pos (hi.lF y hy)).2.2.1
 refine rGoes_none (fun x hx => by have := (hk x hx).1; omega) ?_
 by_cases h2 : cnt its lv r.l ≤ 1
 ·
  exact h2
 ·
  obtain ⟨y, hy, e⟩ := List.countP_pos_iff.1 (show 0 < cnt its lv r.l by omega)
  have := (hk y hy).2 (by simpa using e)
  have := hi.op
  omega
/-- the state of a place that was not met -/
theorem inv_pass {lv : Int} {s : CSt} {r : RSt} {q : Nat} {x : RIt} (h : Sim T its) (hi : Inv its lv (q + 1) s r) (hq : its[q]? = some x) (hm : ¬ (litV x.lit : Int) ∈ s.ms) : Inv its lv q s r := by
 have hx := h.fal_of hq
 have key : ∀ y, rVl its y < 0 → rP its (litV y) = q → (litV y : Int) ∉ s.ms ∧ y ∉ r.l := fun y hy e => by
  have : y = -x.lit := h.fal_inj hy hx (by rw [e, litV_negate, h.rp hq])
  subst this
  refine ⟨by rw [litV_negate]; exact hm, fun hl => hm ?_⟩
  have := (hi.low _ hy (by rw [e]; omega)).1 hl
  rwa [litV_negate] at this
 refine { hi with low := fun y hy hp => hi.low y hy (by omega), lits := fun y => ?_, key := ⟨hi.key.1, fun k hk => by have := hi.key.2 k hk; omega⟩, kept := fun y hy hp => ?_, smet := fun v => ?_ }
 ·
  rw [hi.lits y]
  refine and_congr_right (fun hy => ⟨fun hp => by omega, fun hp => ?_⟩)
  have hne : rP its (litV y) ≠ q := fun e => (key y (hi.lF y hy) e).2 hy
  omega
 ·
  have hne : rP its (litV y) ≠ q := fun e => (key y (hi.lF y hy) e).2 hy
  exact hi.kept y hy (by omega)
 ·
  rw [hi.smet v]
  refine exists_congr (fun y => and_congr_right (fun hy => and_congr_right (fun _ => and_congr_right (fun hms => and_congr_left (fun _ => ⟨fun hp => by omega, fun hp => ?_⟩)))))
  have hne : rP its (litV y) ≠ q := fun e => (key y hy e).1 hms
  omega
/-- what is met at a place: kept -/
theorem smet_step {lv : Int} {s : CSt} {r : RSt} {q : Nat} {x : RIt} {ms' : List Int} (h : Sim T its) (hi : Inv its lv (q + 1) s r) (hq : its[q]? = some x) (hm : (litV x.lit : Int) ∈ s.ms) (hms : ∀ y, rVl its y < 0 → (q : Int) ≤ rP its (litV y) → ((litV y : Int) ∈ ms' ↔ (litV y : Int) ∈ s.ms)) :
  (∀ v, v ∈ (if 0 < T.level (litV x.lit : Nat) then s.met ++ [(litV x.lit : Int)] else s.met) ↔ ∃ y, rVl its y < 0 ∧ v = (litV y : Int) ∧ (litV y : Int) ∈ ms' ∧ (q : Int) ≤ rP its (litV y) ∧ 0 < rL its y) ∧ (if 0 < T.level (litV x.lit : Nat) then s.met ++ [(litV x.lit : Int)] else s.met).Nodup := by
 have hx := h.fal_of hq
 have hlx : T.level (litV x.lit : Nat) = rL its (-x.lit) := by rw [← litV_negate, h.level_fal hx]
 have key : ∀ y, rVl its y < 0 → rP its (litV y) = q → y = -x.lit := fun y hy e => h.fal_inj hy hx (by rw [e, litV_negate, h.rp hq])
 have hnot : (litV x.lit : Int) ∉ s.met := fun hv => by
  obtain ⟨y, hy, e, _, hp, _⟩ := (hi.smet _).1 hv
  have hyy : (litV y : Nat) = litV x.lit := by omega
  rw [hyy, h.rp hq] at hp
  omega
 rw [hlx]
 split
 ·
  rename_i hpos
  refine ⟨fun v => ?_, List.nodup_append.2 ⟨hi.smn, List.pairwise_singleton _ _, fun a ha b hb e => ?_⟩⟩
  ·
   rw [List.mem_append, hi.smet v, List.mem_singleton]
   constructor
   ·
    rintro (⟨y, h1, h2, h3, h4, h5⟩ | rfl)
    ·
     exact ⟨y, h1, h2, (hms y h1 (by omega)).2 h3, by omega, h5⟩
    ·
     refine ⟨-x.lit, hx, by rw [litV_negate], ?_, by rw [litV_negate, h.rp hq]; omega, hpos⟩
     rw [hms _ hx (by rw [litV_negate, h.rp hq]; omega), litV_negate]
     exact hm
   ·
    rintro ⟨y, h1, h2, h3, h4, h5⟩
    by_cases e : rP its (litV y) = q
    ·
     right
     rw [h2, key y h1 e, litV_negate]
    ·
     exact .inl ⟨y, h1, h2, (hms y h1 h4).1 h3, by omega, h5⟩
  ·
   rw [List.mem_singleton.1 hb] at e
   subst e
   exact hnot ha
 ·
  rename_i hpos
  refine ⟨fun v => ?_, hi.smn⟩
  rw [hi.smet v]
  constructor
  ·
   rintro ⟨y, h1, h2, h3, h4, h5⟩
   exact ⟨y, h1, h2, (hms y h1 (by omega)).2 h3, by omega, h5⟩
  ·
   rintro ⟨y, h1, h2, h3, h4, h5⟩
   by_cases e : rP its (litV y) = q
   ·
    rw [key y h1 e] at h5
    exact absurd h5 hpos
   ·
    exact ⟨y, h1, h2, (hms y h1 h4).1 h3, by omega, h5⟩
theorem inv_keep {lv : Int} {s : CSt} {r : RSt} {q : Nat} {x : RIt} (h : Sim T its) (hi : Inv its lv (q + 1) s r) (hq : its[q]? = some x) (hm : (litV x.lit : Int) ∈ s.ms) (hg : T.goes lv s.op (litV x.lit : Int) = false) :
  Inv its lv q ⟨s.ms, s.op, s.lits ++ [litN x.lit], s.hints, if 0 < T.level (litV x.lit : Nat) then s.met ++ [(litV x.lit : Int)] else s.met⟩ r := by
 have hx := h.fal_of hq
 have hb := (h.at_ q x hq).1
 have hlx : T.level (litV x.lit : Nat) = rL its (-x.lit) := by rw [← litV_negate, h.level_fal hx]
 have key : ∀ y, rVl its y < 0 → rP its (litV y) = q → y = -x.lit := fun y hy e => h.fal_inj hy hx (by rw [e, litV_negate, h.rp hq])
 have hn : litN x.lit = -x.lit := by unfold litN; rw [if_pos hb]
 have hpx : rP its (litV (-x.lit)) = q := by rw [litV_negate, h.rp hq]
 have hin : -x.lit ∈ r.l := (hi.low _ hx (by rw [hpx]; omega)).2 (by rw [litV_negate]; exact hm)
 obtain ⟨g1, g2⟩ := smet_step h hi hq hm (ms' := s.ms) (fun y _ _ => Iff.rfl)
 have hgo : rL its (-x.lit) ≠ 0 ∧ (rL its (-x.lit) = lv → s.op ≤ 1) := by
  unfold Trl.goes at hg
  rw [hlx] at hg
  simp only [Bool.or_eq_false_iff, beq_eq_false_iff_ne, ne_eq, Bool.and_eq_false_iff, decide_eq_false_iff_not] at hg
  exact ⟨hg.1, fun e => by rcases hg.2 with h2 | h2 <;> omega⟩
 refine { hi with low := fun y hy hp => hi.low y hy (by omega), lits := fun y => ?_, litd := ?_, key := ⟨hi.key.1, fun k hk => by have := hi.key.2 k hk; omega⟩, kept := fun y hy hp => ?_, smet := g1, smn := g2 }
 ·
  simp only [List.mem_append, List.mem_singleton, hn]
  rw [hi.lits y]
  constructor
  ·
   rintro (⟨h1, h2⟩ | rfl)
   ·
    exact ⟨h1, by omega⟩
   ·
    exact ⟨hin, by rw [hpx]; omega⟩
  ·
   rintro ⟨h1, h2⟩
   by_cases e : rP its (litV y) = q
   ·
    exact .inr (key y (hi.lF y h1) e)
   ·
    exact .inl ⟨h1, by omega⟩
 ·
  simp only [hn]
  refine List.pairwise_append.2 ⟨hi.litd, List.pairwise_singleton _ _, fun a ha b hb => ?_⟩
  rw [List.mem_singleton.1 hb, hpx]
  have := ((hi.lits a).1 ha).2
  omega
 ·
  by_cases e : rP its (litV y) = q
  ·
   rw [key y (hi.lF y hy) e]
   have := (h.fal_pos hx).1
   exact ⟨by omega, hgo.2⟩
  ·
   exact hi.kept y hy (by omega)
/-- what has to go, goes in both -/
theorem inv_goes {lv : Int} {s : CSt} {r : RSt} {q : Nat} {x : RIt} (h : Sim T its) (hi : Inv its lv (q + 1) s r) (hq : its[q]? = some x) (hm : (litV x.lit : Int) ∈ s.ms) (hg : T.goes lv s.op (litV x.lit : Int) = true) :
  ∃ n : Nat, rGoes its r.l lv = n ∧ r.l[n]? = some (-x.lit) := by
 have hx := h.fal_of hq
 have hlx : T.level (litV x.lit : Nat) = rL its (-x.lit) := by rw [← litV_negate, h.level_fal hx]
 have hpx : rP its (litV (-x.lit)) = q := by rw [litV_negate, h.rp hq]
 have hin : -x.lit ∈ r.l := (hi.low _ hx (by rw [hpx]; omega)).2 (by rw [litV_negate]; exact hm)
 have hinj : ∀ z ∈ r.l, rP its (litV z) = rP its (litV (-x.lit)) → z = -x.lit := fun z hz e => h.fal_inj (hi.lF z hz) hx e
 have hop := hi.op
 unfold Trl.goes at hg
 rw [hlx] at hg
 simp only [Bool.or_eq_true, beq_iff_eq, Bool.and_eq_true, decide_eq_true_eq] at hg
 by_cases ht : rL its (-x.lit) = lv
 ·
  refine rGoes_top hin ht (by omega) (fun z hz e => ?_) hinj
  rw [hpx]
  by_cases hzq : (q : Int) + 1 ≤ rP its (litV z)
  ·
   have := hi.kept z hz (by omega)
   have := this.2 e
   omega
  ·
   omega
 ·
  have h0 : rL its (-x.lit) = 0 := by omega
  refine rGoes_low hin h0 (by omega) ?_ (fun z hz e => ?_) hinj
  ·
   by_cases h2 : cnt its lv r.l ≤ 1
   ·
    exact h2
   ·
    obtain ⟨z, hz, e⟩ := List.countP_pos_iff.1 (show 0 < cnt its lv r.l by omega)
    simp only [decide_eq_true_eq] at e
    by_cases hzq : (q : Int) + 1 ≤ rP its (litV z)
    ·
     have := (hi.kept z hz (by omega)).2 e
     omega
    ·
     have h3 := h.fal_mono (hi.lF z hz) hx (by rw [hpx]; omega)
     have := (h.fal_pos (hi.lF z hz)).1
     omega
  ·
   rw [hpx]
   by_cases hzq : (q : Int) + 1 ≤ rP its (litV z)
   ·
    have := (hi.kept z hz (by omega)).1
    omega
   ·
    omega
theorem inv_gone {lv : Int} {s : CSt} {r : RSt} {q n : Nat} {x : RIt} {id : Int} {c : List Int} (h : Sim T its) (hi : Inv its lv (q + 1) s r) (hq : its[q]? = some x) (hm : (litV x.lit : Int) ∈ s.ms) (hg : T.goes lv s.op (litV x.lit : Int) = true)
  (hn : r.l[n]? = some (-x.lit)) (hc : ∀ z ∈ c, z ≠ x.lit → rVl its z < 0 ∧ rP its (litV z) < q) :
  Inv its lv q ⟨(T.meetGo (litV x.lit : Int) lv c s.ms 0).1, if T.level (litV x.lit : Nat) = lv then s.op + (((T.meetGo (litV x.lit : Int) lv c s.ms 0).2 : Int) - 1) else s.op, s.lits, s.hints ++ [id], if 0 < T.level (litV x.lit : Nat) then s.met ++ [(litV x.lit : Int)] else s.met⟩
   (rNext its r n (c.filter (fun z => decide (z ≠ x.lit))) id) := by
 have hx := h.fal_of hq
 have hlx : T.level (litV x.lit : Nat) = rL its (-x.lit) := by rw [← litV_negate, h.level_fal hx]
 have hpx : rP its (litV (-x.lit)) = q := by rw [litV_negate, h.rp hq]
 have key : ∀ y, rVl its y < 0 → rP its (litV y) = q → y = -x.lit := fun y hy e => h.fal_inj hy hx (by rw [e, hpx])
 obtain ⟨e1, e2, e3⟩ := erase_at hi.ln hn
 have hrest : ∀ z, z ∈ c.filter (fun z => decide (z ≠ x.lit)) ↔ z ∈ c ∧ z ≠ x.lit := fun z => by rw [List.mem_filter]; simp
 have hrF : ∀ z, z ∈ c.filter (fun z => decide (z ≠ x.lit)) → rVl its z < 0 ∧ rP its (litV z) < q := fun z hz => hc z ((hrest z).1 hz).1 ((hrest z).1 hz).2
 have hms : ∀ y, rVl its y < 0 → ((litV y : Int) ∈ (T.meetGo (litV x.lit : Int) lv c s.ms 0).1 ↔ (litV y : Int) ∈ s.ms ∨ y ∈ c.filter (fun z => decide (z ≠ x.lit))) := fun y hy => by
  rw [meetGo_mem]
  refine or_congr Iff.rfl ⟨?_, fun hy2 => ?_⟩
  ·
   rintro ⟨h1, w, hw, h2⟩
   by_cases hwx : w = x.lit
   ·
    exact absurd (by rw [← h2, hwx]) h1
   ·
    have := h.fal_inj (hc w hw hwx).1 hy (by rw [h2])
    rw [← this]
    exact (hrest w).2 ⟨hw, hwx⟩
  ·
   refine ⟨fun e => ?_, y, ((hrest y).1 hy2).1, rfl⟩
   have h3 := (hrF y hy2).2
   rw [e, h.rp hq] at h3
   omega
 have hlow : ∀ y, rVl its y < 0 → (q : Int) ≤ rP its (litV y) → ((litV y : Int) ∈ (T.meetGo (litV x.lit : Int) lv c s.ms 0).1 ↔ (litV y : Int) ∈ s.ms) := fun y hy hp => by
  rw [hms y hy]
  refine or_iff_left (fun hy2 => ?_)
  have := (hrF y hy2).2
  omega
 obtain ⟨g1, g2⟩ := smet_step h hi hq hm hlow
 have hcnt := meet_cnt h (fun z => decide (z ≠ x.lit)) (litV x.lit : Int) lv c s.ms (r.l.eraseIdx n) 0 (fun w hw => by
   by_cases e : w = x.lit
   ·
    exact .inl ⟨by simpa using e, by rw [e]⟩
   ·
    refine .inr ⟨by simpa using e, (hc w hw e).1, fun e4 => ?_⟩
    have h3 := (hc w hw e).2
    rw [e4, h.rp hq] at h3
    omega) (fun w hw hk => by
   have hw2 : w ≠ x.lit := by simpa using hk
   obtain ⟨h3, h4⟩ := hc w hw hw2
   rw [e1, hi.low w h3 (by omega)]
   refine and_iff_left (fun e => ?_)
   rw [e, hpx] at h4
   omega)
 have hop := hi.op
 have hcl := e3 its lv
 have hgo : rL its (-x.lit) = 0 ∨ (rL its (-x.lit) = lv ∧ 1 < s.op) := by
  unfold Trl.goes at hg
  rw [hlx] at hg
  simpa using hg
 have hnew : ∀ z, z ∈ rAdd (r.l.eraseIdx n) (c.filter (fun z => decide (z ≠ x.lit))) ↔ (z ∈ r.l ∧ z ≠ -x.lit) ∨ z ∈ c.filter (fun z => decide (z ≠ x.lit)) := fun z => by rw [rAdd_iff, e1]
 have hgetD : r.l.getD n 0 = -x.lit := by rw [List.getD_eq_getElem?_getD, hn]; rfl
 have hop' : (if T.level (litV x.lit : Nat) = lv then s.op + (((T.meetGo (litV x.lit : Int) lv c s.ms 0).2 : Int) - 1) else s.op) = cnt its lv (rAdd (r.l.eraseIdx n) (c.filter (fun z => decide (z ≠ x.lit)))) := by
  rw [hlx]
  by_cases ht : rL its (-x.lit) = lv
  ·
   rw [if_pos ht] at hcl ⊢
   omega
  ·
   rw [if_neg ht] at hcl ⊢
   have h0 : rL its (-x.lit) = 0 := by omega
   have hz : (T.meetGo (litV x.lit : Int) lv c s.ms 0).2 = 0 := by
    have hgen : ∀ (c' ms : List Int) (k : Nat), (∀ w ∈ c', w ∈ c) → (T.meetGo (litV x.lit : Int) lv c' ms k).2 = k := fun c' => by
     induction c' with
     | nil => exact fun _ _ _ => rfl
     | cons w c' ih =>
      intro ms k hsub
      have hs' := fun z hz => hsub z (List.mem_cons_of_mem _ hz)
      unfold Trl.meetGo
      split
      ·
       rename_i hh
       rw [ih _ _ hs']
       have hwx : w ≠ x.lit := fun e => hh.1 (by rw [e])
       obtain ⟨h3, h4⟩ := hc w (hsub w (List.mem_cons_self ..)) hwx
       have h5 := h.fal_mono h3 hx (by rw [hpx]; omega)
       have h6 := (h.fal_pos h3).1
       rw [h.level_fal h3, if_neg (by omega), Nat.add_zero]
      ·
       exact ih _ _ hs'
    exact hgen c s.ms 0 (fun _ h => h)
   omega
 refine { mem := fun y hy => ?_, lF := fun y hy => ?_, mF := fun y hy => ?_, ln := rAdd_nodup _ e2, mn := rAdd_nodup _ hi.mn, low := fun y hy hp => ?_, lits := fun y => ?_, litd := hi.litd, hint := by simp only [rNext, hi.hint], klen := ?_, key := ⟨?_, fun k hk => ?_⟩, op := hop', kept := fun y hy hp => ?_, smet := g1, smn := g2 }
 ·
  rw [hms y hy]
  simp only [rNext, rAdd_iff, hi.mem y hy]
 ·
  rcases (hnew y).1 hy with ⟨hy, _⟩ | hy
  ·
   exact hi.lF y hy
  ·
   exact (hrF y hy).1
 ·
  rcases (rAdd_iff _ _ _).1 hy with hy | hy
  ·
   exact hi.mF y hy
  ·
   exact (hrF y hy).1
 ·
  rw [hms y hy]
  simp only [rNext]
  rw [hnew]
  refine or_congr ?_ Iff.rfl
  rw [hi.low y hy (by omega)]
  refine and_iff_left (fun e => ?_)
  rw [e, hpx] at hp
  omega
 ·
  simp only [rNext]
  rw [hi.lits y, hnew]
  constructor
  ·
   rintro ⟨h1, h2⟩
   refine ⟨.inl ⟨h1, fun e => ?_⟩, by omega⟩
   rw [e, hpx] at h2
   omega
  ·
   rintro ⟨(⟨h1, h2⟩ | h1), h3⟩
   ·
    refine ⟨h1, ?_⟩
    have hne : rP its (litV y) ≠ q := fun e => h2 (key y (hi.lF y h1) e)
    omega
   ·
    have := (hrF y h1).2
    omega
 ·
  simp only [rNext, List.length_append, List.length_cons, List.length_nil, hi.klen]
 ·
  simp only [rNext]
  refine List.pairwise_append.2 ⟨hi.key.1, List.pairwise_singleton _ _, fun a ha b hb => ?_⟩
  rw [List.mem_singleton.1 hb, hgetD, hpx]
  have := hi.key.2 a ha
  omega
 ·
  simp only [rNext] at hk
  rcases List.mem_append.1 hk with hk | hk
  ·
   have := hi.key.2 k hk
   omega
  ·
   rw [List.mem_singleton.1 hk, hgetD, hpx]
   omega
 ·
  simp only [rNext] at hy
  rcases (hnew y).1 hy with ⟨h1, h2⟩ | h1
  ·
   have hne : rP its (litV y) ≠ q := fun e => h2 (key y (hi.lF y h1) e)
   obtain ⟨h4, h5⟩ := hi.kept y h1 (by omega)
   refine ⟨h4, fun e => ?_⟩
   have h6 := h5 e
   show (if T.level (litV x.lit : Nat) = lv then s.op + (((T.meetGo (litV x.lit : Int) lv c s.ms 0).2 : Int) - 1) else s.op) ≤ 1
   rw [if_neg (by omega)]
   exact h6
  ·
   have := (hrF y h1).2
   omega
theorem run_eq (h : Sim T its) {A : Arn} {all : List REn} (ha : ASim A all) (lv : Int) (p N : Nat) (s : CSt) (r : RSt) (hp : p ≤ its.length) (hN : p ≤ N) (hi : Inv its lv p s r) :
  (cfRun A T lv s (T.order.take p).reverse = none ∧ rIter all its lv N r = some none) ∨ ∃ s' r', cfRun A T lv s (T.order.take p).reverse = some s' ∧ rIter all its lv N r = some (some r') ∧ Inv its lv 0 s' r' := by
 induction p generalizing N s r with
 | zero =>
  have he := inv_end h hi
  refine .inr ⟨s, r, rfl, ?_, hi⟩
  cases N <;> (unfold rIter; rw [if_pos (by omega)])
 | succ q ih =>
  obtain ⟨x, hq⟩ : ∃ x, its[q]? = some x := ⟨its[q], List.getElem?_eq_getElem (by omega)⟩
  have ho : T.order[q]? = some x.lit := by rw [h.order, List.getElem?_map, hq]; rfl
  have ht : (T.order.take (q + 1)).reverse = x.lit :: (T.order.take q).reverse := by
   rw [List.take_add_one, ho, List.reverse_append]
   rfl
  rw [ht]
  unfold cfRun cfStep
  by_cases hm : (litV x.lit : Int) ∈ s.ms
  ·
   rw [if_neg (fun e => by rw [List.contains_iff_mem.2 hm] at e; cases e)]
   cases hg : T.goes lv s.op (litV x.lit : Int) with
   | false =>
    simp only [if_true]
    exact ih N _ _ (by omega) (by omega) (inv_keep h hi hq hm hg)
   | true =>
    rw [if_neg (by decide)]
    obtain ⟨n, hn1, hn2⟩ := inv_goes h hi hq hm hg
    obtain ⟨M, rfl⟩ : ∃ M, N = M + 1 := ⟨N - 1, by omega⟩
    have hgetD : r.l.getD n 0 = -x.lit := by rw [List.getD_eq_getElem?_getD, hn2]; rfl
    have hit : rIter all its lv (M + 1) r = match rReason all its (-x.lit) with
      | none => some none
      | some (r', b) => rIter all its lv M (rNext its r n r' b) := by
     rw [rIter, if_neg (by omega), hn1, Int.toNat_natCast, hgetD]
     cases rReason all its (-x.lit) <;> rfl
    rcases reason_eq h ha hq with ⟨h1, h2⟩ | ⟨id, c, h1, h2, _, h3⟩
    ·
     rw [hit, h1, h2]
     exact .inl ⟨rfl, rfl⟩
    ·
     rw [hit, h1, h2]
     exact ih M _ _ (by omega) (by omega) (inv_gone h hi hq hm hg hn2 h3)
  ·
   have hcm : s.ms.contains (litV x.lit : Int) = false := by
    cases hb : s.ms.contains (litV x.lit : Int) with
    | true => exact absurd (List.contains_iff_mem.1 hb) hm
    | false => rfl
   rw [if_pos hcm]
   exact ih N s r (by omega) (by omega) (inv_pass h hi hq hm)
/-! ### sorting -/
theorem rK_spec (at_ : List Int) (y : Int) (n : Nat) : (∀ j, rK at_ y n ≤ j → j < n → y < at_.getD j 0) ∧ (0 < rK at_ y n → at_.getD (rK at_ y n - 1) 0 ≤ y) := by
 induction n with
 | zero => exact ⟨fun j _ h => by omega, fun h => by simp [rK] at h⟩
 | succ n ih =>
  unfold rK
  split
  ·
   rename_i h
   refine ⟨fun j h1 h2 => ?_, ih.2⟩
   by_cases e : j = n
   ·
    rw [e]; exact h
   ·
    exact ih.1 j h1 (by omega)
  ·
   rename_i h
   exact ⟨fun j h1 h2 => by omega, fun _ => by rw [Nat.add_sub_cancel]; omega⟩
theorem rSrt_rev (out at_ l ks : List Int) (hk : ks.length = l.length) (hl : at_.length = out.length) (h1 : ks.Pairwise (· > ·)) (h2 : ∀ k ∈ ks, ∀ a ∈ at_, k < a) : rSrt out at_ l ks = l.reverse ++ out := by
 induction l generalizing out at_ ks with
 | nil =>
  cases ks with
  | nil => rfl
  | cons k ks => simp at hk
 | cons x l ih =>
  cases ks with
  | nil => simp at hk
  | cons k ks =>
   obtain ⟨p1, p2⟩ := List.pairwise_cons.1 h1
   have h0 : rK at_ k at_.length = 0 := by
    by_cases h0 : rK at_ k at_.length = 0
    ·
     exact h0
    ·
     have h3 := (rK_spec at_ k at_.length).2 (by omega)
     have h4 := rK_le at_ k at_.length
     have h5 := h2 k (List.mem_cons_self ..) (at_.getD (rK at_ k at_.length - 1) 0) (by
      rw [List.getD_eq_getElem?_getD, List.getElem?_eq_getElem (by omega)]
      exact List.getElem_mem _)
     omega
   unfold rSrt
   rw [h0]
   simp only [List.take_zero, List.nil_append, List.drop_zero, List.cons_append]
   rw [ih (x :: out) (k :: at_) ks (by simpa using hk) (by simp [hl]) p2 (fun a ha b hb => by
    rcases List.mem_cons.1 hb with rfl | hb
    ·
     exact p1 a ha
    ·
     exact h2 a (List.mem_cons_of_mem _ ha) b hb), List.reverse_cons, List.append_assoc]
   rfl
theorem rSrt_sort (f : Int → Int) (out l : List Int) (ho : out.Pairwise fun a b => f a ≤ f b) : (rSrt out (out.map f) l (l.map f)).Perm (out ++ l) ∧ (rSrt out (out.map f) l (l.map f)).Pairwise fun a b => f a ≤ f b := by
 induction l generalizing out with
 | nil => exact ⟨by simp [rSrt], ho⟩
 | cons x l ih =>
  simp only [List.map_cons]
  unfold rSrt
  obtain ⟨k, hk⟩ : ∃ k, rK (out.map f) (f x) (out.map f).length = k := ⟨_, rfl⟩
  obtain ⟨s1, s2⟩ := rK_spec (out.map f) (f x) (out.map f).length
  have s3 := rK_le (out.map f) (f x) (out.map f).length
  rw [hk] at s1 s2 s3 ⊢
  rw [List.length_map] at s1 s3
  have hget : ∀ j (hj : j < out.length), (out.map f).getD j 0 = f out[j] := fun j hj => by
   rw [List.getD_eq_getElem?_getD, List.getElem?_map, List.getElem?_eq_getElem hj]
   rfl
  have hsplit : out.take k ++ out.drop k = out := List.take_append_drop k out
  have ho2 := ho
  rw [← hsplit] at ho2
  obtain ⟨q1, q2, q3⟩ := List.pairwise_append.1 ho2
  have hlo : ∀ a ∈ out.take k, f a ≤ f x := fun a ha => by
   obtain ⟨j, hj, rfl⟩ := List.getElem_of_mem ha
   rw [List.length_take] at hj
   have h4 := s2 (by omega)
   rw [hget (k - 1) (by omega)] at h4
   rw [List.getElem_take]
   by_cases e : j = k - 1
   ·
    subst e
    exact h4
   ·
    have := List.pairwise_iff_getElem.1 ho j (k - 1) (by omega) (by omega) (by omega)
    omega
  have hhi : ∀ a ∈ out.drop k, f x ≤ f a := fun a ha => by
   obtain ⟨j, hj, rfl⟩ := List.getElem_of_mem ha
   rw [List.length_drop] at hj
   have h4 := s1 (k + j) (by omega) (by omega)
   rw [hget (k + j) (by omega)] at h4
   rw [List.getElem_drop]
   omega
  have hmap : (out.map f).take k ++ [f x] ++ (out.map f).drop k = (out.take k ++ [x] ++ out.drop k).map f := by
   simp only [List.map_append, List.map_take, List.map_drop, List.map_cons, List.map_nil]
  rw [hmap]
  obtain ⟨i1, i2⟩ := ih (out.take k ++ [x] ++ out.drop k) (by
   rw [List.append_assoc]
   refine List.pairwise_append.2 ⟨q1, ?_, fun a ha b hb => ?_⟩
   ·
    exact List.pairwise_cons.2 ⟨hhi, q2⟩
   ·
    rcases List.mem_cons.1 hb with rfl | hb
    ·
     exact hlo a ha
    ·
     exact q3 a ha b hb)
  refine ⟨i1.trans ?_, i2⟩
  have e1 : (out.take k ++ [x] ++ out.drop k).Perm (out ++ [x]) := by
   conv => rhs; rw [← hsplit]
   rw [List.append_assoc, List.append_assoc]
   exact List.Perm.append_left _ (List.perm_append_comm)
  refine (e1.append_right l).trans ?_
  rw [List.append_assoc]
  exact List.Perm.refl _
/-- sorted by keys: what it is -/
theorem rSorted_eq (f : Int → Int) (l target : List Int) (hp : l.Perm target) (ht : target.Pairwise fun a b => f a ≤ f b) (hi : ∀ a ∈ l, ∀ b ∈ l, f a = f b → a = b) : rSorted l (l.map f) = target := by
 obtain ⟨h1, h2⟩ := rSrt_sort f [] l List.Pairwise.nil
 refine List.Perm.eq_of_pairwise (le := fun a b => f a ≤ f b) (fun a b ha hb h3 h4 => ?_) h2 ht (h1.trans hp)
 exact hi a (h1.mem_iff.1 ha) b (hp.mem_iff.2 hb) (by omega)
theorem rMet_eq (l m : List Int) (hl : l.Nodup) (hm : m.Nodup) (h : ∀ x, x ∈ l ↔ x ∈ m) : rSorted l l = sortI m := by
 obtain ⟨h1, h2⟩ := rSrt_sort (fun x => x) [] l List.Pairwise.nil
 have e0 : l.map (fun x => x) = l := by simp
 rw [e0] at h1 h2
 have h1 : (rSorted l l).Perm l := h1
 have h2 : (rSorted l l).Pairwise fun a b => a ≤ b := h2
 refine (sortI_eq ?_ h2).symm
 exact ((List.perm_ext_iff_of_nodup hm hl).2 (fun x => (h x).symm)).trans h1.symm
/-! ### beginnings -/
theorem rFails_eq (its : List RIt) (acc c : List Int) : rFails its acc c = if (∀ x ∈ c, rVl its x < 0) then some (rAdd acc c) else none := by
 induction c generalizing acc with
 | nil => simp [rFails, rAdd]
 | cons y c ih =>
  unfold rFails rAdd
  by_cases h : 0 ≤ rVl its y
  ·
   rw [if_pos h, if_neg (fun hh => by have := hh y (List.mem_cons_self ..); omega)]
  ·
   rw [if_neg h, ih]
   congr 1
   refine propext ⟨fun hh x hx => ?_, fun hh x hx => hh x (List.mem_cons_of_mem _ hx)⟩
   rcases List.mem_cons.1 hx with rfl | hx
   ·
    omega
   ·
    exact hh x hx
theorem rGr_spec (its : List RIt) (m : Int) (l : List Int) : m ≤ rGr its m l ∧ (∀ x ∈ l, rL its x ≤ rGr its m l) ∧ (rGr its m l = m ∨ ∃ x ∈ l, rL its x = rGr its m l) := by
 induction l generalizing m with
 | nil => exact ⟨Int.le_refl _, fun _ h => (by cases h), .inl rfl⟩
 | cons y l ih =>
  unfold rGr
  obtain ⟨h1, h2, h3⟩ := ih (max m (rL its y))
  refine ⟨by omega, fun x hx => ?_, ?_⟩
  ·
   rcases List.mem_cons.1 hx with rfl | hx
   ·
    omega
   ·
    exact h2 x hx
  ·
   rcases h3 with h3 | ⟨x, hx, e⟩
   ·
    by_cases hm : rL its y ≤ m
    ·
     left; omega
    ·
     right; exact ⟨y, List.mem_cons_self .., by omega⟩
   ·
    exact .inr ⟨x, List.mem_cons_of_mem _ hx, e⟩
theorem failMax_eq (h : Sim T its) (m : Int) (c : List Int) : T.failMax c m = if (∀ x ∈ c, rVl its x < 0) then some (rGr its m c) else none := by
 induction c generalizing m with
 | nil => simp [Trl.failMax, rGr]
 | cons y c ih =>
  unfold Trl.failMax rGr
  rw [h.val y]
  by_cases hy : 0 ≤ rVl its y
  ·
   rw [if_pos hy, if_neg (fun hh => by have := hh y (List.mem_cons_self ..); omega)]
  ·
   rw [if_neg hy, ih, h.level_fal (by omega)]
   congr 1
   refine propext ⟨fun hh x hx => ?_, fun hh x hx => hh x (List.mem_cons_of_mem _ hx)⟩
   rcases List.mem_cons.1 hx with rfl | hx
   ·
    omega
   ·
    exact hh x hx
theorem rGr_add (its : List RIt) (c : List Int) : rGr its 0 (rAdd [] c) = rGr its 0 c := by
 obtain ⟨h1, h2, h3⟩ := rGr_spec its 0 (rAdd [] c)
 obtain ⟨g1, g2, g3⟩ := rGr_spec its 0 c
 have hm : ∀ x, x ∈ rAdd [] c ↔ x ∈ c := fun x => by rw [rAdd_iff]; simp
 have a : rGr its 0 (rAdd [] c) ≤ rGr its 0 c := by
  rcases h3 with h3 | ⟨x, hx, e⟩
  ·
   omega
  ·
   have := g2 x ((hm x).1 hx)
   omega
 have b : rGr its 0 c ≤ rGr its 0 (rAdd [] c) := by
  rcases g3 with g3 | ⟨x, hx, e⟩
  ·
   omega
  ·
   have := h2 x ((hm x).2 hx)
   omega
 omega
theorem inv_start (h : Sim T its) (lv : Int) (c : List Int) (hc : ∀ x ∈ c, rVl its x < 0) :
  Inv its lv its.length ⟨(T.meetGo 0 lv c [] 0).1, ((T.meetGo 0 lv c [] 0).2 : Nat), [], [], []⟩ ⟨rAdd [] c, rAdd [] c, [], []⟩ := by
 have hm : ∀ x, x ∈ rAdd [] c ↔ x ∈ c := fun x => by rw [rAdd_iff]; simp
 have hms : ∀ y, rVl its y < 0 → ((litV y : Int) ∈ (T.meetGo 0 lv c [] 0).1 ↔ y ∈ c) := fun y hy => by
  rw [meetGo_mem]
  constructor
  ·
   rintro (h1 | ⟨h1, w, hw, e⟩)
   ·
    cases h1
   ·
    rwa [← h.fal_inj (hc w hw) hy (by rw [e])]
  ·
   intro hy2
   have := (h.fal_pos hy).2.1
   exact .inr ⟨by omega, y, hy2, rfl⟩
 have hcnt := meet_cnt h (fun _ => true) 0 lv c [] [] 0 (fun w hw => .inr ⟨rfl, hc w hw, by have := (h.fal_pos (hc w hw)).2.1; omega⟩) (fun w _ _ => by simp)
 rw [List.filter_eq_self.2 (fun _ _ => rfl)] at hcnt
 have hno : ∀ y, rVl its y < 0 → ¬ ((its.length : Nat) : Int) ≤ rP its (litV y) := fun y hy => by
  have := (h.fal_pos hy).2.2.2
  omega
 refine { mem := fun y hy => by rw [hms y hy, hm], lF := fun y hy => hc y ((hm y).1 hy), mF := fun y hy => hc y ((hm y).1 hy), ln := rAdd_nodup _ List.nodup_nil, mn := rAdd_nodup _ List.nodup_nil, low := fun y hy _ => by rw [hms y hy, hm], lits := fun y => ?_, litd := List.Pairwise.nil, hint := rfl, klen := rfl, key := ⟨List.Pairwise.nil, fun _ h => (by cases h)⟩, op := ?_, kept := fun y hy hp => absurd hp (hno y (hc y ((hm y).1 hy))), smet := fun v => ?_, smn := List.nodup_nil }
 ·
  refine ⟨fun hh => (by cases hh), fun hh => absurd hh.2 (hno y (hc y ((hm y).1 hh.1)))⟩
 ·
  have h0 : cnt its lv [] = 0 := rfl
  simp only
  omega
 ·
  refine ⟨fun hh => (by cases hh), fun ⟨y, h1, _, _, h4, _⟩ => absurd h4 (hno y h1)⟩
/-! ### ends -/
theorem Sim.level_any (h : Sim T its) (y : Int) : (rP its (litV y : Nat) < 0 ∧ T.level (litV y : Nat) = 0) ∨ (0 ≤ rP its (litV y : Nat) ∧ T.level (litV y : Nat) = rL its y) := by
 rcases h.cases y with ⟨p, x, hp, e⟩ | hn
 ·
  right
  rw [← e, h.rp hp, h.level hp, h.rl hp e]
  exact ⟨by omega, rfl⟩
 ·
  left
  have h1 := rPl_none its (litV y : Nat) 0 (fun x hx => by have := hn x hx; omega)
  refine ⟨by unfold rP; omega, ?_⟩
  unfold Trl.level
  rw [h.why_none hn]
theorem rLvs_spec (h : Sim T its) (acc c : List Int) (hn : acc.Nodup) : (rLvs its acc c).Nodup ∧ ∀ x, x ∈ rLvs its acc c ↔ x ∈ acc ∨ x ∈ T.lvls c := by
 induction c generalizing acc with
 | nil => exact ⟨hn, fun x => by simp [rLvs, Trl.lvls]⟩
 | cons y c ih =>
  unfold rLvs Trl.lvls
  rcases h.level_any y with ⟨h1, h2⟩ | ⟨h1, h2⟩
  ·
   rw [if_neg (fun hh => by omega), if_neg (by omega)]
   exact ih acc hn
  ·
   rw [h2]
   by_cases h3 : 0 < rL its y
   ·
    rw [if_pos h3]
    by_cases h4 : acc.contains (rL its y) = false
    ·
     rw [if_pos ⟨h1, h3, h4⟩]
     obtain ⟨g1, g2⟩ := ih (acc ++ [rL its y]) (List.nodup_append.2 ⟨hn, List.pairwise_singleton _ _, fun a ha b hb e => by
      rw [List.mem_singleton.1 hb] at e
      subst e
      rw [List.contains_iff_mem.2 ha] at h4
      cases h4⟩)
     refine ⟨g1, fun x => ?_⟩
     rw [g2 x]
     simp only [List.mem_append, List.mem_cons, List.not_mem_nil, or_false, or_assoc]
    ·
     rw [if_neg (fun hh => h4 hh.2.2)]
     obtain ⟨g1, g2⟩ := ih acc hn
     refine ⟨g1, fun x => ?_⟩
     rw [g2 x]
     have h5 : rL its y ∈ acc := by
      cases hb : acc.contains (rL its y) with
      | true => exact List.contains_iff_mem.1 hb
      | false => exact absurd hb h4
     refine ⟨fun hh => hh.elim .inl (fun e => .inr (List.mem_cons_of_mem _ e)), fun hh => hh.elim .inl (fun e => ?_)⟩
     rcases List.mem_cons.1 e with rfl | e
     ·
      exact .inl h5
     ·
      exact .inr e
   ·
    rw [if_neg h3, if_neg (fun hh => h3 hh.2.1)]
    exact ih acc hn
theorem levels_eq (h : Sim T its) (c : List Int) : T.nLevels c = (rLvs its [] c).length := by
 obtain ⟨h1, h2⟩ := rLvs_spec h [] c List.nodup_nil
 exact dn_seen h1 (fun x => by rw [h2 x]; simp)
theorem levelsOf_eq (h : Sim T its) (c : List Int) : T.levelsOf c = rLevels its c := by
 unfold Trl.levelsOf rLevels
 rw [levels_eq h]
theorem right_eq (h : Sim T its) {A : Arn} {all : List REn} (ha : ASim A all) (v : Int) : rightB A T v = rRight all its v := by
 unfold rightB rRight
 rw [h.val v]
 by_cases hv : v < 1
 ·
  rw [if_pos hv]
  have h1 : rP its v < 0 := by
   have := rPl_none its v 0
   unfold rP
   rcases rPl_ge its v 0 with e | e
   ·
    omega
   ·
    have : ∀ (l : List RIt) (i : Nat), rPl l v i = -1 := fun l => by
     induction l with
     | nil => exact fun _ => rfl
     | cons y l ih =>
      intro i
      unfold rPl
      rw [if_neg (fun hh => by omega)]
      exact ih _
    have := this its 0
    omega
  rw [if_pos h1]
  split <;> rfl
 ·
  rw [if_neg hv]
  by_cases hb : litB v = true
  ·
   have hvv : (litV v : Int) = v := by
    have := litV_pos hb
    omega
   rcases h.cases v with ⟨p, x, hp, e⟩ | hn
   ·
    have h1 := (h.val_at hp v e).2
    have h2 : rP its v = p := by rw [← hvv, ← e, h.rp hp]
    have h6 : rVl its v ≠ 0 := by split at h1 <;> omega
    have h7 : ¬ (p : Int) < 0 := by omega
    rw [h2, if_neg h6, if_neg h7, Int.toNat_natCast, hp]
    simp only
    have h3 : (if rVl its v = -1 then litN v else v) = x.lit := by
     rcases litV_two (h.at_ p x hp).1 e with e2 | e2
     ·
      rw [h1, if_pos e2.symm, if_neg (by decide), e2]
     ·
      have h8 := (litB_iff v).1 hb
      have h9 : ¬ x.lit = v := by omega
      rw [if_neg h9] at h1
      rw [if_pos h1]
      unfold litN
      rw [if_pos hb]
      omega
    rw [h3]
    rcases reason_eq h ha hp with ⟨g1, g2⟩ | ⟨id, c, g1, g2, _⟩
    ·
     rw [g1, g2]; rfl
    ·
     rw [g1, g2]; rfl
   ·
    have h1 := rVl_none its v (fun _ => hn)
    have h2 := rPl_none its v 0 (fun x hx => by have := hn x hx; omega)
    rw [if_pos h1, if_pos (by unfold rP; omega)]
  ·
   have hb2 : litB v = false := by
    cases hh : litB v with
    | true => exact absurd hh hb
    | false => rfl
   have h1 := rVl_none its v (fun hh => absurd hh hb)
   rw [if_pos h1]
   have h2 := rPl_none its v 0 (fun x hx e => by
    have h3 := litV_pos (h.litb hx)
    have h4 := (litB_iff x.lit).1 (h.litb hx)
    exact hb ((litB_iff v).2 (by omega)))
   rw [if_pos (by unfold rP; omega)]
/-- Conflict answers the same -/
theorem conf_eq (h : Sim T its) {A : Arn} {all : List REn} (ha : ASim A all) (id : Int) : ∃ res : Option RSt,
  ((rFailsAt all its id).2 = 0 → rIter all its (rGr its 0 (rFailsAt all its id).1) its.length ⟨(rFailsAt all its id).1, (rFailsAt all its id).1, [], []⟩ = some res) ∧
  (((rFailsAt all its id).2 ≠ 0 ∧ confP A T id = (lrn0, (rFailsAt all its id).2.toNat) ∧ 0 ≤ (rFailsAt all its id).2) ∨ ((rFailsAt all its id).2 = 0 ∧ res = none ∧ confP A T id = (lrn0, 141)) ∨
   (rFailsAt all its id).2 = 0 ∧ ∃ s, res = some s ∧ confP A T id = (⟨rLits its s, rBack its s, rLevels its (rLits its s), rHints id s, rMet its s⟩, 0)) := by
 unfold confP rFailsAt
 rw [ha.get id]
 cases hg : rGet all id with
 | none =>
  rw [if_pos (rGet_none hg)]
  exact ⟨none, fun hh => absurd hh (by decide), .inl ⟨by decide, rfl, by decide⟩⟩
 | some c =>
  obtain ⟨h1, e, h2, rfl⟩ := rGet_some hg
  rw [if_neg h1, h2]
  simp only
  rw [rFails_eq, failMax_eq h]
  by_cases hc : ∀ x ∈ e.lits, rVl its x < 0
  ·
   rw [if_pos hc, if_pos hc]
   simp only
   rw [rGr_add]
   obtain ⟨lv, hlv⟩ : ∃ lv, rGr its 0 e.lits = lv := ⟨_, rfl⟩
   rw [hlv]
   have hlen : T.order.take its.length = T.order := List.take_of_length_le (by rw [h.order, List.length_map]; exact Nat.le_refl _)
   have hr := run_eq h ha lv its.length its.length _ _ (Nat.le_refl _) (Nat.le_refl _) (inv_start h lv e.lits hc)
   rw [hlen] at hr
   unfold cfEnd
   rcases hr with ⟨g1, g2⟩ | ⟨s, r, g1, g2, g3⟩
   ·
    exact ⟨none, fun _ => g2, .inr (.inl ⟨trivial, rfl, by rw [g1]⟩)⟩
   ·
    refine ⟨some r, fun _ => g2, .inr (.inr ⟨trivial, r, rfl, ?_⟩)⟩
    rw [g1]
    simp only
    have hp0 : ∀ y, rVl its y < 0 → (0 : Int) ≤ rP its (litV y) := fun y hy => (h.fal_pos hy).2.2.1
    have hlm : ∀ y, y ∈ s.lits ↔ y ∈ r.l := fun y => by
     rw [g3.lits y]
     exact and_iff_left_of_imp (fun hy => hp0 y (g3.lF y hy))
    have hln : s.lits.Nodup := g3.litd.imp (fun hab e => by rw [e] at hab; omega)
    have hL : rLits its r = s.lits := by
     unfold rLits
     refine rSorted_eq (fun x => -(rP its (litV x))) r.l s.lits ((List.perm_ext_iff_of_nodup g3.ln hln).2 (fun y => (hlm y).symm)) (g3.litd.imp (fun hab => by omega)) (fun a ha b hb e => h.fal_inj (g3.lF a ha) (g3.lF b hb) (by omega))
    have hlen2 : r.l.length = s.lits.length := ((List.perm_ext_iff_of_nodup g3.ln hln).2 (fun y => (hlm y).symm)).length_eq
    have hB : rBack its r = T.backOf s.lits := by
     unfold rBack
     rw [hL, hlen2]
     match hsl : s.lits with
     | [] => rfl
     | [a] => rfl
     | a :: b :: t =>
      simp only [List.length_cons, Trl.backOf]
      rw [if_pos (by omega)]
      have hbm : b ∈ r.l := (hlm b).1 (by rw [hsl]; simp)
      rw [h.level_fal (g3.lF b hbm)]
      rfl
    have hH : rHints id r = s.hints.reverse ++ [id] := by
     unfold rHints rSorted
     rw [g3.hint, rSrt_rev [] [] s.hints r.keys g3.klen rfl g3.key.1 (fun _ _ _ hh => by cases hh), List.append_nil]
    have hM : rMet its r = sortI s.met := by
     unfold rMet
     refine rMet_eq _ _ ?_ g3.smn (fun v => ?_)
     ·
      unfold rVars
      refine List.pairwise_map.2 ((g3.mn.sublist List.filter_sublist).imp_of_mem (fun {a b} ha hb hab e => hab ?_))
      exact h.fal_inj (g3.mF a (List.mem_filter.1 ha).1) (g3.mF b (List.mem_filter.1 hb).1) (by rw [e])
     ·
      rw [g3.smet v]
      unfold rVars
      rw [List.mem_map]
      constructor
      ·
       rintro ⟨y, hy, e⟩
       obtain ⟨hy1, hy2⟩ := List.mem_filter.1 hy
       have hf := g3.mF y hy1
       exact ⟨y, hf, e.symm, (g3.mem y hf).2 hy1, hp0 y hf, by simpa using hy2⟩
      ·
       rintro ⟨y, h1, h2, h3, h4, h5⟩
       exact ⟨y, List.mem_filter.2 ⟨(g3.mem y h1).1 h3, by simpa using h5⟩, h2.symm⟩
    rw [hL, hB, hH, hM, levelsOf_eq h]
  ·
   rw [if_neg hc, if_neg hc]
   exact ⟨none, fun hh => absurd hh (by decide), .inl ⟨by decide, rfl, by decide⟩⟩
/-- Level, too -/
theorem level_eq (h : Sim T its) {A : Arn} {all : List REn} (ha : ASim A all) (id : Int) :
  (A.get id = none ∧ rFailsAt all its id = ([], 30)) ∨ ∃ c, A.get id = some c ∧ ((T.failMax c 0 = none ∧ rFailsAt all its id = ([], 140)) ∨ ((rFailsAt all its id).2 = 0 ∧ T.failMax c 0 = some (rGr its 0 (rFailsAt all its id).1))) := by
 unfold rFailsAt
 rw [ha.get id]
 cases hg : rGet all id with
 | none =>
  rw [if_pos (rGet_none hg)]
  exact .inl ⟨rfl, rfl⟩
 | some c =>
  obtain ⟨h1, e, h2, rfl⟩ := rGet_some hg
  rw [if_neg h1, h2]
  simp only
  rw [rFails_eq]
  refine .inr ⟨e.lits, rfl, ?_⟩
  rw [failMax_eq h]
  by_cases hc : ∀ x ∈ e.lits, rVl its x < 0
  ·
   rw [if_pos hc, if_pos hc]
   exact .inr ⟨rfl, by rw [rGr_add]⟩
  ·
   rw [if_neg hc, if_neg hc]
   exact .inl ⟨rfl, rfl⟩
/-! ### how they are made -/
/-- the reference's arena -/
def RAr.put (a : RAr) (id : Int) (c : List Int) : RAr := if clauseB c = true then ⟨a.all ++ [⟨id, c⟩], id⟩ else a
def rAddAll : RAr → Nat → List (List Int) → RAr
 | a, _, [] => a
 | a, i, c :: cs => rAddAll (a.put ((i : Int) + 1) c) (i + 1) cs
theorem rFd_snoc (l : List REn) (e : REn) (id : Int) (i : Nat) : (0 ≤ rFd l id i ∧ rFd (l ++ [e]) id i = rFd l id i) ∨ (rFd l id i = -1 ∧ rFd (l ++ [e]) id i = if e.id = id then ((i + l.length : Nat) : Int) else -1) := by
 induction l generalizing i with
 | nil => exact .inr ⟨rfl, rfl⟩
 | cons x l ih =>
  simp only [List.cons_append]
  unfold rFd
  by_cases h : x.id = id
  ·
   rw [if_pos h, if_pos h]
   exact .inl ⟨by omega, rfl⟩
  ·
   rw [if_neg h, if_neg h, List.length_cons, show i + (l.length + 1) = i + 1 + l.length by omega]
   exact ih (i + 1)
theorem rGet_snoc (all : List REn) (id : Int) (c : List Int) (j : Int) (hid : ∀ e ∈ all, e.id < id) : rGet (all ++ [⟨id, c⟩]) j = if j = id then some c else rGet all j := by
 have hfd : ∀ (l : List REn) (i : Nat), (∀ e ∈ l, e.id ≠ j) → rFd l j i = -1 := fun l => by
  induction l with
  | nil => exact fun _ _ => rfl
  | cons y l ih =>
   intro i hh
   unfold rFd
   rw [if_neg (hh y (List.mem_cons_self ..))]
   exact ih (i + 1) (fun e he => hh e (List.mem_cons_of_mem _ he))
 unfold rGet rFind
 rcases rFd_snoc all ⟨id, c⟩ j 0 with ⟨h1, h2⟩ | ⟨h1, h2⟩
 ·
  rw [h2]
  have h3 : ¬ rFd all j 0 < 0 := by omega
  rw [if_neg h3, if_neg h3]
  have hj : j ≠ id := fun e => by
   have := hfd all 0 (fun x hx => by have := hid x hx; omega)
   omega
  rw [if_neg hj, List.getElem?_append_left (by have := rFd_ge all j 0; omega)]
 ·
  rw [h2, h1]
  by_cases hj : j = id
  ·
   have h4 : (⟨id, c⟩ : REn).id = j := hj.symm
   have h5 : ¬ ((0 + all.length : Nat) : Int) < 0 := by omega
   rw [if_pos h4, if_pos hj, if_neg h5, Int.toNat_natCast, Nat.zero_add]
   simp
  ·
   have h4 : ¬ (⟨id, c⟩ : REn).id = j := fun e => hj e.symm
   rw [if_neg h4, if_neg hj]
   rfl
structure PSim (A : Arn) (a : RAr) (i : Nat) : Prop where
 sim : ASim A a.all
 inv : A.Inv
 last : A.last ≤ i
 rlast : a.last ≤ i
 ids : ∀ e ∈ a.all, e.id ≤ i
theorem PSim.addAll {A : Arn} {a : RAr} {i : Nat} (h : PSim A a i) (cs : List (List Int)) (hn : i + cs.length ≤ 1000) : PSim (addAll A i cs) (rAddAll a i cs) (i + cs.length) := by
 induction cs generalizing A a i with
 | nil => exact h
 | cons c cs ih =>
  simp only [List.length_cons] at hn
  have key : PSim (A.put ((i : Int) + 1) c) (a.put ((i : Int) + 1) c) (i + 1) := by
   unfold Arn.put RAr.put
   split
   ·
    have hl := h.last
    refine ⟨⟨fun id => ?_, ?_⟩, h.inv.add c (by omega), by simp only [Arn.add]; omega, by simp only; omega, fun e he => ?_⟩
    ·
     rw [rGet_snoc _ _ _ _ (fun e he => by have := h.ids e he; omega)]
     by_cases hj : id = (i : Int) + 1
     ·
      subst hj
      rw [if_pos rfl, h.inv.get_add c (by omega) (by omega)]
     ·
      rw [if_neg hj, h.inv.get_add_ne c hj, h.sim.get id]
    ·
     simp only [Arn.add, List.length_append, List.length_cons, List.length_nil, h.sim.count]
    ·
     rcases List.mem_append.1 he with he | he
     ·
      have := h.ids e he
      omega
     ·
      rw [List.mem_singleton.1 he]
      simp only
      omega
   ·
    exact ⟨h.sim, h.inv, by have := h.last; omega, by have := h.rlast; omega, fun e he => by have := h.ids e he; omega⟩
  have := ih key (by omega)
  rw [show i + 1 + cs.length = i + (c :: cs).length by simp only [List.length_cons]; omega] at this
  exact this
theorem psim0 (hA : arn0.Inv) (hg : ∀ id, arn0.get id = none) : PSim arn0 ⟨[], 0⟩ 0 :=
 ⟨⟨fun id => by rw [hg]; rfl, rfl⟩, hA, by simp [arn0], by simp, fun e h => (by cases h)⟩
end Go.Proofs.YtiodfolcnnkdjaaGreat
namespace Go.Proofs.YtiodfolcnnkdjaaGreat
open Go.RowKit

theorem res_rt {fn : Func} (h : fn.results = #[.cell 2 59]) {w : World} {r : Nat} {c0 c1 c2 c3 : Value} {t : TypeId} (h6 : w.heap[r]? = some (.cells #[c0, c1, c2, c3] t (0, 0)))
  (tmps : Array Value) (t2 : tmps[2]?.getD undef = .pointer (some ⟨r, 0, none⟩)) :
  (results fn tmps).run Tryz.prog w = .ok (.agg #[c0, c1, c2, c3]) w := by
 obtain ⟨⟨p0, p1, p2, p3⟩, _⟩ := cells4 h6
 simp [results, h, go_sem, t2, p0, p1, p2, p3]
set_option maxRecDepth 100000 in
theorem ref_new04 (n : Int) (w : World) :
  Calls Tryz.prog 51 #[.int .i64 n] w fun e w' => ∃ v, e = .returned v ∧ RTO (fun g => w.heap.size ≤ g) w' v ⟨n, 0, [], [0]⟩ ∧ Below w.heap.size w w' := by
 go_enter Tryz.func51, Tryz.ntmps51
 go_wp2_with fail
 obtain ⟨wa, hwa, hba, hb0, hb1⟩ := rbox2 w #[.int .i64 n, .int .i64 0, .slice none 0 0, .slice (some ⟨w.heap.size + 1, 0, none⟩) 1 1] #[.int .i64 0] 59 3
 rw [hwa]
 refine bodyPost_ret (res_rt rfl hb0 _ rfl) rfl ⟨_, rfl, ⟨_, _, rfl, RowO.nil _ _, ?_⟩, hba⟩
 refine ⟨_, 1, rfl, Nat.le_refl _, (fun h => by cases h), fun i x hi => ⟨w.heap.size + 1, 0, rfl, heap_lt hb1, Nat.le_succ _, ?_⟩⟩
 match i, hi with
 | 0, hi =>
  obtain rfl := Option.some.inj hi
  exact mx_cell (j := 0) hb1
def rUsed (l : List REn) : Nat := (l.map fun e => e.lits.length).sum
set_option maxRecDepth 100000 in
set_option maxHeartbeats 1000000 in
theorem ref_used (a : RAr) (av : Value) (w : World) (h : RAAt w av a) (hl : a.all.length ≤ 1000000) (hu : rUsed a.all ≤ 1000000000) :
  Calls Tryz.prog 91 #[av] w fun e w' => e = .returned (.int .i64 (rUsed a.all : Nat)) ∧ Below w.heap.size w w' := by
 have HUS := Lib.hid hu
 obtain ⟨ev, rfl, he⟩ := h
 obtain ⟨wa, hwa⟩ : ∃ z, w.alloc (.cells #[ev, .int .i64 a.last] 56) = z := ⟨_, rfl⟩
 have hba : Below w.heap.size w wa := by rw [← hwa]; exact mx_al _ _
 have hbn : wa.heap[w.heap.size]? = some (.cells #[ev, .int .i64 a.last] 56 (0, 0)) := by rw [← hwa]; exact World.alloc_heap_new _ _
 have HE := Lib.hid (he.below hba)
 have HBA := Lib.hid hba
 have HWA := Lib.hid hwa
 obtain ⟨ms, hms, ⟨A, c, rfl, _, _, _⟩, _⟩ := he
 have c0 : wa.cell? ⟨w.heap.size, 0, none⟩ = some (.slice A a.all.length c) := mx_cell (j := 0) hbn
 clear hba hbn hwa hms hu
 go_enter Tryz.func91, Tryz.ntmps91
 go_wp2_with fail
 rw [HWA.out]
 go_loop [3, 4] (fun n i => ∃ (k m : Nat), k ≤ a.all.length ∧ i = .int .i64 k ∧ n = .int .i64 m ∧ m = rUsed (a.all.take k)) (fun _ i => a.all.length - (intOf i).toNat)
 case atStart => exact ⟨0, 0, Nat.zero_le _, rfl, rfl, rfl⟩
 case round =>
  obtain ⟨k, m, hk, rfl, rfl, hm⟩ := hrel
  have HM := Lib.hid hm
  clear hm
  by_cases hlt : k < a.all.length
  ·
   obtain ⟨x, hx⟩ := getElem_of hlt
   obtain ⟨g, o, c', u, hA, _, hg, _, d1, hu⟩ := HE.out.at_ hx
   simp only [Value.slice.injEq, true_and] at hA
   obtain ⟨rfl, rfl⟩ := hA
   obtain ⟨Au, cu, rfl, _⟩ := hu
   have HN := Lib.hid (show m + x.lits.length = rUsed (a.all.take (k + 1)) from by
    rw [HM.out]
    unfold rUsed
    rw [List.take_add_one, hx]
    simp)
   have hle : m + x.lits.length ≤ 1000000000 := by
    rw [HN.out]
    refine Nat.le_trans ?_ HUS.out
    unfold rUsed
    conv => rhs; rw [← List.take_append_drop (k + 1) a.all, List.map_append, List.sum_append]
    exact Nat.le_add_right _ _
   have w1 : IntKind.i64.wrap ((m : Int) + (x.lits.length : Int)) = (m : Int) + (x.lits.length : Int) := IntWalk.i64_in _ (by omega)
   clear hx
   go_wp2_with fail
   go_round
   case rel => exact ⟨k + 1, m + x.lits.length, by omega, by go_num, by go_num, HN.out⟩
   case measure => simp [intOf]; omega
  ·
   obtain rfl : k = a.all.length := by omega
   have hM := HM.out
   rw [List.take_length] at hM
   have HN := Lib.hid hM
   clear hM
   go_wp2_with fail
   go_ret
   exact ⟨by rw [← HN.out]; rfl, HBA.out⟩
end Go.Proofs.YtiodfolcnnkdjaaGreat
namespace Go.Proofs.YtiodfolcnnkdjaaGreat
open Go.RowKit

theorem tinfo_entry : (Tryz.prog.info? 110).map (fun i => (i.zero, i.size, i.bytes)) = some (some (.agg #[.int .i64 0, .slice none 0 0]), 2, 32) := by kernel_rfl
theorem res_ra {fn : Func} (h : fn.results = #[.cell 6 56, .tmp 7]) {w : World} {r : Nat} {c0 c1 v : Value} {t : TypeId} (h6 : w.heap[r]? = some (.cells #[c0, c1] t (0, 0)))
  (tmps : Array Value) (t6 : tmps[6]?.getD undef = .pointer (some ⟨r, 0, none⟩)) (t7 : tmps[7]?.getD undef = v) :
  (results fn tmps).run Tryz.prog w = .ok (.tuple #[.agg #[c0, c1], v]) w := by
 have p0 := mx_cell (j := 0) h6
 have p1 := mx_cell (j := 1) h6
 simp at p0 p1
 simp [results, h, go_sem, t6, t7, p0, p1]
set_option maxRecDepth 100000 in
set_option maxHeartbeats 1000000 in
theorem ref_add_bad {O Q : Nat → Prop} (id : Int) (u : Value) (c : List Int) (a : RAr) (av : Value) (w : World) (h : RAO Q w av a) (hc : IntsIn O w u c) (hcl : c.length ≤ 1000000) (hr : clauseB c = false) :
  Calls Tryz.prog 52 #[av, .int .i64 id, u] w fun e w' => ∃ v, e = .returned (.tuple #[v, .int .i64 20]) ∧ RAO Q w' v a ∧ Below w.heap.size w w' := by
 obtain ⟨ev, rfl, he⟩ := h
 have HEW := Lib.hid he
 obtain ⟨_, _, ⟨Ae, ce, rfl, _⟩, _⟩ := he
 obtain ⟨wa, hwa, hba, hb0, hb1⟩ := rbox2 w #[.slice Ae a.all.length ce, .int .i64 a.last] #[.slice none 0 0, .int .i64 0] 56 56
 have HBA := Lib.hid hba
 have HWA := Lib.hid hwa
 have HB1 := Lib.hid hb1
 have HRC := ref_right_clause u c wa (hc.below hba) (by omega)
 rw [hr] at HRC
 have HRC := Lib.hid HRC
 have a0 : wa.cell? ⟨w.heap.size, 0, none⟩ = some (.slice Ae a.all.length ce) := mx_cell (j := 0) hb0
 have a1 : wa.cell? ⟨w.heap.size, 1, none⟩ = some (.int .i64 a.last) := mx_cell (j := 1) hb0
 have r0 : wa.cell? ⟨w.heap.size + 1, 0, none⟩ = some (.slice none 0 0) := mx_cell (j := 0) hb1
 have r1 : wa.cell? ⟨w.heap.size + 1, 1, none⟩ = some (.int .i64 0) := mx_cell (j := 1) hb1
 have f0 := mx_free (j := 0) hb1
 have f1 := mx_free (j := 1) hb1
 clear hwa hba hb0 hb1 hr
 go_enter Tryz.func52, Tryz.ntmps52
 go_upto_region 1 with fail
 rw [HWA.out]
 go_wp2_with fail
 refine HRC.out.mono ?_
 rintro e w' ⟨rfl, rfl⟩
 go_wp2_with fail
 obtain ⟨Wf, hWf⟩ : ∃ x, (wa.setCell ⟨w.heap.size + 1, 0, none⟩ (.slice Ae a.all.length ce)).setCell ⟨w.heap.size + 1, 1, none⟩ (.int .i64 a.last) = x := ⟨_, rfl⟩
 rw [hWf]
 have r6 : Wf.heap[w.heap.size + 1]? = some (.cells #[.slice Ae a.all.length ce, .int .i64 a.last] 56 (0, 0)) := by
  rw [← hWf]
  exact mx_set (j := 1) (mx_set (j := 0) HB1.out _) _
 have hbf : Below w.heap.size w Wf := by
  rw [← hWf]
  exact (HBA.out.setCell (by simp) _).setCell (by simp) _
 exact bodyPost_ret (res_ra rfl r6 _ rfl rfl) rfl ⟨_, rfl, ⟨_, rfl, HEW.out.below hbf⟩, hbf⟩
theorem one_cell {O : Nat → Prop} {w : World} {u : Value} {xs : List Int} (h : IntsIn O w u xs) : u.oneCell' = true := by
 obtain ⟨A, c, rfl, _⟩ := h
 rfl
set_option maxRecDepth 100000 in
set_option maxHeartbeats 4000000 in
theorem ref_add_ok {O Q : Nat → Prop} (id : Int) (u : Value) (c : List Int) (a : RAr) (av : Value) (w : World) (h : RAO Q w av a) (hc : IntsIn O w u c) (hcl : c.length ≤ 1000) (hr : clauseB c = true) (hal : a.all.length ≤ 1000) (hus : rUsed a.all ≤ 1000000) (hi1 : 1 ≤ id) (hi2 : id ≤ 1073741824) (hi3 : a.last < id) :
  Calls Tryz.prog 52 #[av, .int .i64 id, u] w fun e w' => ∃ v, e = .returned (.tuple #[v, .int .i64 0]) ∧ RAO (fun g => Q g ∨ O g ∨ w.heap.size ≤ g) w' v ⟨a.all ++ [⟨id, c⟩], id⟩ ∧ Below w.heap.size w w' := by
 obtain ⟨i0, hn0, hn1, hn2, hn3⟩ := info_parts tinfo_entry
 have HUE := Lib.hid (show ∀ (W : World) v, RAAt W v a → Calls Tryz.prog 91 #[v] W fun e w' => e = .returned (.int .i64 (rUsed a.all : Nat)) ∧ Below W.heap.size W w' from fun W v hv => ref_used a v W hv (by omega) (by omega))
 obtain ⟨ev, rfl, he⟩ := h
 have HEW := Lib.hid he
 obtain ⟨ms, hms, ⟨Ae, ce, rfl, hec1, hec2, hec3⟩, hem⟩ := he
 have HMS := Lib.hid hms
 have HEM := Lib.hid hem
 have hrow : RowIn w (.slice Ae a.all.length ce) a.all.length (ms.flatMap MEn.cells) := RowO.weak (O := Q) ⟨Ae, ce, rfl, hec1, hec2, hec3⟩
 have HROW := Lib.hid hrow
 have HCW := Lib.hid hc
 obtain ⟨Au, cu, rfl, _⟩ := hc
 obtain ⟨wa, hwa, hba, hb0, hb1⟩ := rbox2 w #[.slice Ae a.all.length ce, .int .i64 a.last] #[.slice none 0 0, .int .i64 0] 56 56
 have HBA := Lib.hid hba
 have HWA := Lib.hid hwa
 have HB0 := Lib.hid hb0
 have HB1 := Lib.hid hb1
 have HRC := ref_right_clause (.slice Au c.length cu) c wa (HCW.out.below hba) (by omega)
 rw [hr] at HRC
 have HRC := Lib.hid HRC
 have HUS := Lib.hid (HUE.out wa _ (⟨_, rfl, HEW.out.weak.below hba⟩ : RAAt wa (.agg #[.slice Ae a.all.length ce, .int .i64 a.last]) a))
 have a0 : wa.cell? ⟨w.heap.size, 0, none⟩ = some (.slice Ae a.all.length ce) := mx_cell (j := 0) hb0
 have a1 : wa.cell? ⟨w.heap.size, 1, none⟩ = some (.int .i64 a.last) := mx_cell (j := 1) hb0
 have q0 : decide (id < 1) = false := by simpa using hi1
 have q1 : decide (1073741824 < id) = false := by simpa using hi2
 have q2 : decide (id ≤ a.last) = false := by simpa using hi3
 have w1 : IntKind.i64.wrap ((rUsed a.all : Int) + (c.length : Int)) = (rUsed a.all : Int) + (c.length : Int) := IntWalk.i64_in _ (by omega)
 have q3 : decide (1048576 < (rUsed a.all : Int) + (c.length : Int)) = false := by simp; omega
 obtain ⟨us, hu0⟩ : ∃ z, rUsed a.all = z := ⟨_, rfl⟩
 rw [hu0] at HUS w1 q3 hus
 have hz0 := heap_lt hb0
 have hz1 := heap_lt hb1
 clear hwa hba hb0 hb1 hr hms hem hrow hec2 hec3 hu0 HUE
 go_enter Tryz.func52, Tryz.ntmps52
 go_upto_region 1 with fail
 rw [HWA.out]
 go_wp2_with fail
 refine HRC.out.mono ?_
 rintro e w' ⟨rfl, rfl⟩
 go_wp2_with fail
 refine HUS.out.mono ?_
 rintro e w2 ⟨rfl, hb⟩
 have HB2 := Lib.hid hb
 have b0 := (hb.block w.heap.size hz0).trans HB0.out
 have b1 := (hb.block (w.heap.size + 1) hz1).trans HB1.out
 have HB02 := Lib.hid b0
 have HB12 := Lib.hid b1
 have HROW2 := Lib.hid ((HROW.out.below HBA.out).below hb)
 have hz02 := heap_lt b0
 have hz12 := heap_lt b1
 replace a0 : w2.cell? ⟨w.heap.size, 0, none⟩ = some (.slice Ae a.all.length ce) := mx_cell (j := 0) b0
 clear hb a1 b0 b1 HUS HRC HB0 HB1 HROW
 have HO0 := Lib.hid (own_none w2 w2.heap.size 110 2 (Nat.le_refl _))
 have HSR := Lib.hid (((HROW2.out.below (mx_al w2 (.cells #[] 110))).src (fun h0 => by
  have : ms.length = 0 := by rw [← h0, ← HMS.out, List.length_map]
  rw [List.eq_nil_of_length_eq_zero this]
  rfl)))
 have hml : ms.length = a.all.length := by rw [← HMS.out, List.length_map]
 have HCL := Lib.hid (show (ms.flatMap MEn.cells).length = a.all.length * 2 from by rw [enCells_len, hml])
 clear hml
 have HONE := Lib.hid (show ∀ z ∈ ms.flatMap MEn.cells, z.oneCell' = true from fun z hz => by
  obtain ⟨m, hm1, hm⟩ := List.mem_flatMap.1 hz
  rcases List.mem_cons.1 hm with rfl | hm
  ·
   rfl
  ·
   rw [List.mem_singleton.1 hm]
   exact one_cell (HEM.out m hm1))
 go_upto_region 8 with (at_builtin; first | (refine wpList_append_any rfl _ _ 54 rfl w2.heap.size 110 i0 (.agg #[.int .i64 0, .slice none 0 0]) 2 32 Tryz.underlying54 hn0 hn1 hn2 hn3 rfl (by decide) _ 0 _ rfl HO0.out (.slice Ae a.all.length ce) a.all.length (ms.flatMap MEn.cells) rfl HSR.out HCL.out HONE.out (by unfold maxLen; omega) (by omega) (by simp) ?_; intro v' w3 hown hgrow hat; rw [Nat.zero_add, List.nil_append] at hown; obtain ⟨A3, k3, rfl, _⟩ := mx_slice hown) | (refine wpList_append_own_at _ rfl _ _ 54 rfl w2.heap.size 110 i0 (.agg #[.int .i64 0, .slice none 0 0]) 2 32 Tryz.underlying54 hn0 hn1 hn2 hn3 rfl (by decide) _ a.all.length _ rfl (own_below hown (mx_al w3 (.cells #[.int .i64 id, .slice Au c.length cu] 110))) ⟨w3.heap.size, 0, none⟩ 1 1 [.int .i64 id, .slice Au c.length cu] rfl rfl (cells_list_new w3 [.int .i64 id, .slice Au c.length cu] _) (by simp [Value.oneCell']) (by unfold maxLen; omega) (by omega) (by have := hgrow.size; simp at this; simp; omega) ?_; intro v4 w4 hown4 hgrow4 hnl4 hat4; obtain ⟨A4, k4, rfl, _⟩ := mx_slice hown4; have hb23 := (mx_al w2 (.cells #[] 110)).grown hgrow (by simp) (fun g hg => (own_lt HO0.out g hg).1); have hb24 := (hb23.trans ((mx_al w3 (.cells #[.int .i64 id, .slice Au c.length cu] 110)).mono hb23.size)).grown hgrow4 (by have := hb23.size; simp; omega) (fun g hg => (own_lt hown g hg).1); have hbb := (hb24.block w.heap.size hz02).trans HB02.out; have fr0 := mx_free (j := 0) hbb; have ce0 := mx_cell (j := 0) hbb; have HB04 := Lib.hid hbb; clear hbb))
 obtain ⟨w5, hw5⟩ : ∃ z, w4.setCell ⟨w.heap.size, 0, none⟩ (.slice A4 (a.all.length + 1) k4) = z := ⟨_, rfl⟩
 have hb5 : w5.heap[w.heap.size]? = some (.cells #[.slice A4 (a.all.length + 1) k4, .int .i64 a.last] 56 (0, 0)) := by rw [← hw5]; exact mx_set (j := 0) HB04.out _
 have hr5 : w5.heap[w.heap.size + 1]? = some (.cells #[.slice none 0 0, .int .i64 0] 56 (0, 0)) := by rw [← hw5, Below.heap_setCell _ _ _ _ (by simp)]; exact (hb24.block (w.heap.size + 1) hz12).trans HB12.out
 rw [hw5]
 have g1 := mx_cell (j := 1) hb5
 have fg1 := mx_free (j := 1) hb5
 clear fr0 ce0 a0
 go_upto_region 9 with fail
 obtain ⟨w6, hw6⟩ : ∃ z, w5.setCell ⟨w.heap.size, 1, none⟩ (.int .i64 id) = z := ⟨_, rfl⟩
 have hb6 : w6.heap[w.heap.size]? = some (.cells #[.slice A4 (a.all.length + 1) k4, .int .i64 id] 56 (0, 0)) := by rw [← hw6]; exact mx_set (j := 1) hb5 _
 have hr6 : w6.heap[w.heap.size + 1]? = some (.cells #[.slice none 0 0, .int .i64 0] 56 (0, 0)) := by rw [← hw6, Below.heap_setCell _ _ _ _ (by simp)]; exact hr5
 rw [hw6]
 have k0 := mx_cell (j := 0) hb6
 have k1 := mx_cell (j := 1) hb6
 have r0 := mx_cell (j := 0) hr6
 have r1 := mx_cell (j := 1) hr6
 have f0 := mx_free (j := 0) hr6
 have f1 := mx_free (j := 1) hr6
 have HR6 := Lib.hid hr6
 clear g1 fg1 hb5 hr5 hb6 hr6
 go_wp2_with fail
 obtain ⟨Wf, hWf⟩ : ∃ x, (w6.setCell ⟨w.heap.size + 1, 0, none⟩ (.slice A4 (a.all.length + 1) k4)).setCell ⟨w.heap.size + 1, 1, none⟩ (.int .i64 id) = x := ⟨_, rfl⟩
 rw [hWf]
 have r6 : Wf.heap[w.heap.size + 1]? = some (.cells #[.slice A4 (a.all.length + 1) k4, .int .i64 id] 56 (0, 0)) := by
  rw [← hWf]
  exact mx_set (j := 1) (mx_set (j := 0) HR6.out _) _
 have hz2 := HB2.out.size
 have hzA := HBA.out.size
 have hb2f : Below w.heap.size w4 Wf := by
  rw [← hWf, ← hw6, ← hw5]
  exact ((((Below.refl _ _).setCell (by simp) _).setCell (by simp) _).setCell (by simp) _).setCell (by simp) _
 have hbf : Below w.heap.size w Wf := ((HBA.out.trans (HB2.out.mono hzA)).trans (hb24.mono (by omega))).trans hb2f
 have hkf : Kept (fun g => g = w.heap.size ∨ g = w.heap.size + 1) w4 Wf := by
  rw [← hWf, ← hw6, ← hw5]
  exact (((((Kept.refl _ _).setCell ⟨w.heap.size, 0, none⟩ _ (.inl rfl)).setCell ⟨w.heap.size, 1, none⟩ _ (.inl rfl)).setCell ⟨w.heap.size + 1, 0, none⟩ _ (.inr rfl)).setCell ⟨w.heap.size + 1, 1, none⟩ _ (.inr rfl))
 have hof := own_kept hown4 hkf (fun g hg e => by have := (own_lt hown4 g hg).1; omega)
 refine bodyPost_ret (res_ra rfl r6 _ rfl rfl) rfl ⟨_, rfl, ⟨_, rfl, ms ++ [⟨⟨id, c⟩, .slice Au c.length cu⟩], by rw [List.map_append, HMS.out]; rfl, ?_, fun m hm => ?_⟩, hbf⟩
 ·
  have hrw := (RowO.of_own hof).mono (O' := fun g => Q g ∨ O g ∨ w.heap.size ≤ g) (fun g hg => .inr (.inr (by omega)))
  rw [List.length_append, List.flatMap_append]
  exact hrw
 ·
  rcases List.mem_append.1 hm with hm | hm
  ·
   exact ((HEM.out m hm).below hbf).mono (fun g hg => .inl hg)
  ·
   rw [List.mem_singleton.1 hm]
   exact (HCW.out.mono (fun g hg => .inr (.inl hg))).below hbf
end Go.Proofs.YtiodfolcnnkdjaaGreat
namespace Go.Proofs.YtiodfolcnnkdjaaGreat
open Go.RowKit

set_option maxRecDepth 100000 in
set_option maxHeartbeats 4000000 in
theorem ref_push {Q : Nat → Prop} (t : RTr) (tv : Value) (w : World) (h : RTO Q w tv t) (hs : t.starts.length ≤ 1000000) (hn0 : 0 ≤ t.now) (hn1 : t.now ≤ 1000000) :
  Calls Tryz.prog 53 #[tv] w fun e w' => ∃ v, e = .returned v ∧ RTO (fun g => Q g ∨ w.heap.size ≤ g) w' v ⟨t.vars, t.now + 1, t.items, t.starts ++ [(t.items.length : Int)]⟩ ∧ Below w.heap.size w w' := by
 obtain ⟨i0, hi0, hi1, hi2, hi3⟩ := info_parts tinfo_int
 obtain ⟨iv, sv, rfl, hi, hst⟩ := h
 have HIW := Lib.hid hi
 have HSW := Lib.hid hst
 obtain ⟨Ai, ci, rfl, _⟩ := hi
 obtain ⟨As, cs, rfl, _⟩ := hst
 obtain ⟨wa, hwa, hba, hb0, hb1⟩ := rbox2 w #[.int .i64 t.vars, .int .i64 t.now, .slice Ai t.items.length ci, .slice As t.starts.length cs] #[.int .i64 0, .int .i64 0, .slice none 0 0, .slice none 0 0] 59 59
 have HBA := Lib.hid hba
 have HWA := Lib.hid hwa
 have HB0 := Lib.hid hb0
 have HB1 := Lib.hid hb1
 have c1 := mx_cell (j := 1) hb0
 have f1 := mx_free (j := 1) hb0
 have w1 : IntKind.i64.wrap (t.now + 1) = t.now + 1 := IntWalk.i64_in _ (by omega)
 have hz0 := heap_lt hb0
 have hz1 := heap_lt hb1
 clear hwa hba hb0 hb1
 go_enter Tryz.func53, Tryz.ntmps53
 go_upto_region 1 with fail
 rw [HWA.out]
 go_upto_region 2 with fail
 obtain ⟨wr, hwr⟩ : ∃ z, wa.setCell ⟨w.heap.size, 1, none⟩ (.int .i64 (t.now + 1)) = z := ⟨_, rfl⟩
 have hbr : wr.heap[w.heap.size]? = some (.cells #[.int .i64 t.vars, .int .i64 (t.now + 1), .slice Ai t.items.length ci, .slice As t.starts.length cs] 59 (0, 0)) := by rw [← hwr]; exact mx_set (j := 1) HB0.out _
 have hbr1 : wr.heap[w.heap.size + 1]? = some (.cells #[.int .i64 0, .int .i64 0, .slice none 0 0, .slice none 0 0] 59 (0, 0)) := by rw [← hwr, Below.heap_setCell _ _ _ _ (by simp)]; exact HB1.out
 have hbw : Below w.heap.size w wr := by rw [← hwr]; exact HBA.out.setCell (Nat.le_refl _) _
 rw [hwr]
 have HBR := Lib.hid hbr
 have HBR1 := Lib.hid hbr1
 have HBW := Lib.hid hbw
 have hzr := heap_lt hbr
 have hzr1 := heap_lt hbr1
 have P2 := Lib.hid (mx_cell (j := 2) hbr)
 have P3 := Lib.hid (mx_cell (j := 3) hbr)
 have HT1 := Lib.hid (IntsIn.src (HSW.out.below hbw))
 clear hwr hbr hbr1 hbw c1 f1
 obtain ⟨x0, hx0⟩ : ∃ x, (wr).drew = x := ⟨_, rfl⟩
 have hS0 := mx_drew wr
 rw [hx0] at hS0
 refine wp_region_sink_at (S := fun w' => Below wr.heap.size wr w') (by kernel_rfl) rfl (by kernel_rfl) (by rw [hx0]; exact hS0) (fun hS => ?_)
 rw [hx0] at hS ⊢
 clear hS0 hx0
 refine takeE 1 8 ?_
 refine takeF 2 9 (fun wq hSw => (hSw.cell (p := ⟨w.heap.size, 3, none⟩) hzr).trans P3.out) ?_
 refine takeE 4 11 ?_
 refine takeF 5 12 (fun wq hSw => (hSw.cell (p := ⟨w.heap.size, 2, none⟩) hzr).trans P2.out) ?_
 refine takeE 6 13 ?_
 refine wpAnyH_ready (rs := [0, 7]) (by kernel_rfl) (by simp) ?_
 refine AllReadyH.cons rfl (fun K hK => ?_) (AllReadyH.cons rfl (fun K hK => ?_) AllReadyH.nil)
 ·
  go_simp
  obtain ⟨x1, hwn⟩ : ∃ z, x0.alloc (.cells #[] 3) = z := ⟨_, rfl⟩
  have hbn : Below x0.heap.size x0 x1 := by rw [← hwn]; exact mx_al _ _
  have hon := own_none x0 wr.heap.size 3 1 hS.size
  have hsz : x1.heap.size = x0.heap.size + 1 := by rw [← hwn]; simp
  rw [hwn] at hon
  rw [hwn]
  have HZx1 := Lib.hid hsz
  have HO := Lib.hid hon
  have hSN := hS.trans (hbn.mono hS.size)
  clear hbn hon hwn hsz
  refine hK.out _ _ hSN (fun _ => ?_)
  clear hK hS
  have hS := hSN
  clear hSN
  refine wpAnyH_ready (rs := [3, 7]) (by kernel_rfl) (by simp) ?_
  refine AllReadyH.cons rfl (fun K hK => ?_) (AllReadyH.cons rfl (fun K hK => ?_) AllReadyH.nil)
  ·
   rw [if_pos (by rfl)]
   refine wp_append_any_at 10 (by rfl) _ _ 36 rfl wr.heap.size 3 i0 (.int .i64 0) 1 8 Tryz.underlying36 hi0 hi1 hi2 hi3 rfl (by decide) _ (0) _ (by rfl) HO.out (.slice As t.starts.length cs) (t.starts.length) (t.starts.map (Value.int .i64)) (by rfl) (HT1.out.below hS) (by simp) (by intro u hu; obtain ⟨z, _, rfl⟩ := List.mem_map.1 hu; rfl) (by unfold maxLen; omega) (by omega) hS.size ?_
   intro v' x2 hown hgrow hat
   rw [Nat.zero_add, List.nil_append] at hown
   obtain ⟨Aw, kAw, rfl, _⟩ := mx_slice hown
   have hSN := hS.grown hgrow hS.size (fun g hg => (own_lt HO.out g hg).1)
   have HO1 := Lib.hid hown
   clear HO
   have HO := HO1
   clear HO1 hown hgrow hat
   refine hK.out _ _ hSN (fun _ => ?_)
   clear hK hS
   have hS := hSN
   clear hSN
   refine ready1 7 (fun K hK => ?_)
   go_simp
   obtain ⟨x3, hwn⟩ : ∃ z, x2.alloc (.cells #[.int .i64 (t.items.length : Int)] 3) = z := ⟨_, rfl⟩
   have hbn : Below x2.heap.size x2 x3 := by rw [← hwn]; exact mx_al _ _
   have hnn := mx_src x2 3 [.int .i64 (t.items.length : Int)]
   rw [show ([.int .i64 (t.items.length : Int)] : List Value).toArray = #[.int .i64 (t.items.length : Int)] from rfl, hwn] at hnn
   have hsz : x3.heap.size = x2.heap.size + 1 := by rw [← hwn]; simp
   rw [hwn]
   have HZx3 := Lib.hid hsz
   have HN := Lib.hid hnn
   have HO1 := Lib.hid (own_below HO.out hbn)
   clear HO
   have HO := HO1
   clear HO1
   have hSN := hS.trans (hbn.mono hS.size)
   clear hbn hnn hwn hsz
   refine hK.out _ _ hSN (fun _ => ?_)
   clear hK hS
   have hS := hSN
   clear hSN
   refine ready1 8 (fun K hK => ?_)
   rw [if_pos (by rfl)]
   refine wp_append_any_at 15 (by rfl) _ _ 36 rfl wr.heap.size 3 i0 (.int .i64 0) 1 8 Tryz.underlying36 hi0 hi1 hi2 hi3 rfl (by decide) _ (t.starts.length) _ (by rfl) HO.out (.slice (some ⟨x2.heap.size, 0, none⟩) 1 1) (1) [.int .i64 (t.items.length : Int)] (by rfl) HN.out rfl (by simp [Value.oneCell']) (by unfold maxLen; omega) (by omega) hS.size ?_
   intro v' x4 hown hgrow hat
   obtain ⟨Ax, kAx, rfl, _⟩ := mx_slice hown
   have hSN := hS.grown hgrow hS.size (fun g hg => (own_lt HO.out g hg).1)
   have HO1 := Lib.hid hown
   clear HO
   have HO := HO1
   clear HO1 hown hgrow hat
   refine hK.out _ _ hSN (fun _ => ?_)
   clear hK hS
   have hS := hSN
   clear hSN
   refine takeE 9 16 ?_
   refine wpAnyH_done (by kernel_rfl) ?_ _
   refine lastPost_normal ?_
   have hblk := (hS.block w.heap.size hzr).trans HBR.out
   have fr3 := mx_free (j := 3) hblk
   have ce3 := mx_cell (j := 3) hblk
   have HBLK := Lib.hid hblk
   clear hblk
   refine wpOp_step rfl (fun K hK => ?_)
   go_simp
   refine hK _ _ ?_
   clear hK fr3 ce3
   obtain ⟨w7, hw7⟩ : ∃ z, x4.setCell ⟨w.heap.size, 3, none⟩ (.slice Ax (t.starts.length + 1) kAx) = z := ⟨_, rfl⟩
   have hb7 : w7.heap[w.heap.size]? = some (.cells #[.int .i64 t.vars, .int .i64 (t.now + 1), .slice Ai t.items.length ci, .slice Ax (t.starts.length + 1) kAx] 59 (0, 0)) := by rw [← hw7]; exact mx_set (j := 3) HBLK.out _
   have hr7 : w7.heap[w.heap.size + 1]? = some (.cells #[.int .i64 0, .int .i64 0, .slice none 0 0, .slice none 0 0] 59 (0, 0)) := by rw [← hw7, Below.heap_setCell _ _ _ _ (by simp)]; exact (hS.block (w.heap.size + 1) hzr1).trans HBR1.out
   rw [hw7]
   obtain ⟨⟨k0, k1, k2, k3⟩, _⟩ := cells4 hb7
   obtain ⟨⟨r0, r1, r2, r3⟩, f0, f1, f2, f3⟩ := cells4 hr7
   have HR7 := Lib.hid hr7
   clear hb7 hr7
   go_wp2_with fail
   obtain ⟨Wf, hWf⟩ : ∃ x, ((((w7.setCell ⟨w.heap.size + 1, 0, none⟩ (.int .i64 t.vars)).setCell ⟨w.heap.size + 1, 1, none⟩ (.int .i64 (t.now + 1))).setCell ⟨w.heap.size + 1, 2, none⟩ (.slice Ai t.items.length ci)).setCell ⟨w.heap.size + 1, 3, none⟩ (.slice Ax (t.starts.length + 1) kAx)) = x := ⟨_, rfl⟩
   rw [hWf]
   have r6 : Wf.heap[w.heap.size + 1]? = some (.cells #[.int .i64 t.vars, .int .i64 (t.now + 1), .slice Ai t.items.length ci, .slice Ax (t.starts.length + 1) kAx] 59 (0, 0)) := by
    rw [← hWf]
    exact (mx_set (j := 3) (mx_set (j := 2) (mx_set (j := 1) (mx_set (j := 0) HR7.out _) _) _) _)
   have HBX := HBW.out.trans (hS.mono HBW.out.size)
   have hbf : Below w.heap.size w Wf := by
    rw [← hWf, ← hw7]
    exact (((((HBX.setCell (p := ⟨w.heap.size, 3, none⟩) (Nat.le_refl _) _).setCell (p := ⟨w.heap.size + 1, 0, none⟩) (Nat.le_succ _) _).setCell (p := ⟨w.heap.size + 1, 1, none⟩) (Nat.le_succ _) _).setCell (p := ⟨w.heap.size + 1, 2, none⟩) (Nat.le_succ _) _).setCell (p := ⟨w.heap.size + 1, 3, none⟩) (Nat.le_succ _) _)
   have hkf : Kept (fun g => g = w.heap.size ∨ g = w.heap.size + 1) x4 Wf := by
    rw [← hWf, ← hw7]
    exact ((((((Kept.refl (fun g => g = w.heap.size ∨ g = w.heap.size + 1) x4).setCell ⟨w.heap.size, 3, none⟩ _ (.inl rfl)).setCell ⟨w.heap.size + 1, 0, none⟩ _ (.inr rfl)).setCell ⟨w.heap.size + 1, 1, none⟩ _ (.inr rfl)).setCell ⟨w.heap.size + 1, 2, none⟩ _ (.inr rfl)).setCell ⟨w.heap.size + 1, 3, none⟩ _ (.inr rfl))
   have hof := own_kept HO.out hkf (fun g hg e => by have := (own_lt HO.out g hg).1; omega)
   exact bodyPost_ret (res_rt rfl r6 _ rfl) rfl ⟨_, rfl, ⟨_, _, rfl, (HIW.out.below hbf).mono (fun g hg => .inl hg), IntsIn.of_rowO ((RowO.of_own hof).mono (O' := fun g => Q g ∨ w.heap.size ≤ g) (fun g hg => .inr (Nat.le_trans HBW.out.size hg))) (by simp) (by simp)⟩, hbf⟩
  ·
   go_simp
   obtain ⟨x2, hwn⟩ : ∃ z, x1.alloc (.cells #[.int .i64 (t.items.length : Int)] 3) = z := ⟨_, rfl⟩
   have hbn : Below x1.heap.size x1 x2 := by rw [← hwn]; exact mx_al _ _
   have hnn := mx_src x1 3 [.int .i64 (t.items.length : Int)]
   rw [show ([.int .i64 (t.items.length : Int)] : List Value).toArray = #[.int .i64 (t.items.length : Int)] from rfl, hwn] at hnn
   have hsz : x2.heap.size = x1.heap.size + 1 := by rw [← hwn]; simp
   rw [hwn]
   have HZx2 := Lib.hid hsz
   have HN := Lib.hid hnn
   have HO1 := Lib.hid (own_below HO.out hbn)
   clear HO
   have HO := HO1
   clear HO1
   have hSN := hS.trans (hbn.mono hS.size)
   clear hbn hnn hwn hsz
   refine hK.out _ _ hSN (fun _ => ?_)
   clear hK hS
   have hS := hSN
   clear hSN
   refine ready1 3 (fun K hK => ?_)
   rw [if_pos (by rfl)]
   refine wp_append_any_at 10 (by rfl) _ _ 36 rfl wr.heap.size 3 i0 (.int .i64 0) 1 8 Tryz.underlying36 hi0 hi1 hi2 hi3 rfl (by decide) _ (0) _ (by rfl) HO.out (.slice As t.starts.length cs) (t.starts.length) (t.starts.map (Value.int .i64)) (by rfl) (HT1.out.below hS) (by simp) (by intro u hu; obtain ⟨z, _, rfl⟩ := List.mem_map.1 hu; rfl) (by unfold maxLen; omega) (by omega) hS.size ?_
   intro v' x3 hown hgrow hat
   rw [Nat.zero_add, List.nil_append] at hown
   obtain ⟨Aw, kAw, rfl, _⟩ := mx_slice hown
   have hSN := hS.grown hgrow hS.size (fun g hg => (own_lt HO.out g hg).1)
   have HN1 := Lib.hid (src_grown' HN.out hgrow (by have := HZx1.out; simp [Value.ownBlock]; omega))
   clear HN
   have HN := HN1
   clear HN1
   have HO1 := Lib.hid hown
   clear HO
   have HO := HO1
   clear HO1 hown hgrow hat
   refine hK.out _ _ hSN (fun _ => ?_)
   clear hK hS
   have hS := hSN
   clear hSN
   refine ready1 8 (fun K hK => ?_)
   rw [if_pos (by rfl)]
   refine wp_append_any_at 15 (by rfl) _ _ 36 rfl wr.heap.size 3 i0 (.int .i64 0) 1 8 Tryz.underlying36 hi0 hi1 hi2 hi3 rfl (by decide) _ (t.starts.length) _ (by rfl) HO.out (.slice (some ⟨x1.heap.size, 0, none⟩) 1 1) (1) [.int .i64 (t.items.length : Int)] (by rfl) HN.out rfl (by simp [Value.oneCell']) (by unfold maxLen; omega) (by omega) hS.size ?_
   intro v' x4 hown hgrow hat
   obtain ⟨Ax, kAx, rfl, _⟩ := mx_slice hown
   have hSN := hS.grown hgrow hS.size (fun g hg => (own_lt HO.out g hg).1)
   have HO1 := Lib.hid hown
   clear HO
   have HO := HO1
   clear HO1 hown hgrow hat
   refine hK.out _ _ hSN (fun _ => ?_)
   clear hK hS
   have hS := hSN
   clear hSN
   refine takeE 9 16 ?_
   refine wpAnyH_done (by kernel_rfl) ?_ _
   refine lastPost_normal ?_
   have hblk := (hS.block w.heap.size hzr).trans HBR.out
   have fr3 := mx_free (j := 3) hblk
   have ce3 := mx_cell (j := 3) hblk
   have HBLK := Lib.hid hblk
   clear hblk
   refine wpOp_step rfl (fun K hK => ?_)
   go_simp
   refine hK _ _ ?_
   clear hK fr3 ce3
   obtain ⟨w7, hw7⟩ : ∃ z, x4.setCell ⟨w.heap.size, 3, none⟩ (.slice Ax (t.starts.length + 1) kAx) = z := ⟨_, rfl⟩
   have hb7 : w7.heap[w.heap.size]? = some (.cells #[.int .i64 t.vars, .int .i64 (t.now + 1), .slice Ai t.items.length ci, .slice Ax (t.starts.length + 1) kAx] 59 (0, 0)) := by rw [← hw7]; exact mx_set (j := 3) HBLK.out _
   have hr7 : w7.heap[w.heap.size + 1]? = some (.cells #[.int .i64 0, .int .i64 0, .slice none 0 0, .slice none 0 0] 59 (0, 0)) := by rw [← hw7, Below.heap_setCell _ _ _ _ (by simp)]; exact (hS.block (w.heap.size + 1) hzr1).trans HBR1.out
   rw [hw7]
   obtain ⟨⟨k0, k1, k2, k3⟩, _⟩ := cells4 hb7
   obtain ⟨⟨r0, r1, r2, r3⟩, f0, f1, f2, f3⟩ := cells4 hr7
   have HR7 := Lib.hid hr7
   clear hb7 hr7
   go_wp2_with fail
   obtain ⟨Wf, hWf⟩ : ∃ x, ((((w7.setCell ⟨w.heap.size + 1, 0, none⟩ (.int .i64 t.vars)).setCell ⟨w.heap.size + 1, 1, none⟩ (.int .i64 (t.now + 1))).setCell ⟨w.heap.size + 1, 2, none⟩ (.slice Ai t.items.length ci)).setCell ⟨w.heap.size + 1, 3, none⟩ (.slice Ax (t.starts.length + 1) kAx)) = x := ⟨_, rfl⟩
   rw [hWf]
   have r6 : Wf.heap[w.heap.size + 1]? = some (.cells #[.int .i64 t.vars, .int .i64 (t.now + 1), .slice Ai t.items.length ci, .slice Ax (t.starts.length + 1) kAx] 59 (0, 0)) := by
    rw [← hWf]
    exact (mx_set (j := 3) (mx_set (j := 2) (mx_set (j := 1) (mx_set (j := 0) HR7.out _) _) _) _)
   have HBX := HBW.out.trans (hS.mono HBW.out.size)
   have hbf : Below w.heap.size w Wf := by
    rw [← hWf, ← hw7]
    exact (((((HBX.setCell (p := ⟨w.heap.size, 3, none⟩) (Nat.le_refl _) _).setCell (p := ⟨w.heap.size + 1, 0, none⟩) (Nat.le_succ _) _).setCell (p := ⟨w.heap.size + 1, 1, none⟩) (Nat.le_succ _) _).setCell (p := ⟨w.heap.size + 1, 2, none⟩) (Nat.le_succ _) _).setCell (p := ⟨w.heap.size + 1, 3, none⟩) (Nat.le_succ _) _)
   have hkf : Kept (fun g => g = w.heap.size ∨ g = w.heap.size + 1) x4 Wf := by
    rw [← hWf, ← hw7]
    exact ((((((Kept.refl (fun g => g = w.heap.size ∨ g = w.heap.size + 1) x4).setCell ⟨w.heap.size, 3, none⟩ _ (.inl rfl)).setCell ⟨w.heap.size + 1, 0, none⟩ _ (.inr rfl)).setCell ⟨w.heap.size + 1, 1, none⟩ _ (.inr rfl)).setCell ⟨w.heap.size + 1, 2, none⟩ _ (.inr rfl)).setCell ⟨w.heap.size + 1, 3, none⟩ _ (.inr rfl))
   have hof := own_kept HO.out hkf (fun g hg e => by have := (own_lt HO.out g hg).1; omega)
   exact bodyPost_ret (res_rt rfl r6 _ rfl) rfl ⟨_, rfl, ⟨_, _, rfl, (HIW.out.below hbf).mono (fun g hg => .inl hg), IntsIn.of_rowO ((RowO.of_own hof).mono (O' := fun g => Q g ∨ w.heap.size ≤ g) (fun g hg => .inr (Nat.le_trans HBW.out.size hg))) (by simp) (by simp)⟩, hbf⟩
 ·
  go_simp
  obtain ⟨x1, hwn⟩ : ∃ z, x0.alloc (.cells #[.int .i64 (t.items.length : Int)] 3) = z := ⟨_, rfl⟩
  have hbn : Below x0.heap.size x0 x1 := by rw [← hwn]; exact mx_al _ _
  have hnn := mx_src x0 3 [.int .i64 (t.items.length : Int)]
  rw [show ([.int .i64 (t.items.length : Int)] : List Value).toArray = #[.int .i64 (t.items.length : Int)] from rfl, hwn] at hnn
  have hsz : x1.heap.size = x0.heap.size + 1 := by rw [← hwn]; simp
  rw [hwn]
  have HZx1 := Lib.hid hsz
  have HN := Lib.hid hnn
  have hSN := hS.trans (hbn.mono hS.size)
  clear hbn hnn hwn hsz
  refine hK.out _ _ hSN (fun _ => ?_)
  clear hK hS
  have hS := hSN
  clear hSN
  refine ready1 0 (fun K hK => ?_)
  go_simp
  obtain ⟨x2, hwn⟩ : ∃ z, x1.alloc (.cells #[] 3) = z := ⟨_, rfl⟩
  have hbn : Below x1.heap.size x1 x2 := by rw [← hwn]; exact mx_al _ _
  have hon := own_none x1 wr.heap.size 3 1 hS.size
  have hsz : x2.heap.size = x1.heap.size + 1 := by rw [← hwn]; simp
  rw [hwn] at hon
  rw [hwn]
  have HZx2 := Lib.hid hsz
  have HO := Lib.hid hon
  have HN1 := Lib.hid (HN.out.below hbn)
  clear HN
  have HN := HN1
  clear HN1
  have hSN := hS.trans (hbn.mono hS.size)
  clear hbn hon hwn hsz
  refine hK.out _ _ hSN (fun _ => ?_)
  clear hK hS
  have hS := hSN
  clear hSN
  refine ready1 3 (fun K hK => ?_)
  rw [if_pos (by rfl)]
  refine wp_append_any_at 10 (by rfl) _ _ 36 rfl wr.heap.size 3 i0 (.int .i64 0) 1 8 Tryz.underlying36 hi0 hi1 hi2 hi3 rfl (by decide) _ (0) _ (by rfl) HO.out (.slice As t.starts.length cs) (t.starts.length) (t.starts.map (Value.int .i64)) (by rfl) (HT1.out.below hS) (by simp) (by intro u hu; obtain ⟨z, _, rfl⟩ := List.mem_map.1 hu; rfl) (by unfold maxLen; omega) (by omega) hS.size ?_
  intro v' x3 hown hgrow hat
  rw [Nat.zero_add, List.nil_append] at hown
  obtain ⟨Aw, kAw, rfl, _⟩ := mx_slice hown
  have hSN := hS.grown hgrow hS.size (fun g hg => (own_lt HO.out g hg).1)
  have HN1 := Lib.hid (src_grown' HN.out hgrow (by have := HZx1.out; simp [Value.ownBlock]; omega))
  clear HN
  have HN := HN1
  clear HN1
  have HO1 := Lib.hid hown
  clear HO
  have HO := HO1
  clear HO1 hown hgrow hat
  refine hK.out _ _ hSN (fun _ => ?_)
  clear hK hS
  have hS := hSN
  clear hSN
  refine ready1 8 (fun K hK => ?_)
  rw [if_pos (by rfl)]
  refine wp_append_any_at 15 (by rfl) _ _ 36 rfl wr.heap.size 3 i0 (.int .i64 0) 1 8 Tryz.underlying36 hi0 hi1 hi2 hi3 rfl (by decide) _ (t.starts.length) _ (by rfl) HO.out (.slice (some ⟨x0.heap.size, 0, none⟩) 1 1) (1) [.int .i64 (t.items.length : Int)] (by rfl) HN.out rfl (by simp [Value.oneCell']) (by unfold maxLen; omega) (by omega) hS.size ?_
  intro v' x4 hown hgrow hat
  obtain ⟨Ax, kAx, rfl, _⟩ := mx_slice hown
  have hSN := hS.grown hgrow hS.size (fun g hg => (own_lt HO.out g hg).1)
  have HO1 := Lib.hid hown
  clear HO
  have HO := HO1
  clear HO1 hown hgrow hat
  refine hK.out _ _ hSN (fun _ => ?_)
  clear hK hS
  have hS := hSN
  clear hSN
  refine takeE 9 16 ?_
  refine wpAnyH_done (by kernel_rfl) ?_ _
  refine lastPost_normal ?_
  have hblk := (hS.block w.heap.size hzr).trans HBR.out
  have fr3 := mx_free (j := 3) hblk
  have ce3 := mx_cell (j := 3) hblk
  have HBLK := Lib.hid hblk
  clear hblk
  refine wpOp_step rfl (fun K hK => ?_)
  go_simp
  refine hK _ _ ?_
  clear hK fr3 ce3
  obtain ⟨w7, hw7⟩ : ∃ z, x4.setCell ⟨w.heap.size, 3, none⟩ (.slice Ax (t.starts.length + 1) kAx) = z := ⟨_, rfl⟩
  have hb7 : w7.heap[w.heap.size]? = some (.cells #[.int .i64 t.vars, .int .i64 (t.now + 1), .slice Ai t.items.length ci, .slice Ax (t.starts.length + 1) kAx] 59 (0, 0)) := by rw [← hw7]; exact mx_set (j := 3) HBLK.out _
  have hr7 : w7.heap[w.heap.size + 1]? = some (.cells #[.int .i64 0, .int .i64 0, .slice none 0 0, .slice none 0 0] 59 (0, 0)) := by rw [← hw7, Below.heap_setCell _ _ _ _ (by simp)]; exact (hS.block (w.heap.size + 1) hzr1).trans HBR1.out
  rw [hw7]
  obtain ⟨⟨k0, k1, k2, k3⟩, _⟩ := cells4 hb7
  obtain ⟨⟨r0, r1, r2, r3⟩, f0, f1, f2, f3⟩ := cells4 hr7
  have HR7 := Lib.hid hr7
  clear hb7 hr7
  go_wp2_with fail
  obtain ⟨Wf, hWf⟩ : ∃ x, ((((w7.setCell ⟨w.heap.size + 1, 0, none⟩ (.int .i64 t.vars)).setCell ⟨w.heap.size + 1, 1, none⟩ (.int .i64 (t.now + 1))).setCell ⟨w.heap.size + 1, 2, none⟩ (.slice Ai t.items.length ci)).setCell ⟨w.heap.size + 1, 3, none⟩ (.slice Ax (t.starts.length + 1) kAx)) = x := ⟨_, rfl⟩
  rw [hWf]
  have r6 : Wf.heap[w.heap.size + 1]? = some (.cells #[.int .i64 t.vars, .int .i64 (t.now + 1), .slice Ai t.items.length ci, .slice Ax (t.starts.length + 1) kAx] 59 (0, 0)) := by
   rw [← hWf]
   exact (mx_set (j := 3) (mx_set (j := 2) (mx_set (j := 1) (mx_set (j := 0) HR7.out _) _) _) _)
  have HBX := HBW.out.trans (hS.mono HBW.out.size)
  have hbf : Below w.heap.size w Wf := by
   rw [← hWf, ← hw7]
   exact (((((HBX.setCell (p := ⟨w.heap.size, 3, none⟩) (Nat.le_refl _) _).setCell (p := ⟨w.heap.size + 1, 0, none⟩) (Nat.le_succ _) _).setCell (p := ⟨w.heap.size + 1, 1, none⟩) (Nat.le_succ _) _).setCell (p := ⟨w.heap.size + 1, 2, none⟩) (Nat.le_succ _) _).setCell (p := ⟨w.heap.size + 1, 3, none⟩) (Nat.le_succ _) _)
  have hkf : Kept (fun g => g = w.heap.size ∨ g = w.heap.size + 1) x4 Wf := by
   rw [← hWf, ← hw7]
   exact ((((((Kept.refl (fun g => g = w.heap.size ∨ g = w.heap.size + 1) x4).setCell ⟨w.heap.size, 3, none⟩ _ (.inl rfl)).setCell ⟨w.heap.size + 1, 0, none⟩ _ (.inr rfl)).setCell ⟨w.heap.size + 1, 1, none⟩ _ (.inr rfl)).setCell ⟨w.heap.size + 1, 2, none⟩ _ (.inr rfl)).setCell ⟨w.heap.size + 1, 3, none⟩ _ (.inr rfl))
  have hof := own_kept HO.out hkf (fun g hg e => by have := (own_lt HO.out g hg).1; omega)
  exact bodyPost_ret (res_rt rfl r6 _ rfl) rfl ⟨_, rfl, ⟨_, _, rfl, (HIW.out.below hbf).mono (fun g hg => .inl hg), IntsIn.of_rowO ((RowO.of_own hof).mono (O' := fun g => Q g ∨ w.heap.size ≤ g) (fun g hg => .inr (Nat.le_trans HBW.out.size hg))) (by simp) (by simp)⟩, hbf⟩
end Go.Proofs.YtiodfolcnnkdjaaGreat
namespace Go.Proofs.YtiodfolcnnkdjaaGreat
open Go.RowKit

theorem tinfo_item : (Tryz.prog.info? 114).map (fun i => (i.zero, i.size, i.bytes)) = some (some (.agg #[.int .i64 0, .int .i64 0, .int .i64 0]), 3, 24) := by kernel_rfl
theorem res_rtn {fn : Func} (h : fn.results = #[.cell 6 59, .tmp 7]) {w : World} {r : Nat} {c0 c1 c2 c3 v : Value} {t : TypeId} (h6 : w.heap[r]? = some (.cells #[c0, c1, c2, c3] t (0, 0)))
  (tmps : Array Value) (t6 : tmps[6]?.getD undef = .pointer (some ⟨r, 0, none⟩)) (t7 : tmps[7]?.getD undef = v) :
  (results fn tmps).run Tryz.prog w = .ok (.tuple #[.agg #[c0, c1, c2, c3], v]) w := by
 obtain ⟨⟨p0, p1, p2, p3⟩, _⟩ := cells4 h6
 simp [results, h, go_sem, t6, t7, p0, p1, p2, p3]
set_option maxRecDepth 100000 in
set_option maxHeartbeats 8000000 in
theorem ref_assign {Q : Nat → Prop} (t : RTr) (l r : Int) (tv : Value) (w : World) (h : RTO Q w tv t) (ho : t.Ok) :
  Calls Tryz.prog 54 #[tv, .int .i64 l, .int .i64 r] w fun e w' => ∃ v, e = .returned (.tuple #[v, .int .i64 (t.assignErr l r)]) ∧ RTO (fun g => Q g ∨ w.heap.size ≤ g) w' v (t.assigned l r) ∧ Below w.heap.size w w' := by
 obtain ⟨i0, hi0, hi1, hi2, hi3⟩ := info_parts tinfo_item
 have hlen := ho.len
 have HOK := Lib.hid ho
 obtain ⟨iv, sv, rfl, hi, hst⟩ := h
 have HIW := Lib.hid hi
 have HSW := Lib.hid hst
 obtain ⟨Ai, ci, rfl, _⟩ := hi
 obtain ⟨As, cs, rfl, _⟩ := hst
 obtain ⟨wa, hwa, hba, hb0, hb1⟩ := rbox2 w #[.int .i64 t.vars, .int .i64 t.now, .slice Ai t.items.length ci, .slice As t.starts.length cs] #[.int .i64 0, .int .i64 0, .slice none 0 0, .slice none 0 0] 59 59
 have HBA := Lib.hid hba
 have HWA := Lib.hid hwa
 have HB0 := Lib.hid hb0
 have HB1 := Lib.hid hb1
 have P0 := Lib.hid (mx_cell (j := 0) hb0)
 have P1 := Lib.hid (mx_cell (j := 1) hb0)
 have P2 := Lib.hid (mx_cell (j := 2) hb0)
 have P3 := Lib.hid (mx_cell (j := 3) hb0)
 have hz0 := heap_lt hb0
 have hz1 := heap_lt hb1
 have HV := Lib.hid (fun (w : World) => ref_var l w)
 have HVAL := Lib.hid (fun (w : World) tv (h : RTAt w tv t) => ref_value l t tv w h ho)
 have HIR := Lib.hid (((HIW.out.weak.below hba).src (fun h0 => by rw [List.eq_nil_of_length_eq_zero h0]; rfl)))
 have HTA := Lib.hid (show RTAt wa (.agg #[.int .i64 t.vars, .int .i64 t.now, .slice Ai t.items.length ci, .slice As t.starts.length cs]) t from ⟨_, _, rfl, HIW.out.weak.below hba, (HSW.out.below hba).mono (fun _ _ => trivial)⟩)
 obtain ⟨lv, hlv⟩ : ∃ z : Int, ((litV l : Nat) : Int) = z := ⟨_, rfl⟩
 have HLV := Lib.hid hlv
 rw [hlv] at HV
 clear hwa hba hb0 hb1 hlv ho
 go_enter Tryz.func54, Tryz.ntmps54
 go_upto_region 1 with fail
 rw [HWA.out]
 by_cases hv1 : lv < 1
 ·
  have q1 : decide (lv < 1) = true := by simpa using hv1
  have HERR := Lib.hid (show t.assignErr l r = 40 from by unfold RTr.assignErr; rw [HLV.out, if_pos (.inl hv1)])
  have HAS := Lib.hid (show t.assigned l r = t from by unfold RTr.assigned; rw [HERR.out]; rfl)
  clear hv1
  go_upto_region 1 with fail
  refine wp_region_held_drew (S := fun w' => Below wa.heap.size wa w') (by kernel_rfl) (mx_drew wa) (fun hS => ?_)
  obtain ⟨wD, hwD⟩ : ∃ x, (wa).drew = x := ⟨_, rfl⟩
  rw [hwD] at hS ⊢
  clear hwD
  refine takeE 0 8 ?_
  refine ready1 1 (fun K hK => ?_)
  go_simp
  refine (HV.out _).mono ?_
  rintro e w' ⟨rfl, rfl⟩
  refine hK.out _ _ hS (fun _ => ?_)
  clear hK
  refine takeE 2 10 ?_
  refine takeE 3 11 ?_
  refine takeU 4 12 ?_
  refine takeU 5 13 ?_
  refine takeU 6 14 ?_
  refine takeU 7 15 ?_
  refine takeU 8 16 ?_
  refine takeE 9 17 ?_
  refine wpAnyH_done (by kernel_rfl) ?_ _
  have HS := Lib.hid hS
  clear hS
  have c0 := (HS.out.cell (p := ⟨w.heap.size, 0, none⟩) hz0).trans P0.out
  have c1 := (HS.out.cell (p := ⟨w.heap.size, 1, none⟩) hz0).trans P1.out
  have c2 := (HS.out.cell (p := ⟨w.heap.size, 2, none⟩) hz0).trans P2.out
  have c3 := (HS.out.cell (p := ⟨w.heap.size, 3, none⟩) hz0).trans P3.out
  have hr1 := (HS.out.block (w.heap.size + 1) hz1).trans HB1.out
  obtain ⟨⟨r0, r1, r2, r3⟩, f0, f1, f2, f3⟩ := cells4 hr1
  have HR1 := Lib.hid hr1
  clear hr1
  go_wp2_with fail
  obtain ⟨Wf, hWf⟩ : ∃ x, ((((wD.setCell ⟨w.heap.size + 1, 0, none⟩ (.int .i64 t.vars)).setCell ⟨w.heap.size + 1, 1, none⟩ (.int .i64 t.now)).setCell ⟨w.heap.size + 1, 2, none⟩ (.slice Ai t.items.length ci)).setCell ⟨w.heap.size + 1, 3, none⟩ (.slice As t.starts.length cs)) = x := ⟨_, rfl⟩
  rw [hWf]
  have r6 : Wf.heap[w.heap.size + 1]? = some (.cells #[.int .i64 t.vars, .int .i64 t.now, .slice Ai t.items.length ci, .slice As t.starts.length cs] 59 (0, 0)) := by
   rw [← hWf]
   exact (mx_set (j := 3) (mx_set (j := 2) (mx_set (j := 1) (mx_set (j := 0) HR1.out _) _) _) _)
  have HBX := HBA.out.trans (HS.out.mono HBA.out.size)
  have hbf : Below w.heap.size w Wf := by
   rw [← hWf]
   exact ((((HBX.setCell (p := ⟨w.heap.size + 1, 0, none⟩) (Nat.le_succ _) _).setCell (p := ⟨w.heap.size + 1, 1, none⟩) (Nat.le_succ _) _).setCell (p := ⟨w.heap.size + 1, 2, none⟩) (Nat.le_succ _) _).setCell (p := ⟨w.heap.size + 1, 3, none⟩) (Nat.le_succ _) _)
  exact bodyPost_ret (res_rtn rfl r6 _ rfl rfl) rfl ⟨_, by rw [HERR.out]; rfl, by rw [HAS.out]; exact ⟨_, _, rfl, (HIW.out.below hbf).mono (fun g hg => .inl hg), (HSW.out.below hbf).mono (fun g hg => .inl hg)⟩, hbf⟩
 ·
  have q1 : decide (lv < 1) = false := by simpa using hv1
  by_cases hv2 : t.vars < lv
  ·
   have q2 : decide (t.vars < lv) = true := by simpa using hv2
   have HERR := Lib.hid (show t.assignErr l r = 40 from by unfold RTr.assignErr; rw [HLV.out, if_pos (.inr hv2)])
   have HAS := Lib.hid (show t.assigned l r = t from by unfold RTr.assigned; rw [HERR.out]; rfl)
   clear hv1 hv2
   go_upto_region 1 with fail
   refine wp_region_held_drew (S := fun w' => Below wa.heap.size wa w') (by kernel_rfl) (mx_drew wa) (fun hS => ?_)
   obtain ⟨wD, hwD⟩ : ∃ x, (wa).drew = x := ⟨_, rfl⟩
   rw [hwD] at hS ⊢
   clear hwD
   refine takeE 0 8 ?_
   refine ready1 1 (fun K hK => ?_)
   go_simp
   refine (HV.out _).mono ?_
   rintro e w' ⟨rfl, rfl⟩
   refine hK.out _ _ hS (fun _ => ?_)
   clear hK
   refine takeE 2 10 ?_
   refine takeE 3 11 ?_
   refine takeE 4 12 ?_
   refine takeE 6 14 ?_
   refine takeF 7 15 (fun wq hSw => (hSw.cell (p := ⟨w.heap.size, 0, none⟩) hz0).trans P0.out) ?_
   refine ready1 5 (fun K hK => ?_)
   go_simp
   refine (HV.out _).mono ?_
   rintro e w' ⟨rfl, rfl⟩
   refine hK.out _ _ hS (fun _ => ?_)
   clear hK
   refine takeE 8 16 ?_
   refine takeE 9 17 ?_
   refine wpAnyH_done (by kernel_rfl) ?_ _
   have HS := Lib.hid hS
   clear hS
   have c0 := (HS.out.cell (p := ⟨w.heap.size, 0, none⟩) hz0).trans P0.out
   have c1 := (HS.out.cell (p := ⟨w.heap.size, 1, none⟩) hz0).trans P1.out
   have c2 := (HS.out.cell (p := ⟨w.heap.size, 2, none⟩) hz0).trans P2.out
   have c3 := (HS.out.cell (p := ⟨w.heap.size, 3, none⟩) hz0).trans P3.out
   have hr1 := (HS.out.block (w.heap.size + 1) hz1).trans HB1.out
   obtain ⟨⟨r0, r1, r2, r3⟩, f0, f1, f2, f3⟩ := cells4 hr1
   have HR1 := Lib.hid hr1
   clear hr1
   go_wp2_with fail
   obtain ⟨Wf, hWf⟩ : ∃ x, ((((wD.setCell ⟨w.heap.size + 1, 0, none⟩ (.int .i64 t.vars)).setCell ⟨w.heap.size + 1, 1, none⟩ (.int .i64 t.now)).setCell ⟨w.heap.size + 1, 2, none⟩ (.slice Ai t.items.length ci)).setCell ⟨w.heap.size + 1, 3, none⟩ (.slice As t.starts.length cs)) = x := ⟨_, rfl⟩
   rw [hWf]
   have r6 : Wf.heap[w.heap.size + 1]? = some (.cells #[.int .i64 t.vars, .int .i64 t.now, .slice Ai t.items.length ci, .slice As t.starts.length cs] 59 (0, 0)) := by
    rw [← hWf]
    exact (mx_set (j := 3) (mx_set (j := 2) (mx_set (j := 1) (mx_set (j := 0) HR1.out _) _) _) _)
   have HBX := HBA.out.trans (HS.out.mono HBA.out.size)
   have hbf : Below w.heap.size w Wf := by
    rw [← hWf]
    exact ((((HBX.setCell (p := ⟨w.heap.size + 1, 0, none⟩) (Nat.le_succ _) _).setCell (p := ⟨w.heap.size + 1, 1, none⟩) (Nat.le_succ _) _).setCell (p := ⟨w.heap.size + 1, 2, none⟩) (Nat.le_succ _) _).setCell (p := ⟨w.heap.size + 1, 3, none⟩) (Nat.le_succ _) _)
   exact bodyPost_ret (res_rtn rfl r6 _ rfl rfl) rfl ⟨_, by rw [HERR.out]; rfl, by rw [HAS.out]; exact ⟨_, _, rfl, (HIW.out.below hbf).mono (fun g hg => .inl hg), (HSW.out.below hbf).mono (fun g hg => .inl hg)⟩, hbf⟩
  ·
   have q2 : decide (t.vars < lv) = false := by simpa using hv2
   have HN1 := Lib.hid (show ¬ (lv < 1 ∨ t.vars < lv) from fun h => h.elim hv1 hv2)
   clear hv1 hv2
   by_cases hr1 : r < 0
   ·
    have q3 : decide (r < 0) = true := by simpa using hr1
    have HERR := Lib.hid (show t.assignErr l r = 2 from by unfold RTr.assignErr; rw [HLV.out, if_neg HN1.out, if_pos (.inl hr1)])
    have HAS := Lib.hid (show t.assigned l r = t from by unfold RTr.assigned; rw [HERR.out]; rfl)
    clear hr1
    go_upto_region 1 with fail
    refine wp_region_held_drew (S := fun w' => Below wa.heap.size wa w') (by kernel_rfl) (mx_drew wa) (fun hS => ?_)
    obtain ⟨wD, hwD⟩ : ∃ x, (wa).drew = x := ⟨_, rfl⟩
    rw [hwD] at hS ⊢
    clear hwD
    refine takeE 0 8 ?_
    refine ready1 1 (fun K hK => ?_)
    go_simp
    refine (HV.out _).mono ?_
    rintro e w' ⟨rfl, rfl⟩
    refine hK.out _ _ hS (fun _ => ?_)
    clear hK
    refine takeE 2 10 ?_
    refine takeE 3 11 ?_
    refine takeE 4 12 ?_
    refine takeE 6 14 ?_
    refine takeF 7 15 (fun wq hSw => (hSw.cell (p := ⟨w.heap.size, 0, none⟩) hz0).trans P0.out) ?_
    refine ready1 5 (fun K hK => ?_)
    go_simp
    refine (HV.out _).mono ?_
    rintro e w' ⟨rfl, rfl⟩
    refine hK.out _ _ hS (fun _ => ?_)
    clear hK
    refine takeE 8 16 ?_
    refine takeE 9 17 ?_
    refine wpAnyH_done (by kernel_rfl) ?_ _
    have HS := Lib.hid hS
    clear hS
    have c0 := (HS.out.cell (p := ⟨w.heap.size, 0, none⟩) hz0).trans P0.out
    have c1 := (HS.out.cell (p := ⟨w.heap.size, 1, none⟩) hz0).trans P1.out
    have c2 := (HS.out.cell (p := ⟨w.heap.size, 2, none⟩) hz0).trans P2.out
    have c3 := (HS.out.cell (p := ⟨w.heap.size, 3, none⟩) hz0).trans P3.out
    have hr1 := (HS.out.block (w.heap.size + 1) hz1).trans HB1.out
    obtain ⟨⟨r0, r1, r2, r3⟩, f0, f1, f2, f3⟩ := cells4 hr1
    have HR1 := Lib.hid hr1
    clear hr1
    go_wp2_with fail
    obtain ⟨Wf, hWf⟩ : ∃ x, ((((wD.setCell ⟨w.heap.size + 1, 0, none⟩ (.int .i64 t.vars)).setCell ⟨w.heap.size + 1, 1, none⟩ (.int .i64 t.now)).setCell ⟨w.heap.size + 1, 2, none⟩ (.slice Ai t.items.length ci)).setCell ⟨w.heap.size + 1, 3, none⟩ (.slice As t.starts.length cs)) = x := ⟨_, rfl⟩
    rw [hWf]
    have r6 : Wf.heap[w.heap.size + 1]? = some (.cells #[.int .i64 t.vars, .int .i64 t.now, .slice Ai t.items.length ci, .slice As t.starts.length cs] 59 (0, 0)) := by
     rw [← hWf]
     exact (mx_set (j := 3) (mx_set (j := 2) (mx_set (j := 1) (mx_set (j := 0) HR1.out _) _) _) _)
    have HBX := HBA.out.trans (HS.out.mono HBA.out.size)
    have hbf : Below w.heap.size w Wf := by
     rw [← hWf]
     exact ((((HBX.setCell (p := ⟨w.heap.size + 1, 0, none⟩) (Nat.le_succ _) _).setCell (p := ⟨w.heap.size + 1, 1, none⟩) (Nat.le_succ _) _).setCell (p := ⟨w.heap.size + 1, 2, none⟩) (Nat.le_succ _) _).setCell (p := ⟨w.heap.size + 1, 3, none⟩) (Nat.le_succ _) _)
    exact bodyPost_ret (res_rtn rfl r6 _ rfl rfl) rfl ⟨_, by rw [HERR.out]; rfl, by rw [HAS.out]; exact ⟨_, _, rfl, (HIW.out.below hbf).mono (fun g hg => .inl hg), (HSW.out.below hbf).mono (fun g hg => .inl hg)⟩, hbf⟩
   ·
    have q3 : decide (r < 0) = false := by simpa using hr1
    by_cases hr2 : 1073741824 < r
    ·
     have q4 : decide (1073741824 < r) = true := by simpa using hr2
     have HERR := Lib.hid (show t.assignErr l r = 2 from by unfold RTr.assignErr; rw [HLV.out, if_neg HN1.out, if_pos (.inr hr2)])
     have HAS := Lib.hid (show t.assigned l r = t from by unfold RTr.assigned; rw [HERR.out]; rfl)
     clear hr1 hr2
     go_upto_region 1 with fail
     refine wp_region_held_drew (S := fun w' => Below wa.heap.size wa w') (by kernel_rfl) (mx_drew wa) (fun hS => ?_)
     obtain ⟨wD, hwD⟩ : ∃ x, (wa).drew = x := ⟨_, rfl⟩
     rw [hwD] at hS ⊢
     clear hwD
     refine takeE 0 8 ?_
     refine ready1 1 (fun K hK => ?_)
     go_simp
     refine (HV.out _).mono ?_
     rintro e w' ⟨rfl, rfl⟩
     refine hK.out _ _ hS (fun _ => ?_)
     clear hK
     refine takeE 2 10 ?_
     refine takeE 3 11 ?_
     refine takeE 4 12 ?_
     refine takeE 6 14 ?_
     refine takeF 7 15 (fun wq hSw => (hSw.cell (p := ⟨w.heap.size, 0, none⟩) hz0).trans P0.out) ?_
     refine ready1 5 (fun K hK => ?_)
     go_simp
     refine (HV.out _).mono ?_
     rintro e w' ⟨rfl, rfl⟩
     refine hK.out _ _ hS (fun _ => ?_)
     clear hK
     refine takeE 8 16 ?_
     refine takeE 9 17 ?_
     refine wpAnyH_done (by kernel_rfl) ?_ _
     have HS := Lib.hid hS
     clear hS
     have c0 := (HS.out.cell (p := ⟨w.heap.size, 0, none⟩) hz0).trans P0.out
     have c1 := (HS.out.cell (p := ⟨w.heap.size, 1, none⟩) hz0).trans P1.out
     have c2 := (HS.out.cell (p := ⟨w.heap.size, 2, none⟩) hz0).trans P2.out
     have c3 := (HS.out.cell (p := ⟨w.heap.size, 3, none⟩) hz0).trans P3.out
     have hr1 := (HS.out.block (w.heap.size + 1) hz1).trans HB1.out
     obtain ⟨⟨r0, r1, r2, r3⟩, f0, f1, f2, f3⟩ := cells4 hr1
     have HR1 := Lib.hid hr1
     clear hr1
     go_wp2_with fail
     obtain ⟨Wf, hWf⟩ : ∃ x, ((((wD.setCell ⟨w.heap.size + 1, 0, none⟩ (.int .i64 t.vars)).setCell ⟨w.heap.size + 1, 1, none⟩ (.int .i64 t.now)).setCell ⟨w.heap.size + 1, 2, none⟩ (.slice Ai t.items.length ci)).setCell ⟨w.heap.size + 1, 3, none⟩ (.slice As t.starts.length cs)) = x := ⟨_, rfl⟩
     rw [hWf]
     have r6 : Wf.heap[w.heap.size + 1]? = some (.cells #[.int .i64 t.vars, .int .i64 t.now, .slice Ai t.items.length ci, .slice As t.starts.length cs] 59 (0, 0)) := by
      rw [← hWf]
      exact (mx_set (j := 3) (mx_set (j := 2) (mx_set (j := 1) (mx_set (j := 0) HR1.out _) _) _) _)
     have HBX := HBA.out.trans (HS.out.mono HBA.out.size)
     have hbf : Below w.heap.size w Wf := by
      rw [← hWf]
      exact ((((HBX.setCell (p := ⟨w.heap.size + 1, 0, none⟩) (Nat.le_succ _) _).setCell (p := ⟨w.heap.size + 1, 1, none⟩) (Nat.le_succ _) _).setCell (p := ⟨w.heap.size + 1, 2, none⟩) (Nat.le_succ _) _).setCell (p := ⟨w.heap.size + 1, 3, none⟩) (Nat.le_succ _) _)
     exact bodyPost_ret (res_rtn rfl r6 _ rfl rfl) rfl ⟨_, by rw [HERR.out]; rfl, by rw [HAS.out]; exact ⟨_, _, rfl, (HIW.out.below hbf).mono (fun g hg => .inl hg), (HSW.out.below hbf).mono (fun g hg => .inl hg)⟩, hbf⟩
    ·
     have q4 : decide (1073741824 < r) = false := by simpa using hr2
     have HN2 := Lib.hid (show ¬ (r < 0 ∨ 1073741824 < r) from fun h => h.elim hr1 hr2)
     clear hr1 hr2
     obtain ⟨vl, hvl⟩ : ∃ z : Int, rVl t.items l = z := ⟨_, rfl⟩
     rw [hvl] at HVAL
     have HVLE := Lib.hid hvl
     clear hvl
     go_upto_region 1 with fail
     refine wp_region_held_drew (S := fun w' => Below wa.heap.size wa w') (by kernel_rfl) (mx_drew wa) (fun hS => ?_)
     obtain ⟨wD, hwD⟩ : ∃ x, (wa).drew = x := ⟨_, rfl⟩
     rw [hwD] at hS ⊢
     clear hwD
     refine takeE 0 8 ?_
     refine ready1 1 (fun K hK => ?_)
     go_simp
     refine (HV.out _).mono ?_
     rintro e w' ⟨rfl, rfl⟩
     refine hK.out _ _ hS (fun _ => ?_)
     clear hK
     refine takeE 2 10 ?_
     refine takeE 3 11 ?_
     refine takeE 4 12 ?_
     refine takeE 6 14 ?_
     refine takeF 7 15 (fun wq hSw => (hSw.cell (p := ⟨w.heap.size, 0, none⟩) hz0).trans P0.out) ?_
     refine ready1 5 (fun K hK => ?_)
     go_simp
     refine (HV.out _).mono ?_
     rintro e w' ⟨rfl, rfl⟩
     refine hK.out _ _ hS (fun _ => ?_)
     clear hK
     refine takeE 8 16 ?_
     refine takeE 9 17 ?_
     refine wpAnyH_done (by kernel_rfl) ?_ _
     have HS1 := Lib.hid hS
     clear hS
     have c0 := (HS1.out.cell (p := ⟨w.heap.size, 0, none⟩) hz0).trans P0.out
     have c1 := (HS1.out.cell (p := ⟨w.heap.size, 1, none⟩) hz0).trans P1.out
     have c2 := (HS1.out.cell (p := ⟨w.heap.size, 2, none⟩) hz0).trans P2.out
     have c3 := (HS1.out.cell (p := ⟨w.heap.size, 3, none⟩) hz0).trans P3.out
     go_wp2_with fail
     refine (HVAL.out wD _ (HTA.out.below HS1.out)).mono ?_
     rintro e w2 ⟨rfl, hb⟩
     have HB2 := Lib.hid (HS1.out.trans (hb.mono HS1.out.size))
     clear hb c0 c1 c2 c3
     by_cases hv3 : vl = 0
     ·
      have q5 : (vl == 0) = true := by simpa using hv3
      have q6 : (vl != 0) = false := by simpa using hv3
      have HERR := Lib.hid (show t.assignErr l r = 0 from by unfold RTr.assignErr; rw [HLV.out, if_neg HN1.out, if_neg HN2.out, HVLE.out, if_neg (fun h => h hv3)])
      have HAS := Lib.hid (show t.assigned l r = ⟨t.vars, t.now, t.items ++ [⟨l, r, t.now⟩], t.starts⟩ from by unfold RTr.assigned; rw [HERR.out]; rfl)
      clear hv3
      have HBR := Lib.hid ((HB2.out.block w.heap.size hz0).trans HB0.out)
      have HBR1 := Lib.hid ((HB2.out.block (w.heap.size + 1) hz1).trans HB1.out)
      have HBW := Lib.hid (HBA.out.trans (HB2.out.mono HBA.out.size))
      have hzr := heap_lt HBR.out
      have hzr1 := heap_lt HBR1.out
      have Q1 := Lib.hid (mx_cell (j := 1) HBR.out)
      have Q2 := Lib.hid (mx_cell (j := 2) HBR.out)
      have HT1 := Lib.hid (HIR.out.below HB2.out)
      go_upto_region 7 with fail
      obtain ⟨x0, hx0⟩ : ∃ x, (w2).drew = x := ⟨_, rfl⟩
      have hS0 := mx_drew w2
      rw [hx0] at hS0
      refine wp_region_sink_at (S := fun w' => Below w2.heap.size w2 w') (by kernel_rfl) rfl (by kernel_rfl) (by rw [hx0]; exact hS0) (fun hS => ?_)
      rw [hx0] at hS ⊢
      clear hS0 hx0
      refine takeE 1 32 ?_
      refine takeF 2 33 (fun wq hSw => (hSw.cell (p := ⟨w.heap.size, 2, none⟩) hzr).trans Q2.out) ?_
      refine takeE 4 35 ?_
      refine takeE 5 36 ?_
      refine takeE 6 37 ?_
      refine takeF 7 38 (fun wq hSw => (hSw.cell (p := ⟨w.heap.size, 1, none⟩) hzr).trans Q1.out) ?_
      refine takeE 8 39 ?_
      refine wpAnyH_ready (rs := [0, 9]) (by kernel_rfl) (by simp) ?_
      refine AllReadyH.cons rfl (fun K hK => ?_) (AllReadyH.cons rfl (fun K hK => ?_) AllReadyH.nil)
      ·
       go_simp
       obtain ⟨x1, hwn⟩ : ∃ z, x0.alloc (.cells #[] 114) = z := ⟨_, rfl⟩
       have hbn : Below x0.heap.size x0 x1 := by rw [← hwn]; exact mx_al _ _
       have hon := own_none x0 w2.heap.size 114 3 hS.size
       have hsz : x1.heap.size = x0.heap.size + 1 := by rw [← hwn]; simp
       rw [hwn] at hon
       rw [hwn]
       have HZx1 := Lib.hid hsz
       have HO := Lib.hid hon
       have hSN := hS.trans (hbn.mono hS.size)
       clear hbn hon hwn hsz
       refine hK.out _ _ hSN (fun _ => ?_)
       clear hK hS
       have hS := hSN
       clear hSN
       refine wpAnyH_ready (rs := [3, 9]) (by kernel_rfl) (by simp) ?_
       refine AllReadyH.cons rfl (fun K hK => ?_) (AllReadyH.cons rfl (fun K hK => ?_) AllReadyH.nil)
       ·
        rw [if_pos (by rfl)]
        refine wp_append_any_at 34 (by rfl) _ _ 57 rfl w2.heap.size 114 i0 (.agg #[.int .i64 0, .int .i64 0, .int .i64 0]) 3 24 Tryz.underlying57 hi0 hi1 hi2 hi3 rfl (by decide) _ (0) _ (by rfl) HO.out (.slice Ai t.items.length ci) (t.items.length) (t.items.flatMap RIt.cells) (by rfl) (HT1.out.below hS) (itCells_len _) (by intro u hu; obtain ⟨x, _, hx⟩ := List.mem_flatMap.1 hu; simp only [RIt.cells, List.mem_cons, List.not_mem_nil, or_false] at hx; rcases hx with rfl | rfl | rfl <;> rfl) (by unfold maxLen; omega) (by omega) hS.size ?_
        intro v' x2 hown hgrow hat
        rw [Nat.zero_add, List.nil_append] at hown
        obtain ⟨Aw, kAw, rfl, _⟩ := mx_slice hown
        have hSN := hS.grown hgrow hS.size (fun g hg => (own_lt HO.out g hg).1)
        have HO1 := Lib.hid hown
        clear HO
        have HO := HO1
        clear HO1 hown hgrow hat
        refine hK.out _ _ hSN (fun _ => ?_)
        clear hK hS
        have hS := hSN
        clear hSN
        refine ready1 9 (fun K hK => ?_)
        go_simp
        obtain ⟨x3, hwn⟩ : ∃ z, x2.alloc (.cells #[.int .i64 l, .int .i64 r, .int .i64 t.now] 114) = z := ⟨_, rfl⟩
        have hbn : Below x2.heap.size x2 x3 := by rw [← hwn]; exact mx_al _ _
        have hnn := mx_src x2 114 [.int .i64 l, .int .i64 r, .int .i64 t.now]
        rw [show ([.int .i64 l, .int .i64 r, .int .i64 t.now] : List Value).toArray = #[.int .i64 l, .int .i64 r, .int .i64 t.now] from rfl, hwn] at hnn
        have hsz : x3.heap.size = x2.heap.size + 1 := by rw [← hwn]; simp
        rw [hwn]
        have HZx3 := Lib.hid hsz
        have HN := Lib.hid hnn
        have HO1 := Lib.hid (own_below HO.out hbn)
        clear HO
        have HO := HO1
        clear HO1
        have hSN := hS.trans (hbn.mono hS.size)
        clear hbn hnn hwn hsz
        refine hK.out _ _ hSN (fun _ => ?_)
        clear hK hS
        have hS := hSN
        clear hSN
        refine ready1 10 (fun K hK => ?_)
        rw [if_pos (by rfl)]
        refine wp_append_any_at 41 (by rfl) _ _ 57 rfl w2.heap.size 114 i0 (.agg #[.int .i64 0, .int .i64 0, .int .i64 0]) 3 24 Tryz.underlying57 hi0 hi1 hi2 hi3 rfl (by decide) _ (t.items.length) _ (by rfl) HO.out (.slice (some ⟨x2.heap.size, 0, none⟩) 1 1) (1) [.int .i64 l, .int .i64 r, .int .i64 t.now] (by rfl) HN.out rfl (by simp [Value.oneCell']) (by unfold maxLen; omega) (by omega) hS.size ?_
        intro v' x4 hown hgrow hat
        obtain ⟨Ax, kAx, rfl, _⟩ := mx_slice hown
        have hSN := hS.grown hgrow hS.size (fun g hg => (own_lt HO.out g hg).1)
        have HO1 := Lib.hid hown
        clear HO
        have HO := HO1
        clear HO1 hown hgrow hat
        refine hK.out _ _ hSN (fun _ => ?_)
        clear hK hS
        have hS := hSN
        clear hSN
        refine takeE 11 42 ?_
        refine wpAnyH_done (by kernel_rfl) ?_ _
        refine lastPost_normal ?_
        have hblk := (hS.block w.heap.size hzr).trans HBR.out
        have fr2 := mx_free (j := 2) hblk
        have ce2 := mx_cell (j := 2) hblk
        have HBLK := Lib.hid hblk
        clear hblk
        refine wpOp_step rfl (fun K hK => ?_)
        go_simp
        refine hK _ _ ?_
        clear hK fr2 ce2
        obtain ⟨w7, hw7⟩ : ∃ z, x4.setCell ⟨w.heap.size, 2, none⟩ (.slice Ax (t.items.length + 1) kAx) = z := ⟨_, rfl⟩
        have hb7 : w7.heap[w.heap.size]? = some (.cells #[.int .i64 t.vars, .int .i64 t.now, .slice Ax (t.items.length + 1) kAx, .slice As t.starts.length cs] 59 (0, 0)) := by rw [← hw7]; exact mx_set (j := 2) HBLK.out _
        have hr7 : w7.heap[w.heap.size + 1]? = some (.cells #[.int .i64 0, .int .i64 0, .slice none 0 0, .slice none 0 0] 59 (0, 0)) := by rw [← hw7, Below.heap_setCell _ _ _ _ (by simp)]; exact (hS.block (w.heap.size + 1) hzr1).trans HBR1.out
        rw [hw7]
        obtain ⟨⟨k0, k1, k2, k3⟩, _⟩ := cells4 hb7
        obtain ⟨⟨r0, r1, r2, r3⟩, f0, f1, f2, f3⟩ := cells4 hr7
        have HR7 := Lib.hid hr7
        clear hb7 hr7
        go_wp2_with fail
        obtain ⟨Wf, hWf⟩ : ∃ x, ((((w7.setCell ⟨w.heap.size + 1, 0, none⟩ (.int .i64 t.vars)).setCell ⟨w.heap.size + 1, 1, none⟩ (.int .i64 t.now)).setCell ⟨w.heap.size + 1, 2, none⟩ (.slice Ax (t.items.length + 1) kAx)).setCell ⟨w.heap.size + 1, 3, none⟩ (.slice As t.starts.length cs)) = x := ⟨_, rfl⟩
        rw [hWf]
        have r6 : Wf.heap[w.heap.size + 1]? = some (.cells #[.int .i64 t.vars, .int .i64 t.now, .slice Ax (t.items.length + 1) kAx, .slice As t.starts.length cs] 59 (0, 0)) := by
         rw [← hWf]
         exact (mx_set (j := 3) (mx_set (j := 2) (mx_set (j := 1) (mx_set (j := 0) HR7.out _) _) _) _)
        have HBX := HBW.out.trans (hS.mono HBW.out.size)
        have hbf : Below w.heap.size w Wf := by
         rw [← hWf, ← hw7]
         exact (((((HBX.setCell (p := ⟨w.heap.size, 2, none⟩) (Nat.le_refl _) _).setCell (p := ⟨w.heap.size + 1, 0, none⟩) (Nat.le_succ _) _).setCell (p := ⟨w.heap.size + 1, 1, none⟩) (Nat.le_succ _) _).setCell (p := ⟨w.heap.size + 1, 2, none⟩) (Nat.le_succ _) _).setCell (p := ⟨w.heap.size + 1, 3, none⟩) (Nat.le_succ _) _)
        have hkf : Kept (fun g => g = w.heap.size ∨ g = w.heap.size + 1) x4 Wf := by
         rw [← hWf, ← hw7]
         exact ((((((Kept.refl (fun g => g = w.heap.size ∨ g = w.heap.size + 1) x4).setCell ⟨w.heap.size, 2, none⟩ _ (.inl rfl)).setCell ⟨w.heap.size + 1, 0, none⟩ _ (.inr rfl)).setCell ⟨w.heap.size + 1, 1, none⟩ _ (.inr rfl)).setCell ⟨w.heap.size + 1, 2, none⟩ _ (.inr rfl)).setCell ⟨w.heap.size + 1, 3, none⟩ _ (.inr rfl))
        have hof := own_kept HO.out hkf (fun g hg e => by have := (own_lt HO.out g hg).1; omega)
        have hrw := (RowO.of_own hof).mono (O' := fun g => Q g ∨ w.heap.size ≤ g) (fun g hg => .inr (Nat.le_trans HBW.out.size hg))
        exact bodyPost_ret (res_rtn rfl r6 _ rfl rfl) rfl ⟨_, by rw [HERR.out]; rfl, by rw [HAS.out]; exact ⟨_, _, rfl, by rw [List.length_append, List.flatMap_append]; exact hrw, (HSW.out.below hbf).mono (fun g hg => .inl hg)⟩, hbf⟩
       ·
        go_simp
        obtain ⟨x2, hwn⟩ : ∃ z, x1.alloc (.cells #[.int .i64 l, .int .i64 r, .int .i64 t.now] 114) = z := ⟨_, rfl⟩
        have hbn : Below x1.heap.size x1 x2 := by rw [← hwn]; exact mx_al _ _
        have hnn := mx_src x1 114 [.int .i64 l, .int .i64 r, .int .i64 t.now]
        rw [show ([.int .i64 l, .int .i64 r, .int .i64 t.now] : List Value).toArray = #[.int .i64 l, .int .i64 r, .int .i64 t.now] from rfl, hwn] at hnn
        have hsz : x2.heap.size = x1.heap.size + 1 := by rw [← hwn]; simp
        rw [hwn]
        have HZx2 := Lib.hid hsz
        have HN := Lib.hid hnn
        have HO1 := Lib.hid (own_below HO.out hbn)
        clear HO
        have HO := HO1
        clear HO1
        have hSN := hS.trans (hbn.mono hS.size)
        clear hbn hnn hwn hsz
        refine hK.out _ _ hSN (fun _ => ?_)
        clear hK hS
        have hS := hSN
        clear hSN
        refine ready1 3 (fun K hK => ?_)
        rw [if_pos (by rfl)]
        refine wp_append_any_at 34 (by rfl) _ _ 57 rfl w2.heap.size 114 i0 (.agg #[.int .i64 0, .int .i64 0, .int .i64 0]) 3 24 Tryz.underlying57 hi0 hi1 hi2 hi3 rfl (by decide) _ (0) _ (by rfl) HO.out (.slice Ai t.items.length ci) (t.items.length) (t.items.flatMap RIt.cells) (by rfl) (HT1.out.below hS) (itCells_len _) (by intro u hu; obtain ⟨x, _, hx⟩ := List.mem_flatMap.1 hu; simp only [RIt.cells, List.mem_cons, List.not_mem_nil, or_false] at hx; rcases hx with rfl | rfl | rfl <;> rfl) (by unfold maxLen; omega) (by omega) hS.size ?_
        intro v' x3 hown hgrow hat
        rw [Nat.zero_add, List.nil_append] at hown
        obtain ⟨Aw, kAw, rfl, _⟩ := mx_slice hown
        have hSN := hS.grown hgrow hS.size (fun g hg => (own_lt HO.out g hg).1)
        have HN1 := Lib.hid (src_grown' HN.out hgrow (by have := HZx1.out; simp [Value.ownBlock]; omega))
        clear HN
        have HN := HN1
        clear HN1
        have HO1 := Lib.hid hown
        clear HO
        have HO := HO1
        clear HO1 hown hgrow hat
        refine hK.out _ _ hSN (fun _ => ?_)
        clear hK hS
        have hS := hSN
        clear hSN
        refine ready1 10 (fun K hK => ?_)
        rw [if_pos (by rfl)]
        refine wp_append_any_at 41 (by rfl) _ _ 57 rfl w2.heap.size 114 i0 (.agg #[.int .i64 0, .int .i64 0, .int .i64 0]) 3 24 Tryz.underlying57 hi0 hi1 hi2 hi3 rfl (by decide) _ (t.items.length) _ (by rfl) HO.out (.slice (some ⟨x1.heap.size, 0, none⟩) 1 1) (1) [.int .i64 l, .int .i64 r, .int .i64 t.now] (by rfl) HN.out rfl (by simp [Value.oneCell']) (by unfold maxLen; omega) (by omega) hS.size ?_
        intro v' x4 hown hgrow hat
        obtain ⟨Ax, kAx, rfl, _⟩ := mx_slice hown
        have hSN := hS.grown hgrow hS.size (fun g hg => (own_lt HO.out g hg).1)
        have HO1 := Lib.hid hown
        clear HO
        have HO := HO1
        clear HO1 hown hgrow hat
        refine hK.out _ _ hSN (fun _ => ?_)
        clear hK hS
        have hS := hSN
        clear hSN
        refine takeE 11 42 ?_
        refine wpAnyH_done (by kernel_rfl) ?_ _
        refine lastPost_normal ?_
        have hblk := (hS.block w.heap.size hzr).trans HBR.out
        have fr2 := mx_free (j := 2) hblk
        have ce2 := mx_cell (j := 2) hblk
        have HBLK := Lib.hid hblk
        clear hblk
        refine wpOp_step rfl (fun K hK => ?_)
        go_simp
        refine hK _ _ ?_
        clear hK fr2 ce2
        obtain ⟨w7, hw7⟩ : ∃ z, x4.setCell ⟨w.heap.size, 2, none⟩ (.slice Ax (t.items.length + 1) kAx) = z := ⟨_, rfl⟩
        have hb7 : w7.heap[w.heap.size]? = some (.cells #[.int .i64 t.vars, .int .i64 t.now, .slice Ax (t.items.length + 1) kAx, .slice As t.starts.length cs] 59 (0, 0)) := by rw [← hw7]; exact mx_set (j := 2) HBLK.out _
        have hr7 : w7.heap[w.heap.size + 1]? = some (.cells #[.int .i64 0, .int .i64 0, .slice none 0 0, .slice none 0 0] 59 (0, 0)) := by rw [← hw7, Below.heap_setCell _ _ _ _ (by simp)]; exact (hS.block (w.heap.size + 1) hzr1).trans HBR1.out
        rw [hw7]
        obtain ⟨⟨k0, k1, k2, k3⟩, _⟩ := cells4 hb7
        obtain ⟨⟨r0, r1, r2, r3⟩, f0, f1, f2, f3⟩ := cells4 hr7
        have HR7 := Lib.hid hr7
        clear hb7 hr7
        go_wp2_with fail
        obtain ⟨Wf, hWf⟩ : ∃ x, ((((w7.setCell ⟨w.heap.size + 1, 0, none⟩ (.int .i64 t.vars)).setCell ⟨w.heap.size + 1, 1, none⟩ (.int .i64 t.now)).setCell ⟨w.heap.size + 1, 2, none⟩ (.slice Ax (t.items.length + 1) kAx)).setCell ⟨w.heap.size + 1, 3, none⟩ (.slice As t.starts.length cs)) = x := ⟨_, rfl⟩
        rw [hWf]
        have r6 : Wf.heap[w.heap.size + 1]? = some (.cells #[.int .i64 t.vars, .int .i64 t.now, .slice Ax (t.items.length + 1) kAx, .slice As t.starts.length cs] 59 (0, 0)) := by
         rw [← hWf]
         exact (mx_set (j := 3) (mx_set (j := 2) (mx_set (j := 1) (mx_set (j := 0) HR7.out _) _) _) _)
        have HBX := HBW.out.trans (hS.mono HBW.out.size)
        have hbf : Below w.heap.size w Wf := by
         rw [← hWf, ← hw7]
         exact (((((HBX.setCell (p := ⟨w.heap.size, 2, none⟩) (Nat.le_refl _) _).setCell (p := ⟨w.heap.size + 1, 0, none⟩) (Nat.le_succ _) _).setCell (p := ⟨w.heap.size + 1, 1, none⟩) (Nat.le_succ _) _).setCell (p := ⟨w.heap.size + 1, 2, none⟩) (Nat.le_succ _) _).setCell (p := ⟨w.heap.size + 1, 3, none⟩) (Nat.le_succ _) _)
        have hkf : Kept (fun g => g = w.heap.size ∨ g = w.heap.size + 1) x4 Wf := by
         rw [← hWf, ← hw7]
         exact ((((((Kept.refl (fun g => g = w.heap.size ∨ g = w.heap.size + 1) x4).setCell ⟨w.heap.size, 2, none⟩ _ (.inl rfl)).setCell ⟨w.heap.size + 1, 0, none⟩ _ (.inr rfl)).setCell ⟨w.heap.size + 1, 1, none⟩ _ (.inr rfl)).setCell ⟨w.heap.size + 1, 2, none⟩ _ (.inr rfl)).setCell ⟨w.heap.size + 1, 3, none⟩ _ (.inr rfl))
        have hof := own_kept HO.out hkf (fun g hg e => by have := (own_lt HO.out g hg).1; omega)
        have hrw := (RowO.of_own hof).mono (O' := fun g => Q g ∨ w.heap.size ≤ g) (fun g hg => .inr (Nat.le_trans HBW.out.size hg))
        exact bodyPost_ret (res_rtn rfl r6 _ rfl rfl) rfl ⟨_, by rw [HERR.out]; rfl, by rw [HAS.out]; exact ⟨_, _, rfl, by rw [List.length_append, List.flatMap_append]; exact hrw, (HSW.out.below hbf).mono (fun g hg => .inl hg)⟩, hbf⟩
      ·
       go_simp
       obtain ⟨x1, hwn⟩ : ∃ z, x0.alloc (.cells #[.int .i64 l, .int .i64 r, .int .i64 t.now] 114) = z := ⟨_, rfl⟩
       have hbn : Below x0.heap.size x0 x1 := by rw [← hwn]; exact mx_al _ _
       have hnn := mx_src x0 114 [.int .i64 l, .int .i64 r, .int .i64 t.now]
       rw [show ([.int .i64 l, .int .i64 r, .int .i64 t.now] : List Value).toArray = #[.int .i64 l, .int .i64 r, .int .i64 t.now] from rfl, hwn] at hnn
       have hsz : x1.heap.size = x0.heap.size + 1 := by rw [← hwn]; simp
       rw [hwn]
       have HZx1 := Lib.hid hsz
       have HN := Lib.hid hnn
       have hSN := hS.trans (hbn.mono hS.size)
       clear hbn hnn hwn hsz
       refine hK.out _ _ hSN (fun _ => ?_)
       clear hK hS
       have hS := hSN
       clear hSN
       refine ready1 0 (fun K hK => ?_)
       go_simp
       obtain ⟨x2, hwn⟩ : ∃ z, x1.alloc (.cells #[] 114) = z := ⟨_, rfl⟩
       have hbn : Below x1.heap.size x1 x2 := by rw [← hwn]; exact mx_al _ _
       have hon := own_none x1 w2.heap.size 114 3 hS.size
       have hsz : x2.heap.size = x1.heap.size + 1 := by rw [← hwn]; simp
       rw [hwn] at hon
       rw [hwn]
       have HZx2 := Lib.hid hsz
       have HO := Lib.hid hon
       have HN1 := Lib.hid (HN.out.below hbn)
       clear HN
       have HN := HN1
       clear HN1
       have hSN := hS.trans (hbn.mono hS.size)
       clear hbn hon hwn hsz
       refine hK.out _ _ hSN (fun _ => ?_)
       clear hK hS
       have hS := hSN
       clear hSN
       refine ready1 3 (fun K hK => ?_)
       rw [if_pos (by rfl)]
       refine wp_append_any_at 34 (by rfl) _ _ 57 rfl w2.heap.size 114 i0 (.agg #[.int .i64 0, .int .i64 0, .int .i64 0]) 3 24 Tryz.underlying57 hi0 hi1 hi2 hi3 rfl (by decide) _ (0) _ (by rfl) HO.out (.slice Ai t.items.length ci) (t.items.length) (t.items.flatMap RIt.cells) (by rfl) (HT1.out.below hS) (itCells_len _) (by intro u hu; obtain ⟨x, _, hx⟩ := List.mem_flatMap.1 hu; simp only [RIt.cells, List.mem_cons, List.not_mem_nil, or_false] at hx; rcases hx with rfl | rfl | rfl <;> rfl) (by unfold maxLen; omega) (by omega) hS.size ?_
       intro v' x3 hown hgrow hat
       rw [Nat.zero_add, List.nil_append] at hown
       obtain ⟨Aw, kAw, rfl, _⟩ := mx_slice hown
       have hSN := hS.grown hgrow hS.size (fun g hg => (own_lt HO.out g hg).1)
       have HN1 := Lib.hid (src_grown' HN.out hgrow (by have := HZx1.out; simp [Value.ownBlock]; omega))
       clear HN
       have HN := HN1
       clear HN1
       have HO1 := Lib.hid hown
       clear HO
       have HO := HO1
       clear HO1 hown hgrow hat
       refine hK.out _ _ hSN (fun _ => ?_)
       clear hK hS
       have hS := hSN
       clear hSN
       refine ready1 10 (fun K hK => ?_)
       rw [if_pos (by rfl)]
       refine wp_append_any_at 41 (by rfl) _ _ 57 rfl w2.heap.size 114 i0 (.agg #[.int .i64 0, .int .i64 0, .int .i64 0]) 3 24 Tryz.underlying57 hi0 hi1 hi2 hi3 rfl (by decide) _ (t.items.length) _ (by rfl) HO.out (.slice (some ⟨x0.heap.size, 0, none⟩) 1 1) (1) [.int .i64 l, .int .i64 r, .int .i64 t.now] (by rfl) HN.out rfl (by simp [Value.oneCell']) (by unfold maxLen; omega) (by omega) hS.size ?_
       intro v' x4 hown hgrow hat
       obtain ⟨Ax, kAx, rfl, _⟩ := mx_slice hown
       have hSN := hS.grown hgrow hS.size (fun g hg => (own_lt HO.out g hg).1)
       have HO1 := Lib.hid hown
       clear HO
       have HO := HO1
       clear HO1 hown hgrow hat
       refine hK.out _ _ hSN (fun _ => ?_)
       clear hK hS
       have hS := hSN
       clear hSN
       refine takeE 11 42 ?_
       refine wpAnyH_done (by kernel_rfl) ?_ _
       refine lastPost_normal ?_
       have hblk := (hS.block w.heap.size hzr).trans HBR.out
       have fr2 := mx_free (j := 2) hblk
       have ce2 := mx_cell (j := 2) hblk
       have HBLK := Lib.hid hblk
       clear hblk
       refine wpOp_step rfl (fun K hK => ?_)
       go_simp
       refine hK _ _ ?_
       clear hK fr2 ce2
       obtain ⟨w7, hw7⟩ : ∃ z, x4.setCell ⟨w.heap.size, 2, none⟩ (.slice Ax (t.items.length + 1) kAx) = z := ⟨_, rfl⟩
       have hb7 : w7.heap[w.heap.size]? = some (.cells #[.int .i64 t.vars, .int .i64 t.now, .slice Ax (t.items.length + 1) kAx, .slice As t.starts.length cs] 59 (0, 0)) := by rw [← hw7]; exact mx_set (j := 2) HBLK.out _
       have hr7 : w7.heap[w.heap.size + 1]? = some (.cells #[.int .i64 0, .int .i64 0, .slice none 0 0, .slice none 0 0] 59 (0, 0)) := by rw [← hw7, Below.heap_setCell _ _ _ _ (by simp)]; exact (hS.block (w.heap.size + 1) hzr1).trans HBR1.out
       rw [hw7]
       obtain ⟨⟨k0, k1, k2, k3⟩, _⟩ := cells4 hb7
       obtain ⟨⟨r0, r1, r2, r3⟩, f0, f1, f2, f3⟩ := cells4 hr7
       have HR7 := Lib.hid hr7
       clear hb7 hr7
       go_wp2_with fail
       obtain ⟨Wf, hWf⟩ : ∃ x, ((((w7.setCell ⟨w.heap.size + 1, 0, none⟩ (.int .i64 t.vars)).setCell ⟨w.heap.size + 1, 1, none⟩ (.int .i64 t.now)).setCell ⟨w.heap.size + 1, 2, none⟩ (.slice Ax (t.items.length + 1) kAx)).setCell ⟨w.heap.size + 1, 3, none⟩ (.slice As t.starts.length cs)) = x := ⟨_, rfl⟩
       rw [hWf]
       have r6 : Wf.heap[w.heap.size + 1]? = some (.cells #[.int .i64 t.vars, .int .i64 t.now, .slice Ax (t.items.length + 1) kAx, .slice As t.starts.length cs] 59 (0, 0)) := by
        rw [← hWf]
        exact (mx_set (j := 3) (mx_set (j := 2) (mx_set (j := 1) (mx_set (j := 0) HR7.out _) _) _) _)
       have HBX := HBW.out.trans (hS.mono HBW.out.size)
       have hbf : Below w.heap.size w Wf := by
        rw [← hWf, ← hw7]
        exact (((((HBX.setCell (p := ⟨w.heap.size, 2, none⟩) (Nat.le_refl _) _).setCell (p := ⟨w.heap.size + 1, 0, none⟩) (Nat.le_succ _) _).setCell (p := ⟨w.heap.size + 1, 1, none⟩) (Nat.le_succ _) _).setCell (p := ⟨w.heap.size + 1, 2, none⟩) (Nat.le_succ _) _).setCell (p := ⟨w.heap.size + 1, 3, none⟩) (Nat.le_succ _) _)
       have hkf : Kept (fun g => g = w.heap.size ∨ g = w.heap.size + 1) x4 Wf := by
        rw [← hWf, ← hw7]
        exact ((((((Kept.refl (fun g => g = w.heap.size ∨ g = w.heap.size + 1) x4).setCell ⟨w.heap.size, 2, none⟩ _ (.inl rfl)).setCell ⟨w.heap.size + 1, 0, none⟩ _ (.inr rfl)).setCell ⟨w.heap.size + 1, 1, none⟩ _ (.inr rfl)).setCell ⟨w.heap.size + 1, 2, none⟩ _ (.inr rfl)).setCell ⟨w.heap.size + 1, 3, none⟩ _ (.inr rfl))
       have hof := own_kept HO.out hkf (fun g hg e => by have := (own_lt HO.out g hg).1; omega)
       have hrw := (RowO.of_own hof).mono (O' := fun g => Q g ∨ w.heap.size ≤ g) (fun g hg => .inr (Nat.le_trans HBW.out.size hg))
       exact bodyPost_ret (res_rtn rfl r6 _ rfl rfl) rfl ⟨_, by rw [HERR.out]; rfl, by rw [HAS.out]; exact ⟨_, _, rfl, by rw [List.length_append, List.flatMap_append]; exact hrw, (HSW.out.below hbf).mono (fun g hg => .inl hg)⟩, hbf⟩
     ·
      have q5 : (vl == 0) = false := by simpa using hv3
      have q6 : (vl != 0) = true := by simpa using hv3
      have HERR := Lib.hid (show t.assignErr l r = 41 from by unfold RTr.assignErr; rw [HLV.out, if_neg HN1.out, if_neg HN2.out, HVLE.out, if_pos hv3])
      have HAS := Lib.hid (show t.assigned l r = t from by unfold RTr.assigned; rw [HERR.out]; rfl)
      clear hv3
      have hS := HB2.out
      have HS := Lib.hid hS
      clear hS
      have c0 := (HS.out.cell (p := ⟨w.heap.size, 0, none⟩) hz0).trans P0.out
      have c1 := (HS.out.cell (p := ⟨w.heap.size, 1, none⟩) hz0).trans P1.out
      have c2 := (HS.out.cell (p := ⟨w.heap.size, 2, none⟩) hz0).trans P2.out
      have c3 := (HS.out.cell (p := ⟨w.heap.size, 3, none⟩) hz0).trans P3.out
      have hr1 := (HS.out.block (w.heap.size + 1) hz1).trans HB1.out
      obtain ⟨⟨r0, r1, r2, r3⟩, f0, f1, f2, f3⟩ := cells4 hr1
      have HR1 := Lib.hid hr1
      clear hr1
      go_wp2_with fail
      obtain ⟨Wf, hWf⟩ : ∃ x, ((((w2.setCell ⟨w.heap.size + 1, 0, none⟩ (.int .i64 t.vars)).setCell ⟨w.heap.size + 1, 1, none⟩ (.int .i64 t.now)).setCell ⟨w.heap.size + 1, 2, none⟩ (.slice Ai t.items.length ci)).setCell ⟨w.heap.size + 1, 3, none⟩ (.slice As t.starts.length cs)) = x := ⟨_, rfl⟩
      rw [hWf]
      have r6 : Wf.heap[w.heap.size + 1]? = some (.cells #[.int .i64 t.vars, .int .i64 t.now, .slice Ai t.items.length ci, .slice As t.starts.length cs] 59 (0, 0)) := by
       rw [← hWf]
       exact (mx_set (j := 3) (mx_set (j := 2) (mx_set (j := 1) (mx_set (j := 0) HR1.out _) _) _) _)
      have HBX := HBA.out.trans (HS.out.mono HBA.out.size)
      have hbf : Below w.heap.size w Wf := by
       rw [← hWf]
       exact ((((HBX.setCell (p := ⟨w.heap.size + 1, 0, none⟩) (Nat.le_succ _) _).setCell (p := ⟨w.heap.size + 1, 1, none⟩) (Nat.le_succ _) _).setCell (p := ⟨w.heap.size + 1, 2, none⟩) (Nat.le_succ _) _).setCell (p := ⟨w.heap.size + 1, 3, none⟩) (Nat.le_succ _) _)
      exact bodyPost_ret (res_rtn rfl r6 _ rfl rfl) rfl ⟨_, by rw [HERR.out]; rfl, by rw [HAS.out]; exact ⟨_, _, rfl, (HIW.out.below hbf).mono (fun g hg => .inl hg), (HSW.out.below hbf).mono (fun g hg => .inl hg)⟩, hbf⟩
end Go.Proofs.YtiodfolcnnkdjaaGreat
