/- package rup: Find. -/
import Derived.Test.YthhpffdbipgkcaaGreatDoorCo
import Derived.Deep.DeepCutAuto
import Derived.Deep.CutBlock
namespace Go.Proofs.YthhpffdbipgkcaaGreatDoor
open Go.RowKit Go.Maps Go.Shelf

theorem movL_mem {f : Int → Int} {kd i : Nat} {cs : List (List Int)} {x : Nat × Int} (h : x ∈ movL f kd i cs) : i ≤ x.1 ∧ x.1 < i + cs.length ∧ ∃ c, cs[x.1 - i]? = some c ∧ lookF f c = (kd, x.2) := by
  induction cs generalizing i with
  | nil => cases h
  | cons c r ih =>
    unfold movL at h
    split at h
    · rename_i hk
      rcases List.mem_cons.1 h with rfl | h
      · exact ⟨Nat.le_refl _, by simp, c, by simp, Prod.ext hk rfl⟩
      · obtain ⟨h1, h2, c', h3, h4⟩ := ih h
        refine ⟨by omega, by simp; omega, c', ?_, h4⟩
        rw [show x.1 - i = (x.1 - (i + 1)) + 1 by omega, List.getElem?_cons_succ]
        exact h3
    · obtain ⟨h1, h2, c', h3, h4⟩ := ih h
      refine ⟨by omega, by simp; omega, c', ?_, h4⟩
      rw [show x.1 - i = (x.1 - (i + 1)) + 1 by omega, List.getElem?_cons_succ]
      exact h3
/-- what next finds is a clause that fails, or is unit -/
theorem nextF_cases (f : Int → Int) (cs : List (List Int)) : nextF f cs = (-1, 0) ∨ ∃ (i : Nat) (c : List Int) (u : Int), nextF f cs = ((i : Int), u) ∧ cs[i]? = some c ∧ (lookF f c = (2, u) ∨ lookF f c = (3, u)) := by
  unfold nextF
  cases h2 : movL f 2 0 cs with
  | cons x r =>
    obtain ⟨_, _, c, h3, h4⟩ := movL_mem (x := x) (f := f) (kd := 2) (i := 0) (cs := cs) (by rw [h2]; exact List.mem_cons_self)
    exact .inr ⟨x.1, c, x.2, rfl, h3, .inl h4⟩
  | nil =>
    cases h3 : movL f 3 0 cs with
    | cons x r =>
      obtain ⟨_, _, c, h5, h4⟩ := movL_mem (x := x) (f := f) (kd := 3) (i := 0) (cs := cs) (by rw [h3]; exact List.mem_cons_self)
      exact .inr ⟨x.1, c, x.2, rfl, h5, .inr h4⟩
    | nil => exact .inl rfl
theorem lookGo_unit {f : Int → Int} {k : Nat} {t u : Int} {c : List Int} (h : lookGo f k t c = (3, u)) : (k = 3 ∧ u = t) ∨ (u ∈ c ∧ ofF f u = 0) := by
  induction c generalizing k t with
  | nil =>
    simp only [lookGo, Prod.mk.injEq] at h
    obtain ⟨rfl, h⟩ := h
    exact .inl ⟨rfl, by simpa using h.symm⟩
  | cons l r ih =>
    simp only [lookGo] at h
    split at h
    · cases h
    · rename_i h1
      split at h
      · exact (ih h).imp_right (fun h => ⟨List.mem_cons_of_mem _ h.1, h.2⟩)
      · rename_i h2
        simp only [not_or] at h2
        split at h
        · rcases ih h with ⟨_, rfl⟩ | h
          · exact .inr ⟨List.mem_cons_self, by omega⟩
          · exact .inr ⟨List.mem_cons_of_mem _ h.1, h.2⟩
        · rcases ih h with ⟨h, _⟩ | h
          · cases h
          · exact .inr ⟨List.mem_cons_of_mem _ h.1, h.2⟩
theorem lookF_unit {f : Int → Int} {u : Int} {c : List Int} (h : lookF f c = (3, u)) : u ∈ c ∧ ofF f u = 0 := by
  rcases lookGo_unit h with ⟨h, _⟩ | h
  · cases h
  · exact h
theorem lookGo_snd {f : Int → Int} {k k' : Nat} {t u : Int} {c : List Int} (h : lookGo f k t c = (k', u)) (hk : k' ≠ 3) : u = 0 := by
  induction c generalizing k t with
  | nil =>
    simp only [lookGo, Prod.mk.injEq] at h
    obtain ⟨rfl, h⟩ := h
    rw [if_neg hk] at h
    exact h.symm
  | cons l r ih =>
    simp only [lookGo] at h
    split at h
    · simp only [Prod.mk.injEq] at h
      exact h.2.symm
    · split at h
      · exact ih h
      · split at h <;> exact ih h
theorem ofF_put_self {f : Int → Int} {u : Int} : ofF (putF f u) u = 1 := by
  unfold ofF putF
  cases litG u <;> simp
theorem ofF_put {f : Int → Int} (u l : Int) : ofF (putF f u) l = ofF f l ∨ ofF (putF f u) l ≠ 0 := by
  unfold ofF putF
  by_cases h : ((litV l : Nat) : Int) = ((litV u : Nat) : Int)
  · right
    simp only [h, if_true]
    cases litG u <;> cases litG l <;> simp
  · left
    simp only [if_neg h]
/-- how many literals have no value -/
def freeN (f : Int → Int) (ls : List Int) : Nat := (ls.filter (fun l => decide (ofF f l = 0))).length
theorem freeN_le (f : Int → Int) (u : Int) (ls : List Int) : freeN (putF f u) ls ≤ freeN f ls := by
  induction ls with
  | nil => exact Nat.le_refl _
  | cons l r ih =>
    unfold freeN at ih ⊢
    rw [List.filter_cons, List.filter_cons]
    rcases ofF_put (f := f) u l with h | h
    · rw [h]
      split
      · exact Nat.succ_le_succ ih
      · exact ih
    · rw [if_neg (by simpa using h)]
      split
      · exact Nat.le_succ_of_le ih
      · exact ih
theorem freeN_lt (f : Int → Int) (u : Int) (ls : List Int) (hu : u ∈ ls) (h0 : ofF f u = 0) : freeN (putF f u) ls < freeN f ls := by
  induction ls with
  | nil => cases hu
  | cons l r ih =>
    have hle := freeN_le f u r
    unfold freeN at ih hle ⊢
    rw [List.filter_cons, List.filter_cons]
    by_cases hl : l = u
    · subst hl
      rw [if_neg (by rw [ofF_put_self]; decide), if_pos (by simpa using h0)]
      exact Nat.lt_succ_of_le hle
    · have hr : u ∈ r := by
        rcases List.mem_cons.1 hu with h | h
        · exact absurd h.symm hl
        · exact h
      have := ih hr
      rcases ofF_put (f := f) u l with h | h
      · rw [h]
        split
        · exact Nat.succ_lt_succ this
        · exact this
      · rw [if_neg (by simpa using h)]
        split
        · exact Nat.lt_succ_of_lt this
        · exact this
theorem asgGo_some {xs : List Int} : ∀ (f : Int → Int), (∀ x ∈ xs, litB x = true) → (∀ x ∈ xs, ∀ y ∈ xs, y ≠ -x) → (∀ x ∈ xs, 0 ≤ ofF f x) → ∃ g, asgGo f xs = some g := by
  induction xs with
  | nil => exact fun f _ _ _ => ⟨f, rfl⟩
  | cons x r ih =>
    intro f h1 h2 h3
    have hb := h1 x List.mem_cons_self
    simp only [asgGo]
    rw [if_pos ⟨hb, h3 x List.mem_cons_self⟩]
    refine ih (putF f x) (fun y hy => h1 y (List.mem_cons_of_mem _ hy)) (fun y hy z hz => h2 y (List.mem_cons_of_mem _ hy) z (List.mem_cons_of_mem _ hz)) (fun y hy => ?_)
    have hyb := h1 y (List.mem_cons_of_mem _ hy)
    have hne := h2 x List.mem_cons_self y (List.mem_cons_of_mem _ hy)
    by_cases hv : ((litV y : Nat) : Int) = ((litV x : Nat) : Int)
    · have e1 := litV_right hb
      have e2 := litV_right hyb
      obtain rfl : y = x := by omega
      rw [ofF_put_self]
      decide
    · have := h3 y (List.mem_cons_of_mem _ hy)
      unfold ofF putF at *
      simp only [if_neg hv]
      exact this
theorem alw_pair {l : Int} {xs : List Int} (hr : ∀ x ∈ xs, litB x = true) (hp : xs.Pairwise (fun a b => litI a < litI b)) (h : alwGo l xs = false) : ∀ x ∈ xs, 0 < x → ∀ y ∈ xs, y ≠ -x := by
  induction xs generalizing l with
  | nil => exact fun x hx => by cases hx
  | cons z r ih =>
    obtain ⟨hz, hpr⟩ := List.pairwise_cons.1 hp
    have hal : alwGo z r = false := by
      simp only [alwGo, Bool.or_eq_false_iff] at h
      exact h.2
    have hir := ih (fun x hx => hr x (List.mem_cons_of_mem _ hx)) hpr hal
    have hI : ∀ v : Int, 0 < v → litB v = true → litI (-v) = litI v + 1 := fun v hv hb => by
      have h1 := litV_right hb
      have hb2 : litB (-v) = true := by
        have := (litB_iff v).1 hb
        exact (litB_iff (-v)).2 (by omega)
      have h2 := litV_right hb2
      unfold litI
      rw [if_pos (show -v < 0 by omega), if_neg (show ¬ v < 0 by omega)]
      omega
    rintro x hx hx0 y hy rfl
    rcases List.mem_cons.1 hx with rfl | hxr
    · rcases List.mem_cons.1 hy with he | hyr
      · omega
      · have hy1 := hI x hx0 (hr x List.mem_cons_self)
        cases r with
        | nil => cases hyr
        | cons y1 r' =>
          have h1 := hz y1 List.mem_cons_self
          have hy2 : y1 = -x := by
            rcases List.mem_cons.1 hyr with h | h
            · exact h.symm
            · have := (List.pairwise_cons.1 hpr).1 _ h
              omega
          have hb := hr x List.mem_cons_self
          simp only [alwGo, Bool.or_eq_false_iff, Bool.and_eq_false_iff] at hal
          rcases hal.1 with h | h
          · have : x ≠ 0 := by omega
            simp [this] at h
          · rw [hy2] at h
            unfold litN at h
            rw [if_pos hb] at h
            simp at h
    · rcases List.mem_cons.1 hy with he | hyr
      · have h1 := hz x hxr
        have h2 := hI x hx0 (hr x hx)
        rw [he] at h2
        omega
      · exact hir x hxr hx0 _ hyr rfl
theorem sortL_pair (xs : List Int) : (sortL xs).Pairwise (fun a b => (!(Go.Proofs.ltOf litC) b a) = true) := by
  unfold sortL
  refine List.pairwise_mergeSort (fun a b c h1 h2 => ?_) (fun a b => ?_) xs
  · simp only [Bool.not_eq_true'] at *
    exact ltC_swo.ntrans c b a h2 h1
  · cases hab : Go.Proofs.ltOf litC b a
    · simp
    · cases hba : Go.Proofs.ltOf litC a b
      · simp
      · have := ltC_swo.trans _ _ _ hab hba
        rw [ltC_swo.irrefl] at this
        cases this
theorem onceL_pair {l : Int} {xs : List Int} (hr : ∀ x ∈ xs, litB x = true) (hp : xs.Pairwise (fun a b => litI a ≤ litI b)) (hl : l = 0 ∨ (litB l = true ∧ ∀ x ∈ xs, litI l ≤ litI x)) : (onceL l xs).Pairwise (fun a b => litI a < litI b) ∧ (litB l = true → ∀ x ∈ onceL l xs, litI l < litI x) := by
  induction xs generalizing l with
  | nil => exact ⟨List.Pairwise.nil, fun _ x hx => by cases hx⟩
  | cons z r ih =>
    obtain ⟨hz, hpr⟩ := List.pairwise_cons.1 hp
    have hrz := hr z List.mem_cons_self
    have hrr : ∀ x ∈ r, litB x = true := fun x hx => hr x (List.mem_cons_of_mem _ hx)
    unfold onceL
    split
    · exact ih hrr hpr (hl.imp_right (fun h => ⟨h.1, fun x hx => h.2 x (List.mem_cons_of_mem _ hx)⟩))
    · rename_i hne
      obtain ⟨i1, i2⟩ := ih (l := z) hrr hpr (.inr ⟨hrz, hz⟩)
      refine ⟨List.pairwise_cons.2 ⟨fun x hx => i2 hrz x hx, i1⟩, fun hlb x hx => ?_⟩
      have hlz : litI l < litI z := by
        rcases hl with rfl | ⟨h1, h2⟩
        · cases hlb
        · have h3 := h2 z List.mem_cons_self
          have h4 : litI l ≠ litI z := fun e => hne (litI_inj h1 hrz e).symm
          omega
      rcases List.mem_cons.1 hx with rfl | hx
      · exact hlz
      · have := i2 hrz x hx
        omega
theorem normL_pair {xs : List Int} (hr : ∀ x ∈ xs, litB x = true) : (normL xs).Pairwise (fun a b => litI a < litI b) := by
  have hrs : ∀ x ∈ sortL xs, litB x = true := fun x hx => hr x (sortL_mem.1 hx)
  refine (onceL_pair hrs ?_ (.inl rfl)).1
  refine List.Pairwise.imp_of_mem (fun {a b} ha hb h => ?_) (sortL_pair xs)
  have h2 : ¬ Go.Proofs.ltOf litC b a = true := by simpa using h
  rw [ltC_iff] at h2
  simp only [hrs a ha, hrs b hb, true_and, not_or] at h2
  have := h2.2.1
  omega
/-- what is assumed has values -/
theorem asm_some {c : List Int} (hc : clauseB c = true) (ha : alwL c = false) : ∃ f, asgF (asmL c) = some f := by
  have hr : ∀ x ∈ c, litB x = true := fun x hx => by
    unfold clauseB at hc
    rw [Bool.and_eq_true] at hc
    exact List.all_eq_true.1 hc.2 x hx
  unfold alwL at ha
  rw [hc, Bool.true_and] at ha
  have hrn : ∀ x ∈ normL c, litB x = true := fun x hx => hr x (normL_mem hx)
  have hp := alw_pair hrn (normL_pair hr) ha
  have hneg : ∀ x ∈ asmL c, litB x = true ∧ -x ∈ normL c := fun x hx => by
    unfold asmL at hx
    obtain ⟨y, hy, rfl⟩ := List.mem_map.1 (sortL_mem.1 hx)
    have hb := hrn y hy
    have h1 := (litB_iff y).1 hb
    unfold litN
    rw [if_pos hb]
    exact ⟨(litB_iff _).2 (by omega), by rw [Int.neg_neg]; exact hy⟩
  unfold asgF
  refine asgGo_some _ (fun x hx => (hneg x hx).1) (fun x hx y hy e => ?_) (fun x hx => by unfold ofF; simp)
  have h1 := (hneg x hx).2
  have h2 := (hneg y hy).2
  rw [e, Int.neg_neg] at h2
  have h0 := (litB_iff x).1 (hneg x hx).1
  by_cases hx0 : 0 < x
  · exact hp x h2 hx0 (-x) h1 rfl
  · exact hp (-x) h1 (by omega) x h2 (by omega)
end Go.Proofs.YthhpffdbipgkcaaGreatDoor
namespace Go.Proofs.YthhpffdbipgkcaaGreatDoor
open Go.RowKit Go.Maps Go.Shelf

/-- the search: which clauses were taken, and their literals -/
def findGo (cs : List (List Int)) : Nat → (Int → Int) → List Int → List Int → Option (List Int × List Int)
  | 0, _, _, _ => none
  | m + 1, f, tk, us => if (nextF f cs).1 < 0 then none else if (nextF f cs).2 = 0 then some (tk ++ [(nextF f cs).1], us) else findGo cs m (putF f (nextF f cs).2) (tk ++ [(nextF f cs).1]) (us ++ [(nextF f cs).2])
/-- what Find returns: hints, and whether it found them -/
def findL (c : List Int) (cs : List (List Int)) : Option (List Int) :=
  if alwL c = true then some [] else match asgF (asmL c) with
    | none => none
    | some f => match findGo cs (cs.flatten.length + 1) f [] [] with
      | none => none
      | some (tk, us) => some ((needL (tk.map (fun i => cs.getD i.toNat [])) us).map (fun i => tk.getD i.toNat 0))
theorem next_unit {f : Int → Int} {cs : List (List Int)} (h0 : ¬ (nextF f cs).1 < 0) (h1 : (nextF f cs).2 ≠ 0) : (nextF f cs).2 ∈ cs.flatten ∧ ofF f (nextF f cs).2 = 0 := by
  rcases nextF_cases f cs with h | ⟨i, c, u, h, hc, hk | hk⟩
  · rw [h] at h0
    exact absurd (by decide) h0
  · rw [h] at h1
    exact absurd (lookGo_snd hk (by decide)) h1
  · rw [h]
    obtain ⟨h2, h3⟩ := lookF_unit hk
    exact ⟨List.mem_flatten.2 ⟨c, List.mem_of_getElem? hc, h2⟩, h3⟩
theorem next_fall {f : Int → Int} {cs : List (List Int)} (h0 : ¬ (nextF f cs).1 < 0) (h1 : (nextF f cs).2 ≠ 0) : freeN (putF f (nextF f cs).2) cs.flatten < freeN f cs.flatten :=
  freeN_lt f _ _ (next_unit h0 h1).1 (next_unit h0 h1).2
theorem next_idx {f : Int → Int} {cs : List (List Int)} (h0 : ¬ (nextF f cs).1 < 0) : ∃ i : Nat, (nextF f cs).1 = i ∧ i < cs.length := by
  rcases nextF_cases f cs with h | ⟨i, c, u, h, hc, _⟩
  · rw [h] at h0
    exact absurd (by decide) h0
  · exact ⟨i, by rw [h], (List.getElem?_eq_some_iff.1 hc).1⟩
theorem ints_fresh (W : World) (xs : List Int) (t : TypeId) : IntsIn (fun g => W.heap.size ≤ g) (W.alloc (.cells (xs.map (Value.int .i64)).toArray t)) (.slice (some ⟨W.heap.size, 0, none⟩) xs.length xs.length) xs :=
  ⟨some ⟨W.heap.size, 0, none⟩, xs.length, rfl, Nat.le_refl _, (fun h => by cases h), fun i x hi => ⟨W.heap.size, 0, rfl, by simp, Nat.le_refl _, by
    rw [mx_cell (World.alloc_heap_new _ _), Nat.zero_add]
    simp [hi]⟩⟩
/-- the rows of a search: which clauses were taken, these clauses, the literals; and what is assigned -/
structure FS (N mb : Nat) (w : World) (tv hv uv : Value) (tk us : List Int) (vs : List Value) (n : Nat) (f : Int → Int) : Prop where
  tk : w.ownsRow N 3 1 tv tk.length (tk.map (Value.int .i64))
  hs : w.ownsRow N 34 1 hv vs.length vs
  us : w.ownsRow N 45 1 uv us.length (us.map (Value.int .i64))
  map : MapAt w mb n f
  lt : mb < N
theorem FS.kept {O : Nat → Prop} {N mb n : Nat} {w w' : World} {tv hv uv : Value} {tk us : List Int} {vs : List Value} {f : Int → Int} (h : FS N mb w tv hv uv tk us vs n f) (k : Kept O w w') (hO : ∀ g, O g → w.heap.size ≤ g) : FS N mb w' tv hv uv tk us vs n f :=
  ⟨own_kept h.tk k (fun g hg ho => by have := (own_lt h.tk g hg).2; have := hO g ho; omega), own_kept h.hs k (fun g hg ho => by have := (own_lt h.hs g hg).2; have := hO g ho; omega), own_kept h.us k (fun g hg ho => by have := (own_lt h.us g hg).2; have := hO g ho; omega), h.map.kept k (fun ho => by have := h.map.lt; have := hO mb ho; omega), h.lt⟩
theorem FS.below {N mb n : Nat} {w w' : World} {tv hv uv : Value} {tk us : List Int} {vs : List Value} {f : Int → Int} (h : FS N mb w tv hv uv tk us vs n f) (k : Below w.heap.size w w') : FS N mb w' tv hv uv tk us vs n f :=
  h.kept (O := fun _ => False) (Kept.of_below k) (fun _ h => h.elim)
theorem FS.growT {N mb n : Nat} {w w' : World} {tv tv' hv uv : Value} {tk us : List Int} {vs : List Value} {f : Int → Int} {i : Int} (h : FS N mb w tv hv uv tk us vs n f) (hg : w.grownBy w' tv.ownBlock) (ho : w'.ownsRow N 3 1 tv' (tk.length + 1) (tk.map (Value.int .i64) ++ [.int .i64 i])) : FS N mb w' tv' hv uv (tk ++ [i]) us vs n f :=
  ⟨by simpa using ho, own_kept h.hs (Kept.grown hg) (fun g hg e => mx_apart h.hs h.tk (by decide) hg e.symm), own_kept h.us (Kept.grown hg) (fun g hg e => mx_apart h.us h.tk (by decide) hg e.symm), h.map.kept (Kept.grown hg) (fun e => by have := (own_lt h.tk _ e.symm).1; have := h.lt; omega), h.lt⟩
theorem FS.growH {N mb n : Nat} {w w' : World} {tv hv hv' uv : Value} {tk us : List Int} {vs : List Value} {f : Int → Int} {u : Value} (h : FS N mb w tv hv uv tk us vs n f) (hg : w.grownBy w' hv.ownBlock) (ho : w'.ownsRow N 34 1 hv' (vs.length + 1) (vs ++ [u])) : FS N mb w' tv hv' uv tk us (vs ++ [u]) n f :=
  ⟨own_kept h.tk (Kept.grown hg) (fun g hg e => mx_apart h.tk h.hs (by decide) hg e.symm), by simpa using ho, own_kept h.us (Kept.grown hg) (fun g hg e => mx_apart h.us h.hs (by decide) hg e.symm), h.map.kept (Kept.grown hg) (fun e => by have := (own_lt h.hs _ e.symm).1; have := h.lt; omega), h.lt⟩
theorem FS.growU {N mb n : Nat} {w w' : World} {tv hv uv uv' : Value} {tk us : List Int} {vs : List Value} {f : Int → Int} {x : Int} (h : FS N mb w tv hv uv tk us vs n f) (hg : w.grownBy w' uv.ownBlock) (ho : w'.ownsRow N 45 1 uv' (us.length + 1) (us.map (Value.int .i64) ++ [.int .i64 x])) : FS N mb w' tv hv uv' tk (us ++ [x]) vs n f :=
  ⟨own_kept h.tk (Kept.grown hg) (fun g hg e => mx_apart h.tk h.us (by decide) hg e.symm), own_kept h.hs (Kept.grown hg) (fun g hg e => mx_apart h.hs h.us (by decide) hg e.symm), by simpa using ho, h.map.kept (Kept.grown hg) (fun e => by have := (own_lt h.us _ e.symm).1; have := h.lt; omega), h.lt⟩
theorem FS.put {N mb n n' : Nat} {w w' : World} {tv hv uv : Value} {tk us : List Int} {vs : List Value} {f f' : Int → Int} (h : FS N mb w tv hv uv tk us vs n f) (k : Kept (fun g => g = mb) w w') (hm : MapAt w' mb n' f') : FS N mb w' tv hv uv tk us vs n' f' :=
  ⟨own_kept h.tk k (fun g hg e => by have := (own_lt h.tk g hg).1; have := h.lt; omega), own_kept h.hs k (fun g hg e => by have := (own_lt h.hs g hg).1; have := h.lt; omega), own_kept h.us k (fun g hg e => by have := (own_lt h.us g hg).1; have := h.lt; omega), hm, h.lt⟩
theorem one_at {w : World} {p : Nat} {u : Value} (h : w.cell? ⟨p, 0, none⟩ = some u) : ∀ j v, [u][j]? = some v → w.cell? ((⟨p, 0, none⟩ : Addr).add j) = some v := by
  intro j v hj
  cases j with
  | zero =>
    simp only [List.getElem?_cons_zero, Option.some.injEq] at hj
    subst hj
    rw [addr_add]
    exact h
  | succ j => simp at hj
/-- the values of the clauses that were taken -/
def VsOk (N : Nat) (w : World) (hs : List (List Int)) (vs : List Value) : Prop := vs.length = hs.length ∧ ∀ (i : Nat) (xs : List Int), hs[i]? = some xs → ∃ u, vs[i]? = some u ∧ IntsIn (fun g => g < N) w u xs
theorem VsOk.push {N : Nat} {w : World} {hs : List (List Int)} {vs : List Value} {u : Value} {xs : List Int} (h : VsOk N w hs vs) (hu : IntsIn (fun g => g < N) w u xs) : VsOk N w (hs ++ [xs]) (vs ++ [u]) := by
  refine ⟨by simp [h.1], fun i ys hi => ?_⟩
  by_cases hlt : i < hs.length
  · rw [List.getElem?_append_left hlt] at hi
    obtain ⟨u', h1, h2⟩ := h.2 i ys hi
    exact ⟨u', by rw [List.getElem?_append_left (by rw [h.1]; exact hlt)]; exact h1, h2⟩
  · have hl := (List.getElem?_eq_some_iff.1 hi).1
    rw [List.length_append, List.length_singleton] at hl
    obtain rfl : i = hs.length := by omega
    rw [List.getElem?_append_right (Nat.le_refl _), Nat.sub_self, List.getElem?_cons_zero] at hi
    obtain rfl := Option.some.inj hi
    exact ⟨u, by rw [List.getElem?_append_right (by rw [h.1]; exact Nat.le_refl _), h.1, Nat.sub_self, List.getElem?_cons_zero], hu⟩
theorem FS.cls {N N0 mb n : Nat} {w5 w : World} {tv hv uv : Value} {tk us : List Int} {vs : List Value} {f : Int → Int} {hs : List (List Int)} (h : FS N mb w tv hv uv tk us vs n f) (hv' : VsOk N0 w5 hs vs) (hb : Below N0 w5 w) : ClsIn (fun _ => True) w hv hs := by
  have h1 := h.hs
  rw [hv'.1] at h1
  rcases h1.2 with ⟨rfl, h0⟩ | ⟨g, cap, cur, rfl, _, hg, hle, _⟩
  · exact ⟨none, 0, by rw [h0], by omega, fun _ => rfl, fun i xs hi => by
      have := (List.getElem?_eq_some_iff.1 hi).1
      omega⟩
  · refine ⟨_, cap, rfl, hle, (fun h => by cases h), fun i xs hi => ?_⟩
    obtain ⟨u, hu, ho⟩ := hv'.2 i xs hi
    exact ⟨g, 0, u, rfl, heap_lt hg, trivial, by rw [Nat.zero_add]; exact mx_at h1 hu, (ho.kept (O' := fun g => N0 ≤ g) ⟨hb.os, hb.tape, hb.output, hb.size, fun g _ hn => hb.block g (by omega)⟩ (fun g hg h => by omega)).mono (fun _ _ => trivial)⟩
def lenV : Value → Nat
  | .slice _ n _ => n
  | _ => 0
/-- what Find makes of the search -/
def findEnd (cs : List (List Int)) : Option (List Int × List Int) → Option (List Int)
  | none => none
  | some (tk, us) => some ((needL (tk.map (fun i => cs.getD i.toNat [])) us).map (fun i => tk.getD i.toNat 0))
theorem needGo_lt {hs : List (List Int)} {us : List Int} {k : Nat} {f : Int → Int} {out : List Int} (hk : k ≤ hs.length) (ho : ∀ z ∈ out, ∃ j : Nat, z = j ∧ j < hs.length) : ∀ z ∈ needGo hs us k f out, ∃ j : Nat, z = j ∧ j < hs.length := by
  induction k generalizing f out with
  | zero => exact ho
  | succ k ih =>
    simp only [needGo]
    split
    · exact ih (by omega) ho
    · refine ih (by omega) (fun z hz => ?_)
      rcases List.mem_append.1 hz with h | h
      · exact ho z h
      · exact ⟨k, List.mem_singleton.1 h, by omega⟩
theorem needL_lt {hs : List (List Int)} {us : List Int} : ∀ z ∈ needL hs us, ∃ j : Nat, z = j ∧ j < hs.length := fun z hz => needGo_lt (Nat.le_refl _) (fun z h => by cases h) z (List.mem_reverse.1 hz)
theorem needGo_len {hs : List (List Int)} {us : List Int} {k : Nat} {f : Int → Int} {out : List Int} : (needGo hs us k f out).length ≤ out.length + k := by
  induction k generalizing f out with
  | zero => simp [needGo]
  | succ k ih =>
    simp only [needGo]
    split
    · have := ih (f := f) (out := out)
      omega
    · have := ih (f := needM f (hs.getD k [])) (out := out ++ [(k : Int)])
      rw [List.length_append, List.length_singleton] at this
      omega
theorem needL_len {hs : List (List Int)} {us : List Int} : (needL hs us).length ≤ hs.length := by
  unfold needL
  rw [List.length_reverse]
  have := needGo_len (hs := hs) (us := us) (k := hs.length) (f := fun _ => 0) (out := [])
  simpa using this
theorem flat_len {cs : List (List Int)} {m : Nat} (h : ∀ xs ∈ cs, xs.length ≤ m) : cs.flatten.length ≤ cs.length * m := by
  induction cs with
  | nil => simp
  | cons c r ih =>
    rw [List.flatten_cons, List.length_append, List.length_cons, Nat.succ_mul]
    have h1 := h c List.mem_cons_self
    have h2 := ih (fun xs hx => h xs (List.mem_cons_of_mem _ hx))
    omega
theorem clause_wf {cs : List (List Int)} {X : Int} (h : ∀ xs ∈ cs, clauseB xs = true) (hX : X ∈ cs.flatten) : (Lit.int .i64 X).wf = true := by
  obtain ⟨c, hc, hx⟩ := List.mem_flatten.1 hX
  have h1 := h c hc
  unfold clauseB at h1
  rw [Bool.and_eq_true] at h1
  have h2 := (litB_iff X).1 (List.all_eq_true.1 h1.2 X hx)
  exact wf64 (by omega) (by omega)
theorem getD_mem {cs : List (List Int)} {j : Nat} (h : j < cs.length) : cs.getD j [] ∈ cs := by
  rw [List.getD_eq_getElem?_getD, List.getElem?_eq_getElem h]
  exact List.getElem_mem h
theorem freeN_len (f : Int → Int) (ls : List Int) : freeN f ls ≤ ls.length := List.length_filter_le _ _
def FindOut (w w' : World) (e : Ending) : Option (List Int) → Prop
  | some hs => ∃ v, e = .returned (.tuple #[v, .bool true, .int .i64 0]) ∧ w'.ownsRow w.heap.size 3 1 v hs.length (hs.map (Value.int .i64))
  | none => e = .returned (.tuple #[.slice none 0 0, .bool false, .int .i64 0])
theorem res_find {fn : Func} (h : fn.results = #[.tmp 4, .tmp 5, .tmp 6]) (tmps : Array Value) (w : World) : (results fn tmps).run Tryz.prog w = .ok (.tuple #[tmps.getD 4 undef, tmps.getD 5 undef, tmps.getD 6 undef]) w := by
  simp [results, h]
theorem wrong_zero {cs : List (List Int)} (h : ∀ xs ∈ cs, clauseB xs = true) : wrongE cs = 0 := by
  unfold wrongE
  rw [if_pos (List.all_eq_true.2 h)]
set_option maxRecDepth 100000 in
set_option maxHeartbeats 4000000 in
theorem rup_find {O : Nat → Prop} (cv lv : Value) (c : List Int) (cs : List (List Int)) (w : World) (hc : IntsIn O w cv c) (hl : ClsIn O w lv cs) (hcl : clauseB c = true) (hcs : ∀ xs ∈ cs, clauseB xs = true) (hn : cs.length ≤ 65536) (hfl : cs.flatten.length < 1000000) :
    Calls Tryz.prog 8 #[cv, lv] w fun e w' => FindOut w w' e (findL c cs) ∧ Below w.heap.size w w' := by
  have hlc : ∀ xs : List Int, clauseB xs = true → xs.length ≤ 4096 := fun xs h => by
    unfold clauseB at h
    rw [Bool.and_eq_true, decide_eq_true_eq] at h
    exact h.1
  obtain ⟨W1, hW1⟩ : ∃ x, w.alloc (.cells #[cv] 34) = x := ⟨_, rfl⟩
  have hb1 : Below w.heap.size w W1 := by rw [← hW1]; exact mx_al _ _
  have hc1 : W1.cell? ⟨w.heap.size, 0, none⟩ = some cv := by rw [← hW1]; exact mx_cell (j := 0) (World.alloc_heap_new _ _)
  have hall : ∀ xs ∈ cs ++ [c], clauseB xs = true := fun xs hx => by
    rcases List.mem_append.1 hx with h | h
    · exact hcs xs h
    · rw [List.mem_singleton.1 h]; exact hcl
  have hwr := rup_wrong lv cv w.heap.size cs c W1 (hl.below hb1) hc1 (hc.below hb1) (by omega) (fun xs hx => by have := hlc xs (hall xs hx); omega)
  rw [wrong_zero hall] at hwr
  have HWR := Lib.hid hwr
  have HC := Lib.hid hc.lt
  have HL := Lib.hid hl.lt
  have HCS := Lib.hid hcs
  have HCL := Lib.hid hcl
  have HLC := Lib.hid hlc
  have HW1 := Lib.hid hW1
  have HB1 := Lib.hid hb1
  obtain ⟨Ac, cc, rfl, _⟩ := hc
  obtain ⟨Al, cl, rfl, _⟩ := hl
  obtain ⟨res, hres⟩ : ∃ r, findL c cs = r := ⟨_, rfl⟩
  have HRS := Lib.hid hres
  rw [hres]
  clear hW1 hb1 hc1 hwr hall hcs hcl hlc hres
  go_enter Tryz.func8, Tryz.ntmps8
  go_wp2_with fail
  rw [HW1.out]
  refine HWR.out.mono ?_
  rintro e W2 ⟨rfl, hb2⟩
  have HB2 := Lib.hid (HB1.out.trans (hb2.mono HB1.out.size))
  have HMA := Lib.hid (rup_many Al cs.length cl W2)
  rw [if_neg (by omega)] at HMA
  clear hb2
  go_wp2_with fail
  refine HMA.out.mono ?_
  rintro e w' ⟨rfl, rfl⟩
  go_wp2_with fail
  have hbF := mx_al W2 (.cells #[.int .i64 0, .int .i64 0] 30)
  have HFI := Lib.hid (rup_first _ [0, 0] _ (ints_fresh W2 [0, 0] 30) (by decide))
  obtain ⟨W3, hW3⟩ : ∃ x, W2.alloc (.cells #[.int .i64 0, .int .i64 0] 30) = x := ⟨_, rfl⟩
  have hfi := HFI.out
  simp only [List.map_cons, List.map_nil, List.length_cons, List.length_nil] at hfi
  rw [hW3] at hfi hbF ⊢
  have HFI := Lib.hid hfi
  have HB3 := Lib.hid (HB2.out.trans (hbF.mono HB2.out.size))
  clear hW3 hbF hfi
  refine HFI.out.mono ?_
  rintro e w' ⟨rfl, rfl⟩
  have HAS := rup_assume _ c W3 (HC.out.below HB3.out) (by have := HLC.out c HCL.out; omega)
  unfold AsmOut at HAS
  simp only [HCL.out, if_true] at HAS
  have hf0 : firstE [0, 0] = 0 := by decide
  rw [hf0]
  obtain ⟨al, hal⟩ : ∃ q, alwL c = q := ⟨_, rfl⟩
  rw [hal] at HAS
  cases al with
  | true =>
    simp only [if_true] at HAS
    have HAS := Lib.hid HAS
    have HR0 := Lib.hid (show some [] = res from by
      rw [← HRS.out]
      unfold findL
      rw [if_pos hal])
    clear hal hf0
    go_wp2_with fail
    refine HAS.out.mono ?_
    rintro e w4 ⟨rfl, hb⟩
    have HB4 := Lib.hid (HB3.out.trans (hb.mono HB3.out.size))
    clear hb
    go_wp2_with fail
    refine bodyPost_ret (res_find rfl _ _) rfl ?_
    rw [← HR0.out]
    exact ⟨⟨_, rfl, World.ownsRow_nil _ _ _ _⟩, HB4.out⟩
  | false =>
    simp only [Bool.false_eq_true, if_false] at HAS
    have HAS := Lib.hid HAS
    obtain ⟨f0, hf⟩ := asm_some HCL.out hal
    have hrs := HRS.out
    unfold findL at hrs
    rw [hal, hf] at hrs
    simp only [Bool.false_eq_true, if_false] at hrs
    have HR1 := Lib.hid hrs
    have HF0 := Lib.hid hf
    have hasl : (asmL c).length ≤ 4096 := by
      have h1 := HLC.out c HCL.out
      have h2 := normL_len c
      unfold asmL
      rw [sortL_length, List.length_map]
      omega
    clear hal hf hf0 hrs
    go_wp2_with fail
    refine HAS.out.mono ?_
    rintro e w4 ⟨⟨v, rfl, hr⟩, hb⟩
    have HB4 := Lib.hid (HB3.out.trans (hb.mono HB3.out.size))
    have hasg := rup_assigned v (asmL c) w4 (IntsIn.of_own hr) (by omega)
    rw [HF0.out] at hasg
    have HASG := Lib.hid hasg
    obtain ⟨Av, cv, rfl, _⟩ := mx_slice hr
    clear hb hr hasg
    go_wp2_with fail
    refine HASG.out.mono ?_
    rintro e w5 ⟨⟨mb, n0, rfl, hmb, hn0, hm5, hok5⟩, hb5⟩
    have HB5 := Lib.hid (HB4.out.trans (hb5.mono HB4.out.size))
    have HM5 := Lib.hid hm5
    have HOK5 := Lib.hid hok5
    clear hb5 hm5 hok5
    obtain ⟨N, hN⟩ : ∃ x, w5.heap.size = x := ⟨_, rfl⟩
    obtain ⟨M, hM⟩ : ∃ x, cs.flatten.length + 1 = x := ⟨_, rfl⟩
    have hMb : M ≤ 1000000 := by omega
    have HE := Lib.hid (show findEnd cs (findGo cs M f0 [] []) = res from by
      rw [← HR1.out, hM]
      rfl)
    have HFM := Lib.hid (show freeN f0 cs.flatten < M from by
      have := freeN_len f0 cs.flatten
      omega)
    have HMB := Lib.hid (Nat.le_trans HB4.out.size hmb)
    have hmbN : mb < N := by rw [← hN]; exact HM5.out.lt
    have HFS := Lib.hid (show FS N mb w5 (.slice none 0 0) (.slice none 0 0) (.slice none 0 0) [] [] [] n0 f0 from ⟨World.ownsRow_nil _ _ _ _, World.ownsRow_nil _ _ _ _, World.ownsRow_nil _ _ _ _, HM5.out, hmbN⟩)
    have HVS := Lib.hid (show VsOk w.heap.size w5 ([] : List (List Int)) [] from ⟨rfl, fun i xs h => by simp at h⟩)
    have HWN := Lib.hid (show w.heap.size ≤ N from by rw [← hN]; exact HB5.out.size)
    have HNE := Lib.hid hN
    clear hN hM
    go_wp2_with fail
    go_loopw [13, 14, 15] (fun tv hv uv wr => ∃ (tk us : List Int) (vs : List Value) (f : Int → Int) (m n : Nat), Hid (FS N mb wr tv hv uv tk us vs n f) ∧ Hid (Below w.heap.size w5 wr) ∧ Hid (findEnd cs (findGo cs m f tk us) = res) ∧ Hid (okF f) ∧ Hid (freeN f cs.flatten < m) ∧ Hid (VsOk w.heap.size w5 (tk.map (fun i => cs.getD i.toNat [])) vs) ∧ Hid (m + tk.length = M) ∧ Hid (us.length = tk.length) ∧ Hid (n ≤ n0 + 2 * tk.length) ∧ Hid (∀ z ∈ tk, ∃ j : Nat, z = j ∧ j < cs.length) ∧ Hid (∀ x ∈ us, (Lit.int .i64 x).wf = true)) (fun tv _ _ _ => M - lenV tv)
    case atStart => exact ⟨[], [], [], f0, M, n0, HFS, Lib.hid (Below.refl _ _), HE, HOK5, HFM, HVS, Lib.hid rfl, Lib.hid rfl, Lib.hid (Nat.le_refl _), Lib.hid (fun z h => by cases h), Lib.hid (fun z h => by cases h)⟩
    case round =>
      obtain ⟨tk, us, vs, f, m1, n, HF, HB, HG, HOK, HFR, HV, HMT, HUL, HNB, HTL, HUW⟩ := hrel
      obtain ⟨At, ct, rfl, _⟩ := mx_slice HF.out.tk
      obtain ⟨Ah, ch, rfl, _⟩ := mx_slice HF.out.hs
      obtain ⟨Au, cu, rfl, _⟩ := mx_slice HF.out.us
      obtain ⟨m, rfl⟩ : ∃ m, m1 = m + 1 := ⟨m1 - 1, by have := HFR.out; omega⟩
      have htl : tk.length + 1 ≤ 1000000 := by have := HMT.out; omega
      have HVL := Lib.hid (show vs.length = tk.length from by have := HV.out.1; rwa [List.length_map] at this)
      have hvb : vs.length + 1 ≤ 1000000 := by have := HVL.out; omega
      have hnn : n ≤ 1000000000 := by
        have h1 := HNB.out
        have h2 := hn0
        omega
      have HN := Lib.hid (show N ≤ wr.heap.size from by rw [← HNE.out]; exact HB.out.size)
      have HBW := Lib.hid (show Below w.heap.size w wr from HB5.out.trans HB.out)
      have hnx := rup_next mb n f _ cs wr (HL.out.below HBW.out) HF.out.map HOK.out (by omega) (fun xs hx => by have := HLC.out xs (HCS.out xs hx); omega)
      have hgo := HG.out
      simp only [findGo] at hgo
      obtain ⟨I, hI⟩ : ∃ z, (nextF f cs).1 = z := ⟨_, rfl⟩
      obtain ⟨X, hX⟩ : ∃ z, (nextF f cs).2 = z := ⟨_, rfl⟩
      by_cases hneg : I < 0
      · rw [hI, if_pos hneg] at hgo
        rw [hI, hX] at hnx
        have HNX := Lib.hid hnx
        have HGO := Lib.hid (show none = res from hgo)
        have q0 : decide (I < 0) = true := by simpa using hneg
        clear hgo hneg hI hX hnx
        go_wp2_with fail
        refine HNX.out.mono ?_
        rintro e W6 ⟨rfl, hb6⟩
        have HB6 := Lib.hid (HBW.out.trans (hb6.mono HBW.out.size))
        clear hb6
        go_wp2_with fail
        refine bodyPost_ret (res_find rfl _ _) rfl ?_
        rw [← HGO.out]
        exact ⟨rfl, HB6.out⟩
      · obtain ⟨i, hiI, hil⟩ := next_idx (f := f) (cs := cs) (by rw [hI]; exact hneg)
        rw [hI] at hiI
        subst hiI
        rw [hI, if_neg hneg, hX] at hgo
        rw [hI, hX] at hnx
        have HNU := Lib.hid (fun (h : X ≠ 0) => next_unit (f := f) (cs := cs) (by rw [hI]; exact hneg) (by rw [hX]; exact h))
        have HNF := Lib.hid (fun (h : X ≠ 0) => next_fall (f := f) (cs := cs) (by rw [hI]; exact hneg) (by rw [hX]; exact h))
        rw [hX] at HNU HNF
        have HNX := Lib.hid hnx
        have q0 : decide ((i : Int) < 0) = false := by simp
        obtain ⟨xs, hxk⟩ := getElem_of hil
        have HXS := Lib.hid (show cs.getD i [] = xs from by rw [List.getD_eq_getElem?_getD, hxk]; rfl)
        obtain ⟨A', c', hAc, _, _, hxs⟩ := HL.out
        simp only [Value.slice.injEq, true_and] at hAc
        obtain ⟨rfl, rfl⟩ := hAc
        obtain ⟨g, o, hvx, rfl, hg, ⟨_, hgw⟩, d0, hin⟩ := hxs i xs hxk
        have HIN := Lib.hid ((hin.mono (O' := fun g => g < w.heap.size) (fun g hg => hg.2)).below HB5.out)
        obtain ⟨Ax, cx, rfl, _⟩ := hin
        have HGO := Lib.hid hgo
        have HC0 := Lib.hid d0
        clear hgo hI hX hxk hxs d0 hneg hnx
        go_wp2_with fail
        refine HNX.out.mono ?_
        rintro e W6 ⟨rfl, hb6⟩
        have HF6 := Lib.hid (HF.out.below hb6)
        have HB6 := Lib.hid (HB.out.trans (hb6.mono (Nat.le_trans HWN.out HN.out)))
        clear HF HB
        have HF := HF6
        have HB := HB6
        have HN6 := Lib.hid (show N ≤ W6.heap.size from by rw [← HNE.out]; exact HB.out.size)
        clear HN HF6 HB6 hb6
        have HN := HN6
        clear HN6
        obtain ⟨wz, hwz⟩ : ∃ z, z = wr := ⟨_, rfl⟩
        rw [← hwz] at HBW
        clear hwz HNX
        clear wr
        obtain ⟨wr, hwr⟩ : ∃ z, z = W6 := ⟨_, rfl⟩
        rw [← hwr] at HF HB HN ⊢
        clear hwr
        have HGN := Lib.hid (Nat.lt_of_lt_of_le hgw HWN.out)
        have d1 : wr.cell? ⟨g, o + i, none⟩ = some (.slice Ax xs.length cx) := (HB.out.cell (p := ⟨g, o + i, none⟩) hgw).trans ((HB5.out.cell (p := ⟨g, o + i, none⟩) hgw).trans HC0.out)
        have HTB := Lib.hid (show ∀ b, (Value.slice At tk.length ct).ownBlock = some b → b < wr.heap.size from fun b hb => (own_lt HF.out.tk b hb).2)
        clear HC0 hg
        obtain ⟨i0, hi, hz0, hz1, hz2⟩ := info_parts cinfo_int
        obtain ⟨ic, hic, hc0, hc1, hc2⟩ := info_parts info_cls
        go_upto_region 14 with fail
        go_cut [13, 14] (fun tv2 hv2 wx => Hid (FS N mb wx tv2 hv2 (.slice Au us.length cu) (tk ++ [(i : Int)]) us (vs ++ [.slice Ax xs.length cx]) n f) ∧ Hid (Below N wr wx))
        case first =>
          obtain ⟨x0, hx0⟩ : ∃ x, wr.drew = x := ⟨_, rfl⟩
          have hS0 := (mx_drew wr).mono HN.out
          have hF0 := HF.out.below (mx_drew wr)
          rw [hx0] at hS0 hF0
          refine wp_region_held_drew (S := fun w' => Below N wr w') (by kernel_rfl) (by rw [hx0]; exact hS0) (fun hS => ?_)
          rw [hx0] at hS ⊢
          clear hS0 hx0
          have HF := Lib.hid hF0
          clear hF0
          refine takeE 0 52 ?_
          refine takeE 1 53 ?_
          refine takeE 4 56 ?_
          refine takeE 5 57 ?_
          refine takeE 6 58 ?_
          refine takeE 7 59 ?_
          refine takeF 8 60 (fun wq hSw => (hSw.cell (p := ⟨g, o + i, none⟩) HGN.out).trans d1) ?_
          refine wpAnyH_ready (rs := [2, 9]) (by kernel_rfl) (by simp) ?_
          refine AllReadyH.cons rfl (fun K hK => ?_) (AllReadyH.cons rfl (fun K hK => ?_) AllReadyH.nil)
          · go_simp
            obtain ⟨x1, hwn⟩ : ∃ z, x0.alloc (.cells #[.int .i64 (i : Int)] 3) = z := ⟨_, rfl⟩
            have hbn : Below x0.heap.size x0 x1 := by rw [← hwn]; exact mx_al _ _
            have HT := Lib.hid (show x1.cell? ⟨x0.heap.size, 0, none⟩ = some (.int .i64 (i : Int)) from by rw [← hwn]; exact mx_cell (j := 0) (World.alloc_heap_new _ _))
            rw [hwn]
            have HFZ := Lib.hid (HF.out.below hbn)
            clear HF
            have HF := HFZ
            clear HFZ
            have hSN := hS.trans (hbn.mono (Nat.le_trans HN.out hS.size))
            clear hbn hwn
            refine hK.out _ _ hSN (fun _ => ?_)
            clear hK hS
            have hS := hSN
            clear hSN
            refine wpAnyH_ready (rs := [3, 9]) (by kernel_rfl) (by simp) ?_
            refine AllReadyH.cons rfl (fun K hK => ?_) (AllReadyH.cons rfl (fun K hK => ?_) AllReadyH.nil)
            · rw [if_pos (by rfl)]
              refine wp_append_at 55 (by rfl) _ _ 36 rfl N 3 i0 (.int .i64 0) 1 8 Tryz.underlying36 hi hz0 hz1 hz2 rfl (by decide) _ tk.length _ (by rfl) HF.out.tk ⟨x0.heap.size, 0, none⟩ 1 1 [.int .i64 (i : Int)] (by rfl) rfl (one_at HT.out) (by simp [Value.oneCell']) (by unfold maxLen; omega) (by omega) (Nat.le_trans HN.out hS.size) ?_
              intro v' x2 hown hgrow hat
              have hSN := hS.grown hgrow (Nat.le_trans HN.out hS.size) (fun g hg => (own_lt HF.out.tk g hg).1)
              have HFZ := Lib.hid (HF.out.growT hgrow hown)
              clear HF
              have HF := HFZ
              clear HFZ
              clear hown hgrow hat
              refine hK.out _ _ hSN (fun _ => ?_)
              clear hK hS
              have hS := hSN
              clear hSN
              refine wpAnyH_ready (rs := [9]) (by kernel_rfl) (by simp) ?_
              refine AllReadyH.cons rfl (fun K hK => ?_) AllReadyH.nil
              go_simp
              obtain ⟨x3, hwn⟩ : ∃ z, x2.alloc (.cells #[.slice Ax xs.length cx] 34) = z := ⟨_, rfl⟩
              have hbn : Below x2.heap.size x2 x3 := by rw [← hwn]; exact mx_al _ _
              have HC := Lib.hid (show x3.cell? ⟨x2.heap.size, 0, none⟩ = some (.slice Ax xs.length cx) from by rw [← hwn]; exact mx_cell (j := 0) (World.alloc_heap_new _ _))
              rw [hwn]
              have HFZ := Lib.hid (HF.out.below hbn)
              clear HF
              have HF := HFZ
              clear HFZ
              have hSN := hS.trans (hbn.mono (Nat.le_trans HN.out hS.size))
              clear hbn hwn
              refine hK.out _ _ hSN (fun _ => ?_)
              clear hK hS
              have hS := hSN
              clear hSN
              refine wpAnyH_ready (rs := [10]) (by kernel_rfl) (by simp) ?_
              refine AllReadyH.cons rfl (fun K hK => ?_) AllReadyH.nil
              rw [if_pos (by rfl)]
              refine wp_append_at 62 (by rfl) _ _ 25 rfl N 34 ic (.slice none 0 0) 1 24 Tryz.underlying25 hic hc0 hc1 hc2 rfl (by decide) _ vs.length _ (by rfl) HF.out.hs ⟨x2.heap.size, 0, none⟩ 1 1 [.slice Ax xs.length cx] (by rfl) rfl (one_at HC.out) (by simp [Value.oneCell']) (by unfold maxLen; omega) (by omega) (Nat.le_trans HN.out hS.size) ?_
              intro v'' x4 hown hgrow hat
              have hSN := hS.grown hgrow (Nat.le_trans HN.out hS.size) (fun g hg => (own_lt HF.out.hs g hg).1)
              have HFZ := Lib.hid (HF.out.growH hgrow hown)
              clear HF
              have HF := HFZ
              clear HFZ
              clear hown hgrow hat
              refine hK.out _ _ hSN (fun _ => ?_)
              clear hK hS
              have hS := hSN
              clear hSN
              refine takeE 11 13 ?_
              refine takeE 12 14 ?_
              refine wpAnyH_done (by kernel_rfl) ?_ _
              go_wp2_with fail
              go_meet
              exact ⟨HF, Lib.hid hS⟩
            · have HC0 := Lib.hid (show wr.heap.size ≤ x1.heap.size from hS.size)
              go_simp
              obtain ⟨x2, hwn⟩ : ∃ z, x1.alloc (.cells #[.slice Ax xs.length cx] 34) = z := ⟨_, rfl⟩
              have hbn : Below x1.heap.size x1 x2 := by rw [← hwn]; exact mx_al _ _
              have HC := Lib.hid (show x2.cell? ⟨x1.heap.size, 0, none⟩ = some (.slice Ax xs.length cx) from by rw [← hwn]; exact mx_cell (j := 0) (World.alloc_heap_new _ _))
              rw [hwn]
              have HFZ := Lib.hid (HF.out.below hbn)
              clear HF
              have HF := HFZ
              clear HFZ
              have HTZ := Lib.hid ((hbn.cell (p := ⟨_, 0, none⟩) (World.block_lt_of_cell? x1 _ HT.out)).trans HT.out)
              clear HT
              have HT := HTZ
              clear HTZ
              have hSN := hS.trans (hbn.mono (Nat.le_trans HN.out hS.size))
              clear hbn hwn
              refine hK.out _ _ hSN (fun _ => ?_)
              clear hK hS
              have hS := hSN
              clear hSN
              refine wpAnyH_ready (rs := [3]) (by kernel_rfl) (by simp) ?_
              refine AllReadyH.cons rfl (fun K hK => ?_) AllReadyH.nil
              rw [if_pos (by rfl)]
              refine wp_append_at 55 (by rfl) _ _ 36 rfl N 3 i0 (.int .i64 0) 1 8 Tryz.underlying36 hi hz0 hz1 hz2 rfl (by decide) _ tk.length _ (by rfl) HF.out.tk ⟨x0.heap.size, 0, none⟩ 1 1 [.int .i64 (i : Int)] (by rfl) rfl (one_at HT.out) (by simp [Value.oneCell']) (by unfold maxLen; omega) (by omega) (Nat.le_trans HN.out hS.size) ?_
              intro v' x3 hown hgrow hat
              have hSN := hS.grown hgrow (Nat.le_trans HN.out hS.size) (fun g hg => (own_lt HF.out.tk g hg).1)
              have HCN := Lib.hid (((Kept.grown hgrow).cell (p := ⟨_, 0, none⟩) (World.block_lt_of_cell? x2 _ HC.out) (fun e => by
                have h1 : x1.heap.size < wr.heap.size := HTB.out _ e.symm
                have h2 := HC0.out
                omega)).trans HC.out)
              clear HC
              have HC := HCN
              clear HCN
              have HFZ := Lib.hid (HF.out.growT hgrow hown)
              clear HF
              have HF := HFZ
              clear HFZ
              clear hown hgrow hat
              refine hK.out _ _ hSN (fun _ => ?_)
              clear hK hS
              have hS := hSN
              clear hSN
              refine wpAnyH_ready (rs := [10]) (by kernel_rfl) (by simp) ?_
              refine AllReadyH.cons rfl (fun K hK => ?_) AllReadyH.nil
              rw [if_pos (by rfl)]
              refine wp_append_at 62 (by rfl) _ _ 25 rfl N 34 ic (.slice none 0 0) 1 24 Tryz.underlying25 hic hc0 hc1 hc2 rfl (by decide) _ vs.length _ (by rfl) HF.out.hs ⟨x1.heap.size, 0, none⟩ 1 1 [.slice Ax xs.length cx] (by rfl) rfl (one_at HC.out) (by simp [Value.oneCell']) (by unfold maxLen; omega) (by omega) (Nat.le_trans HN.out hS.size) ?_
              intro v'' x4 hown hgrow hat
              have hSN := hS.grown hgrow (Nat.le_trans HN.out hS.size) (fun g hg => (own_lt HF.out.hs g hg).1)
              have HFZ := Lib.hid (HF.out.growH hgrow hown)
              clear HF
              have HF := HFZ
              clear HFZ
              clear hown hgrow hat
              refine hK.out _ _ hSN (fun _ => ?_)
              clear hK hS
              have hS := hSN
              clear hSN
              refine takeE 11 13 ?_
              refine takeE 12 14 ?_
              refine wpAnyH_done (by kernel_rfl) ?_ _
              go_wp2_with fail
              go_meet
              exact ⟨HF, Lib.hid hS⟩
          · have HC0 := Lib.hid (show wr.heap.size ≤ x0.heap.size from hS.size)
            go_simp
            obtain ⟨x1, hwn⟩ : ∃ z, x0.alloc (.cells #[.slice Ax xs.length cx] 34) = z := ⟨_, rfl⟩
            have hbn : Below x0.heap.size x0 x1 := by rw [← hwn]; exact mx_al _ _
            have HC := Lib.hid (show x1.cell? ⟨x0.heap.size, 0, none⟩ = some (.slice Ax xs.length cx) from by rw [← hwn]; exact mx_cell (j := 0) (World.alloc_heap_new _ _))
            rw [hwn]
            have HFZ := Lib.hid (HF.out.below hbn)
            clear HF
            have HF := HFZ
            clear HFZ
            have hSN := hS.trans (hbn.mono (Nat.le_trans HN.out hS.size))
            clear hbn hwn
            refine hK.out _ _ hSN (fun _ => ?_)
            clear hK hS
            have hS := hSN
            clear hSN
            refine wpAnyH_ready (rs := [2]) (by kernel_rfl) (by simp) ?_
            refine AllReadyH.cons rfl (fun K hK => ?_) AllReadyH.nil
            go_simp
            obtain ⟨x2, hwn⟩ : ∃ z, x1.alloc (.cells #[.int .i64 (i : Int)] 3) = z := ⟨_, rfl⟩
            have hbn : Below x1.heap.size x1 x2 := by rw [← hwn]; exact mx_al _ _
            have HT := Lib.hid (show x2.cell? ⟨x1.heap.size, 0, none⟩ = some (.int .i64 (i : Int)) from by rw [← hwn]; exact mx_cell (j := 0) (World.alloc_heap_new _ _))
            rw [hwn]
            have HFZ := Lib.hid (HF.out.below hbn)
            clear HF
            have HF := HFZ
            clear HFZ
            have HCZ := Lib.hid ((hbn.cell (p := ⟨_, 0, none⟩) (World.block_lt_of_cell? x1 _ HC.out)).trans HC.out)
            clear HC
            have HC := HCZ
            clear HCZ
            have hSN := hS.trans (hbn.mono (Nat.le_trans HN.out hS.size))
            clear hbn hwn
            refine hK.out _ _ hSN (fun _ => ?_)
            clear hK hS
            have hS := hSN
            clear hSN
            refine wpAnyH_ready (rs := [3]) (by kernel_rfl) (by simp) ?_
            refine AllReadyH.cons rfl (fun K hK => ?_) AllReadyH.nil
            rw [if_pos (by rfl)]
            refine wp_append_at 55 (by rfl) _ _ 36 rfl N 3 i0 (.int .i64 0) 1 8 Tryz.underlying36 hi hz0 hz1 hz2 rfl (by decide) _ tk.length _ (by rfl) HF.out.tk ⟨x1.heap.size, 0, none⟩ 1 1 [.int .i64 (i : Int)] (by rfl) rfl (one_at HT.out) (by simp [Value.oneCell']) (by unfold maxLen; omega) (by omega) (Nat.le_trans HN.out hS.size) ?_
            intro v' x3 hown hgrow hat
            have hSN := hS.grown hgrow (Nat.le_trans HN.out hS.size) (fun g hg => (own_lt HF.out.tk g hg).1)
            have HCN := Lib.hid (((Kept.grown hgrow).cell (p := ⟨_, 0, none⟩) (World.block_lt_of_cell? x2 _ HC.out) (fun e => by
              have h1 : x0.heap.size < wr.heap.size := HTB.out _ e.symm
              have h2 := HC0.out
              omega)).trans HC.out)
            clear HC
            have HC := HCN
            clear HCN
            have HFZ := Lib.hid (HF.out.growT hgrow hown)
            clear HF
            have HF := HFZ
            clear HFZ
            clear hown hgrow hat
            refine hK.out _ _ hSN (fun _ => ?_)
            clear hK hS
            have hS := hSN
            clear hSN
            refine wpAnyH_ready (rs := [10]) (by kernel_rfl) (by simp) ?_
            refine AllReadyH.cons rfl (fun K hK => ?_) AllReadyH.nil
            rw [if_pos (by rfl)]
            refine wp_append_at 62 (by rfl) _ _ 25 rfl N 34 ic (.slice none 0 0) 1 24 Tryz.underlying25 hic hc0 hc1 hc2 rfl (by decide) _ vs.length _ (by rfl) HF.out.hs ⟨x0.heap.size, 0, none⟩ 1 1 [.slice Ax xs.length cx] (by rfl) rfl (one_at HC.out) (by simp [Value.oneCell']) (by unfold maxLen; omega) (by omega) (Nat.le_trans HN.out hS.size) ?_
            intro v'' x4 hown hgrow hat
            have hSN := hS.grown hgrow (Nat.le_trans HN.out hS.size) (fun g hg => (own_lt HF.out.hs g hg).1)
            have HFZ := Lib.hid (HF.out.growH hgrow hown)
            clear HF
            have HF := HFZ
            clear HFZ
            clear hown hgrow hat
            refine hK.out _ _ hSN (fun _ => ?_)
            clear hK hS
            have hS := hSN
            clear hSN
            refine takeE 11 13 ?_
            refine takeE 12 14 ?_
            refine wpAnyH_done (by kernel_rfl) ?_ _
            go_wp2_with fail
            go_meet
            exact ⟨HF, Lib.hid hS⟩
        case rest =>
          obtain ⟨HF2, HB2⟩ := hcut
          have HBC := Lib.hid (HB.out.trans (HB2.out.mono HWN.out))
          have hvs := HV.out.push HIN.out
          rw [show tk.map (fun i => cs.getD i.toNat []) ++ [xs] = (tk ++ [(i : Int)]).map (fun i => cs.getD i.toNat []) from by rw [← HXS.out]; simp] at hvs
          have HTL2 := Lib.hid (show ∀ z ∈ tk ++ [(i : Int)], ∃ j : Nat, z = j ∧ j < cs.length from fun z hz => by
            rcases List.mem_append.1 hz with h | h
            · exact HTL.out z h
            · exact ⟨i, List.mem_singleton.1 h, hil⟩)
          obtain ⟨tk2, htk2⟩ : ∃ z, tk ++ [(i : Int)] = z := ⟨_, rfl⟩
          obtain ⟨vs2, hvs2⟩ : ∃ z, vs ++ [Value.slice Ax xs.length cx] = z := ⟨_, rfl⟩
          have htl2 : Hid (tk2.length = tk.length + 1) := Lib.hid (by rw [← htk2]; simp)
          have hgo := HGO.out
          rw [htk2] at HF2 hvs hgo HTL2
          rw [hvs2] at HF2 hvs
          obtain ⟨At2, ct2, rfl, _⟩ := mx_slice HF2.out.tk
          obtain ⟨Ah2, ch2, rfl, _⟩ := mx_slice HF2.out.hs
          have HV2 := Lib.hid hvs
          have HN2 := Lib.hid (show N ≤ wc.heap.size from by rw [← HNE.out]; exact HBC.out.size)
          clear HF HB HB2 HV HIN HTL HGO HN htk2 hvs2 hvs d1 HTB hi hz0 hz1 hz2 hic hc0 hc1 hc2
          clear i0 ic
          by_cases h0 : X = 0
          · rw [if_pos h0] at hgo
            have q1 : (X == 0) = true := by simpa using h0
            obtain ⟨hs2, hhs2⟩ : ∃ z, tk2.map (fun i => cs.getD i.toNat []) = z := ⟨_, rfl⟩
            have hre : ((needL hs2 us).map (fun i => tk2.getD i.toNat 0)) = ((needL hs2 us).map (fun i => tk2.getD i.toNat 0)) := rfl
            simp only [findEnd] at hgo
            rw [hhs2] at hgo HV2
            have HL2 := Lib.hid (show hs2.length = tk2.length from by rw [← hhs2]; simp)
            have hx2 : ∀ xs ∈ hs2, xs.length ≤ 1000000 := fun ys hy => by
              rw [← hhs2] at hy
              obtain ⟨z, hz, rfl⟩ := List.mem_map.1 hy
              obtain ⟨j, rfl, hj⟩ := HTL2.out z hz
              exact Nat.le_trans (HLC.out _ (HCS.out _ (getD_mem hj))) (by decide)
            have HND := Lib.hid (rup_needed _ _ hs2 us wc (HF2.out.cls HV2.out HBC.out) (IntsIn.of_own HF2.out.us) (by have := HL2.out; have := htl2.out; omega) hx2 (by have := HUL.out; omega) HUW.out)
            obtain ⟨L, hL⟩ : ∃ z, needL hs2 us = z := ⟨_, rfl⟩
            have HLT := Lib.hid (show ∀ z ∈ L, ∃ j : Nat, z = j ∧ j < tk2.length from fun z hz => by
              rw [← hL] at hz
              obtain ⟨j, h1, h2⟩ := needL_lt z hz
              exact ⟨j, h1, by rw [← HL2.out]; exact h2⟩)
            have HLL := Lib.hid (show L.length ≤ 1000000 from by
              have := needL_len (hs := hs2) (us := us)
              rw [hL] at this
              have := HL2.out
              have := htl2.out
              omega)
            have hnd := HND.out
            rw [hL] at hnd hgo
            have HND := Lib.hid hnd
            have HGO := Lib.hid hgo
            clear hgo hnd hL hx2 hhs2 hre h0
            go_wp2_with fail
            refine HND.out.mono ?_
            rintro e w6 ⟨v6, rfl, hr6, hb6⟩
            have HR6 := Lib.hid hr6
            have HB6 := Lib.hid (HBC.out.trans (hb6.mono (Nat.le_trans HWN.out HN2.out)))
            have HT6 := Lib.hid (own_below HF2.out.tk hb6)
            obtain ⟨Av6, cv6, rfl, _⟩ := mx_slice hr6
            clear hr6 hb6 HND
            obtain ⟨i0, hi, hz0, hz1, hz2⟩ := info_parts cinfo_int
            go_wp2_with fail
            go_loopw [18, 76] (fun ov iv wq => ∃ j : Nat, j ≤ L.length ∧ iv = .int .i64 j ∧ Hid (wq.ownsRow w6.heap.size 3 1 ov j (((L.take j).map (fun i => tk2.getD i.toNat 0)).map (Value.int .i64))) ∧ Hid (Below w6.heap.size w6 wq)) (fun _ iv _ => L.length - (intOf iv).toNat)
            case atStart => exact ⟨0, Nat.zero_le _, rfl, Lib.hid (World.ownsRow_nil _ _ _ _), Lib.hid (Below.refl _ _)⟩
            case round =>
              obtain ⟨j, hj, rfl, HO, HBQ⟩ := hrel
              obtain ⟨Ao, co, rfl, _⟩ := mx_slice HO.out
              have hlb := HLL.out
              by_cases hlt : j < L.length
              · obtain ⟨z, hzk⟩ := getElem_of hlt
                obtain ⟨k, rfl, hk2⟩ := HLT.out z (List.mem_of_getElem? hzk)
                obtain ⟨t, htk⟩ := getElem_of hk2
                obtain ⟨gl, cl', hv1, hg0, hg1, e0⟩ := own_cell HR6.out hzk
                simp only [Value.slice.injEq, true_and] at hv1
                obtain ⟨rfl, rfl⟩ := hv1
                obtain ⟨gt, ct', hv2, hg2, hg3, e1⟩ := own_cell HT6.out htk
                simp only [Value.slice.injEq, true_and] at hv2
                obtain ⟨rfl, rfl⟩ := hv2
                have d1 : wr.cell? ⟨gl, j, none⟩ = some (.int .i64 (k : Int)) := (HBQ.out.cell (p := ⟨gl, j, none⟩) hg1).trans e0
                have d2 : wr.cell? ⟨gt, k, none⟩ = some (.int .i64 t) := (HBQ.out.cell (p := ⟨gt, k, none⟩) hg3).trans e1
                have HTK := Lib.hid (show (((L.take (j + 1)).map (fun i => tk2.getD i.toNat 0)).map (Value.int .i64)) = (((L.take j).map (fun i => tk2.getD i.toNat 0)).map (Value.int .i64)) ++ [.int .i64 t] from by
                  rw [List.take_add_one, hzk]
                  simp [List.getD_eq_getElem?_getD, htk])
                have hz1' := HBQ.out.size
                clear hzk htk e0 e1
                go_wp2_with (at_builtin; refine wpList_append_own_at _ rfl _ _ 36 rfl w6.heap.size 3 i0 (.int .i64 0) 1 8 Tryz.underlying36 hi hz0 hz1 hz2 rfl (by decide) _ j _ rfl (own_below HO.out (mx_al wr _)) ⟨wr.heap.size, 0, none⟩ 1 1 [.int .i64 t] rfl rfl (fun i u hi => by
                  match i, hi with
                  | 0, hi => simp at hi; subst hi; simp [Addr.add]) (fun u hu => by rw [List.mem_singleton.1 hu]; rfl) (by unfold maxLen; omega) (by omega) (by simp; omega) ?_; intro v' w2 hown hgrow hnl2 hat)
                have HO2 := Lib.hid hown
                have HB2 := Lib.hid (HBQ.out.trans (((mx_al wr (.cells #[.int .i64 t] 3)).mono hz1').grown hgrow (by simp; omega) (fun g hg => (own_lt HO.out g hg).1)))
                clear hown hgrow hnl2 hat
                go_wp2
                go_roundw
                case rel => exact ⟨j + 1, by omega, by go_num, Lib.hid (by rw [HTK.out]; exact HO2.out), HB2⟩
                case measure => simp [intOf]; omega
              · obtain rfl : j = L.length := by omega
                have ho := HO.out
                rw [List.take_length] at ho
                have HO2 := Lib.hid ho
                have HWZ := Lib.hid (show w.heap.size ≤ w6.heap.size from Nat.le_trans HWN.out (by rw [← HNE.out]; exact HB6.out.size))
                clear ho
                go_wp2_with fail
                refine bodyPost_ret (res_find rfl _ _) rfl ?_
                rw [← HGO.out]
                exact ⟨⟨_, rfl, own_mono (by simpa using HO2.out) HWZ.out⟩, (HB5.out.trans HB6.out).trans (HBQ.out.mono HWZ.out)⟩
          · rw [if_neg h0] at hgo
            have q1 : (X == 0) = false := by simpa using h0
            have HNU2 := Lib.hid (HNU.out h0)
            have HNF2 := Lib.hid (HNF.out h0)
            have HGO := Lib.hid hgo
            clear hgo h0 HNU HNF
            obtain ⟨il, hil2, hl0, hl1, hl2⟩ := info_parts cinfo_lit
            have hz2 := HN2.out
            have hul : us.length + 1 ≤ 1000000 := by have := HUL.out; omega
            go_wp2_with (at_builtin; refine wpList_append_own_at _ rfl _ _ 33 rfl N 45 il (.int .i64 0) 1 8 Tryz.underlying33 hil2 hl0 hl1 hl2 rfl (by decide) _ us.length _ rfl (own_below HF2.out.us (mx_al wc _)) ⟨wc.heap.size, 0, none⟩ 1 1 [.int .i64 X] rfl rfl (fun i u hi => by
              match i, hi with
              | 0, hi => simp at hi; subst hi; simp [Addr.add]) (fun u hu => by rw [List.mem_singleton.1 hu]; rfl) (by unfold maxLen; omega) (by omega) (by simp; omega) ?_; intro v' w2 hown hgrow hnl2 hat; obtain ⟨g2, c2, rfl⟩ := ownsRow_succ hown)
            have HF3 := Lib.hid ((HF2.out.below (mx_al wc (.cells #[.int .i64 X] 45))).growU hgrow hown)
            have HB3 := Lib.hid (HBC.out.trans (((mx_al wc (.cells #[.int .i64 X] 45)).mono (Nat.le_trans HWN.out hz2)).grown hgrow (Nat.le_trans HWN.out (by simp; omega)) (fun g hg => Nat.le_trans HWN.out (own_lt HF2.out.us g hg).1)))
            have HPT := Lib.hid (rup_put mb n f X w2 HF3.out.map (by omega))
            clear hown hgrow hnl2 hat
            go_wp2_with fail
            refine HPT.out.mono ?_
            rintro e w3 ⟨rfl, ⟨n', hn', hm3⟩, hk3⟩
            have HF4 := Lib.hid (HF3.out.put hk3 hm3)
            have HB4' := Lib.hid (HB3.out.trans (hk3.below (fun g e => by have := HMB.out; omega) (Nat.le_trans HB5.out.size HB3.out.size)))
            go_wp2_with fail
            go_roundw
            case rel => exact ⟨tk2, us ++ [X], vs2, putF f X, m, n', by simpa using HF4, HB4', HGO, Lib.hid (okF_put HOK.out X), Lib.hid (by have := HNF2.out; have := HFR.out; omega), HV2, Lib.hid (by have := HMT.out; have := htl2.out; omega), Lib.hid (by have := HUL.out; have := htl2.out; simp; omega), Lib.hid (by have := HNB.out; have := htl2.out; omega), HTL2, Lib.hid (fun x hx => by
              rcases List.mem_append.1 hx with h | h
              · exact HUW.out x h
              · rw [List.mem_singleton.1 h]
                exact clause_wf HCS.out HNU2.out.1)⟩
            case measure => simp [lenV]; have := htl2.out; have := HMT.out; omega
end Go.Proofs.YthhpffdbipgkcaaGreatDoor
