/- The watch in memory. -/
import Derived.Test.YtobcnejecogfoaaGreatQ14
import Derived.Test.YtobcnejecogfoaaGreatQ15
namespace Go.Proofs.YtobcnejecogfoaaGreat
open Go.RowKit Go.Maps Go.Shelf

/-- what a block of the watch is for -/
inductive WTag
  | kn (id : Int)
  | by_ (id : Int)
  | ls (id : Int)
  | of (l : Int)
/-- a known clause in memory: its block, its two rows -/
structure KnM where
  g : Nat
  bv : Value
  lv : Value
  k : Kn
def KnM.ptr (x : KnM) : Value := .pointer (some ⟨x.g, 0, none⟩)
structure OfM where
  v : Value
  r : List Int
structure KnAt (w : World) (tg : Nat → Option WTag) (id : Int) (x : KnM) : Prop where
  block : w.heap[x.g]? = some (.cells #[x.bv, x.lv] 120 (0, 0))
  tag : tg x.g = some (.kn id)
  by_ : w.ownsRow 0 39 1 x.bv x.k.by_.length (x.k.by_.map (Value.int .i64))
  byt : ∀ g, x.bv.ownBlock = some g → tg g = some (.by_ id)
  ls : w.ownsRow 0 39 1 x.lv x.k.lits.length (x.k.lits.map (Value.int .i64))
  lst : ∀ g, x.lv.ownBlock = some g → tg g = some (.ls id)
structure RowAt13 (w : World) (tg : Nat → Option WTag) (l : Int) (x : OfM) : Prop where
  row : w.ownsRow 0 3 1 x.v x.r.length (x.r.map (Value.int .i64))
  tag : ∀ g, x.v.ownBlock = some g → tg g = some (.of l)
abbrev MapK (w : World) (b : Nat) (m : List (Int × Value)) : Prop := MapS Tryz.prog 3 w b m
abbrev MapO (w : World) (b : Nat) (m : List (Int × Value)) : Prop := MapS Tryz.prog 39 w b m
structure WaMem (O : Nat → Prop) (w : World) (b ab tb : Nat) (S : Wst) (kb ob : Nat) (K : List (Int × KnM)) (F : List (Int × OfM)) (tg : Nat → Option WTag) : Prop where
  own : ∀ g, O g → g < w.heap.size
  inb : O b
  ink : O kb
  ino : O ob
  ne : kb ≠ ob
  intg : ∀ g t, tg g = some t → O g
  block : w.heap[b]? = some (.cells #[.pointer (some ⟨ab, 0, none⟩), .pointer (some ⟨tb, 0, none⟩), .map (some kb), .map (some ob), .int .i64 (S.looked : Nat)] 88 (0, 0))
  kmap : MapK w kb (mapV KnM.ptr K)
  omap : MapO w ob (mapV OfM.v F)
  kS : S.known = mapV KnM.k K
  oS : S.of = mapV OfM.r F
  kn : ∀ p ∈ K, KnAt w tg p.1 p.2
  row : ∀ p ∈ F, RowAt13 w tg p.1 p.2
def WaAt (O : Nat → Prop) (w : World) (b ab tb : Nat) (S : Wst) : Prop := S.Bnd ∧ ∃ kb ob K F tg, WaMem O w b ab tb S kb ob K F tg
theorem MapS.block {P : Program} {kt : TypeId} {w : World} {b : Nat} {m : List (Int × Value)} (h : MapS P kt w b m) : ∃ es c, w.heap[b]? = some (.map es c) := by
  obtain ⟨⟨es, cl, hb, _⟩, _⟩ := h
  exact ⟨es, cl, hb⟩
theorem MapS.not_cells {P : Program} {kt : TypeId} {w : World} {b g : Nat} {m : List (Int × Value)} (h : MapS P kt w b m) {cs : Array Value} {t : TypeId} {f : Nat × Nat} (hg : w.heap[g]? = some (.cells cs t f)) : g ≠ b := by
  rintro rfl
  obtain ⟨es, c, hb⟩ := h.block
  rw [hg] at hb
  cases hb
theorem KnAt.kept {O : Nat → Prop} {w w' : World} {tg tg' : Nat → Option WTag} {id : Int} {x : KnM} (h : KnAt w tg id x) (k : Kept O w w') (ht : ∀ g, g < w.heap.size → tg' g = tg g) (hO : ∀ g t, tg g = some t → (t = .kn id ∨ t = .by_ id ∨ t = .ls id) → (∃ c e f, w.heap[g]? = some (.cells c e f)) → ¬ O g) : KnAt w' tg' id x where
  block := (k.block _ (heap_lt h.block) (hO _ _ h.tag (.inl rfl) ⟨_, _, _, h.block⟩)).trans h.block
  tag := (ht _ (heap_lt h.block)).trans h.tag
  by_ := own_kept h.by_ k (fun g hg => hO g _ (h.byt g hg) (.inr (.inl rfl)) (by
    obtain ⟨c, hc⟩ := own_type h.by_ g hg
    exact ⟨_, _, _, hc⟩))
  byt := fun g hg => (ht g (own_lt h.by_ g hg).2).trans (h.byt g hg)
  ls := own_kept h.ls k (fun g hg => hO g _ (h.lst g hg) (.inr (.inr rfl)) (by
    obtain ⟨c, hc⟩ := own_type h.ls g hg
    exact ⟨_, _, _, hc⟩))
  lst := fun g hg => (ht g (own_lt h.ls g hg).2).trans (h.lst g hg)
theorem RowAt13.kept {O : Nat → Prop} {w w' : World} {tg tg' : Nat → Option WTag} {l : Int} {x : OfM} (h : RowAt13 w tg l x) (k : Kept O w w') (ht : ∀ g, g < w.heap.size → tg' g = tg g) (hO : ∀ g, tg g = some (.of l) → (∃ c e f, w.heap[g]? = some (.cells c e f)) → ¬ O g) : RowAt13 w' tg' l x where
  row := own_kept h.row k (fun g hg => hO g (h.tag g hg) (by
    obtain ⟨c, hc⟩ := own_type h.row g hg
    exact ⟨_, _, _, hc⟩))
  tag := fun g hg => (ht g (own_lt h.row g hg).2).trans (h.tag g hg)
section
variable {O : Nat → Prop} {w : World} {b ab tb kb ob : Nat} {S : Wst} {K : List (Int × KnM)} {F : List (Int × OfM)} {tg : Nat → Option WTag}
theorem WaMem.kept (h : WaMem O w b ab tb S kb ob K F tg) {O' : Nat → Prop} {w' : World} (k : Kept O' w w') (hO : ∀ g, O g → ¬ O' g) : WaMem O w' b ab tb S kb ob K F tg where
  own := fun g hg => Nat.lt_of_lt_of_le (h.own g hg) k.size
  inb := h.inb
  ink := h.ink
  ino := h.ino
  ne := h.ne
  intg := h.intg
  block := (k.block b (heap_lt h.block) (hO b h.inb)).trans h.block
  kmap := h.kmap.kept k (hO kb h.ink)
  omap := h.omap.kept k (hO ob h.ino)
  kS := h.kS
  oS := h.oS
  kn := fun p hp => (h.kn p hp).kept k (fun _ _ => rfl) (fun g t ht _ _ => hO g (h.intg g t ht))
  row := fun p hp => (h.row p hp).kept k (fun _ _ => rfl) (fun g ht _ => hO g (h.intg g _ ht))
theorem WaAt.kept {O' : Nat → Prop} {w' : World} (h : WaAt O w b ab tb S) (k : Kept O' w w') (hO : ∀ g, O g → ¬ O' g) : WaAt O w' b ab tb S := by
  obtain ⟨hb, kb, ob, K, F, tg, h⟩ := h
  exact ⟨hb, kb, ob, K, F, tg, h.kept k hO⟩
theorem WaAt.below {w' : World} (h : WaAt O w b ab tb S) (k : Below w.heap.size w w') : WaAt O w' b ab tb S :=
  h.kept (O' := fun _ => False) (Kept.of_below k) (fun _ _ h => h)
theorem WaMem.congr (h : WaMem O w b ab tb S kb ob K F tg) {O' : Nat → Prop} (hO : ∀ g, O g ↔ O' g) : WaMem O' w b ab tb S kb ob K F tg :=
  { h with own := fun g hg => h.own g ((hO g).2 hg), inb := (hO _).1 h.inb, ink := (hO _).1 h.ink, ino := (hO _).1 h.ino, intg := fun g t ht => (hO g).1 (h.intg g t ht) }
theorem WaMem.kR (h : WaMem O w b ab tb S kb ob K F tg) : Rising K := mapV_rising_of h.kmap.2.1
theorem WaMem.fR (h : WaMem O w b ab tb S kb ob K F tg) : Rising F := mapV_rising_of h.omap.2.1
theorem WaMem.knGet (h : WaMem O w b ab tb S kb ob K F tg) (id : Int) : S.kn id = (getA K id).map KnM.k := by
  unfold Wst.kn
  rw [h.kS, mapV_get]
theorem WaMem.rowGet (h : WaMem O w b ab tb S kb ob K F tg) (l : Int) : S.row l = ((getA F l).map OfM.r).getD [] := by
  unfold Wst.row
  rw [h.oS, mapV_get]
/-- what the map of rows holds at a literal -/
def rowV (F : List (Int × OfM)) (l : Int) : Value := ((getA F l).map OfM.v).getD (.slice none 0 0)
theorem WaMem.rowAt (h : WaMem O w b ab tb S kb ob K F tg) (l : Int) : w.ownsRow 0 3 1 (rowV F l) (S.row l).length ((S.row l).map (Value.int .i64)) ∧ ∀ g, (rowV F l).ownBlock = some g → tg g = some (.of l) := by
  rw [h.rowGet]
  unfold rowV
  cases hg : getA F l with
  | none => exact ⟨World.ownsRow_nil _ _ _ _, fun g hg => by cases hg⟩
  | some x =>
    have := h.row _ (getA_some hg)
    exact ⟨this.row, this.tag⟩
theorem getD_map_default {α β : Type} (f : α → β) (o : Option α) (d : β) : (o.map f).getD d = match o with | some x => f x | none => d := by
  cases o <;> rfl
theorem lit_zero_slice (w : World) : (zeroValue 62).run Tryz.prog w = .ok (.slice none 0 0) w := by kernel_rfl
theorem known_zero (w : World) : (zeroValue 111).run Tryz.prog w = .ok (.pointer none) w := by kernel_rfl
/-- a look into the map of rows -/
theorem WaMem.lookO (h : WaMem O w b ab tb S kb ob K F tg) {l : Int} (hl : (Lit.int .i64 l).wf = true) : (Instr.lookup 86 (.map (some ob)) (.int .i64 l) false).run Tryz.prog w = .ok (rowV F l) w := by
  have := h.omap.look lit_law Tryz.underlying39 Tryz.underlying86 (lit_zero_slice w) false hl
  rw [mapV_get] at this
  exact this
/-- what the map of known clauses holds at an ID -/
def knV (K : List (Int × KnM)) (id : Int) : Value := ((getA K id).map KnM.ptr).getD (.pointer none)
theorem WaMem.lookK (h : WaMem O w b ab tb S kb ob K F tg) {id : Int} (hl : (Lit.int .i64 id).wf = true) : (Instr.lookup 85 (.map (some kb)) (.int .i64 id) false).run Tryz.prog w = .ok (knV K id) w := by
  have := h.kmap.look int_law Tryz.underlying3 Tryz.underlying85 (known_zero w) false hl
  rw [mapV_get] at this
  exact this
theorem WaMem.knAt (h : WaMem O w b ab tb S kb ob K F tg) {id : Int} {k : Kn} (hk : S.kn id = some k) : ∃ x, getA K id = some x ∧ x.k = k ∧ KnAt w tg id x ∧ knV K id = .pointer (some ⟨x.g, 0, none⟩) := by
  rw [h.knGet] at hk
  cases hg : getA K id with
  | none => rw [hg] at hk; cases hk
  | some x =>
    rw [hg] at hk
    exact ⟨x, rfl, Option.some.inj hk, h.kn _ (getA_some hg), by unfold knV; rw [hg]; rfl⟩
theorem WaMem.knNone (h : WaMem O w b ab tb S kb ob K F tg) {id : Int} (hk : S.kn id = none) : getA K id = none ∧ knV K id = .pointer none := by
  rw [h.knGet, Option.map_eq_none_iff] at hk
  exact ⟨hk, by unfold knV; rw [hk]; rfl⟩
theorem putA_same {α : Type} {m : List (Int × α)} (hr : Rising m) {x : Int} {v : α} (h : getA m x = some v) : putA m x v = m := by
  have hm := getA_some h
  clear h
  induction m with
  | nil => cases hm
  | cons y r ih =>
    obtain ⟨h1, h2⟩ := List.pairwise_cons.1 hr
    rcases List.mem_cons.1 hm with e | hm'
    · subst e
      have hd : delA ((x, v) :: r) x = r := by
        unfold delA
        rw [List.filter_cons_of_neg (by simp), List.filter_eq_self.2]
        intro p hp
        have := h1 p hp
        simp at this ⊢
        omega
      unfold putA
      rw [hd]
      cases r with
      | nil => rfl
      | cons z t =>
        unfold insA
        rw [if_pos (h1 z List.mem_cons_self)]
    · have hyx : y.1 < x := h1 _ hm'
      have hd : delA (y :: r) x = y :: delA r x := by
        unfold delA
        rw [List.filter_cons_of_pos (by simp; omega)]
      have := ih h2 hm'
      unfold putA at this ⊢
      rw [hd]
      unfold insA
      rw [if_neg (by show ¬ x < y.1; omega), this]
/-- a row is replaced -/
theorem WaMem.setRow (h : WaMem O w b ab tb S kb ob K F tg) {w2 : World} {l : Int} {v' : Value} {r' : List Int} (k : Kept (fun g => (rowV F l).ownBlock = some g ∨ g = ob) w w2) (hr : w2.ownsRow 0 3 1 v' r'.length (r'.map (Value.int .i64))) (hb : v'.ownBlock = (rowV F l).ownBlock ∨ ∃ g, v'.ownBlock = some g ∧ w.heap.size ≤ g) (hm : MapO w2 ob (putA (mapV OfM.v F) l v')) :
    ∃ tg', WaMem (fun g => O g ∨ w.heap.size ≤ g ∧ g < w2.heap.size) w2 b ab tb ⟨S.known, putA S.of l r', S.looked⟩ kb ob K (putA F l ⟨v', r'⟩) tg' := by
  obtain ⟨hrow, htag⟩ := h.rowAt l
  have hown : ∀ g, (rowV F l).ownBlock = some g → ∀ t, tg g = some t → t = .of l := fun g hg t ht => by
    rw [htag g hg] at ht
    exact (Option.some.inj ht).symm
  have hneb : ∀ g, (rowV F l).ownBlock = some g ∨ g = ob → b ≠ g := by
    rintro g (hg | hg) rfl
    · exact mx_not hrow h.block (by decide) hg
    · exact h.omap.not_cells h.block hg
  have hnek : ¬ ((rowV F l).ownBlock = some kb ∨ kb = ob) := by
    rintro (hg | hg)
    · obtain ⟨c, hc⟩ := own_type hrow kb hg
      exact h.kmap.not_cells hc rfl
    · exact h.ne hg
  refine ⟨fun g => if g < w.heap.size then tg g else if v'.ownBlock = some g then some (.of l) else none, ?_⟩
  have ht : ∀ g, g < w.heap.size → (if g < w.heap.size then tg g else if v'.ownBlock = some g then some (WTag.of l) else none) = tg g := fun g hg => if_pos hg
  refine { own := ?_, inb := .inl h.inb, ink := .inl h.ink, ino := .inl h.ino, ne := h.ne, intg := ?_, block := ?_, kmap := ?_, omap := ?_, kS := h.kS, oS := ?_, kn := ?_, row := ?_ }
  · rintro g (hg | hg)
    · exact Nat.lt_of_lt_of_le (h.own g hg) k.size
    · exact hg.2
  · intro g t hgt
    split at hgt
    · exact .inl (h.intg g t hgt)
    · rename_i hge
      split at hgt
      · rename_i hv
        exact .inr ⟨by omega, (own_lt hr g hv).2⟩
      · cases hgt
  · exact (k.block b (heap_lt h.block) (fun e => hneb b e rfl)).trans h.block
  · exact h.kmap.kept k hnek
  · rw [mapV_put]
    exact hm
  · show putA S.of l r' = _
    rw [mapV_put, h.oS]
  · intro p hp
    refine (h.kn p hp).kept k ht (fun g t htg hcase hcells => ?_)
    rintro (hg | hg)
    · have := hown g hg t htg
      rw [this] at hcase
      rcases hcase with e | e | e <;> cases e
    · obtain ⟨c, e, f, hc⟩ := hcells
      exact h.omap.not_cells hc hg
  · intro p hp
    rcases putA_mem.1 hp with rfl | ⟨hp, hne⟩
    · refine ⟨hr, fun g hg => ?_⟩
      show (if g < w.heap.size then tg g else if v'.ownBlock = some g then some (WTag.of l) else none) = some (.of l)
      split
      · rename_i hlt
        rcases hb with e | ⟨g', e, hge⟩
        · exact htag g (e ▸ hg)
        · rw [e] at hg
          obtain rfl := Option.some.inj hg
          omega
      · rfl
    · refine (h.row p hp).kept k ht (fun g htg hcells => ?_)
      rintro (hg | hg)
      · have := hown g hg _ htg
        injection this with e
        exact hne e
      · obtain ⟨c, e, f, hc⟩ := hcells
        exact h.omap.not_cells hc hg
theorem kn_by (h : WaMem O w b ab tb S kb ob K F tg) {p : Int × KnM} (hp : p ∈ K) : tg p.2.g = some (.kn p.1) := (h.kn p hp).tag
/-- another pair of literals by which a clause is watched, in the same row -/
theorem WaMem.setKn (h : WaMem O w b ab tb S kb ob K F tg) {w2 : World} {id : Int} {x : KnM} (hx : getA K id = some x) {k' : Kn} (hl : k'.lits = x.k.lits) (k : Kept (fun g => x.bv.ownBlock = some g) w w2) (hr : w2.ownsRow 0 39 1 x.bv k'.by_.length (k'.by_.map (Value.int .i64))) :
    WaMem O w2 b ab tb ⟨putA S.known id k', S.of, S.looked⟩ kb ob (putA K id ⟨x.g, x.bv, x.lv, k'⟩) F tg := by
  have hk := h.kn _ (getA_some hx)
  have hown : ∀ g, x.bv.ownBlock = some g → ∀ t, tg g = some t → t = .by_ id := fun g hg t ht => by
    rw [hk.byt g hg] at ht
    exact (Option.some.inj ht).symm
  have hcell : ∀ g, x.bv.ownBlock = some g → ∃ c, w.heap[g]? = some (.cells c 39 (0, 0)) := own_type hk.by_
  refine { own := fun g hg => Nat.lt_of_lt_of_le (h.own g hg) k.size, inb := h.inb, ink := h.ink, ino := h.ino, ne := h.ne, intg := h.intg, block := ?_, kmap := ?_, omap := ?_, kS := ?_, oS := h.oS, kn := ?_, row := ?_ }
  · refine (k.block b (heap_lt h.block) (fun e => ?_)).trans h.block
    exact mx_not hk.by_ h.block (by decide) e
  · have e : mapV KnM.ptr (putA K id ⟨x.g, x.bv, x.lv, k'⟩) = mapV KnM.ptr K := by
      rw [mapV_put]
      refine putA_same h.kmap.2.1 ?_
      rw [mapV_get, hx]
      rfl
    rw [e]
    refine h.kmap.kept k (fun e => ?_)
    obtain ⟨c, hc⟩ := hcell kb e
    exact h.kmap.not_cells hc rfl
  · refine h.omap.kept k (fun e => ?_)
    obtain ⟨c, hc⟩ := hcell ob e
    exact h.omap.not_cells hc rfl
  · show putA S.known id k' = _
    rw [mapV_put, h.kS]
  · intro p hp
    rcases putA_mem.1 hp with rfl | ⟨hp, hne⟩
    · refine ⟨?_, hk.tag, hr, hk.byt, ?_, hk.lst⟩
      · refine (k.block x.g (heap_lt hk.block) (fun e => ?_)).trans hk.block
        exact mx_not hk.by_ hk.block (by decide) e
      · show w2.ownsRow 0 _ 1 x.lv k'.lits.length (k'.lits.map _)
        rw [hl]
        refine own_kept hk.ls k (fun g hg e => ?_)
        have := hown g e _ (hk.lst g hg)
        cases this
    · refine (h.kn p hp).kept k (fun _ _ => rfl) (fun g t htg hcase _ hg => ?_)
      have := hown g hg t htg
      rw [this] at hcase
      rcases hcase with e | e | e
      · cases e
      · injection e with e
        exact hne e.symm
      · cases e
  · intro p hp
    refine (h.row p hp).kept k (fun _ _ => rfl) (fun g htg _ hg => ?_)
    have := hown g hg _ htg
    cases this
/-- a clause becomes known -/
theorem WaMem.addKn (h : WaMem O w b ab tb S kb ob K F tg) {w2 : World} {id : Int} {g : Nat} {lv : Value} {c : List Int} (k : Kept (fun g => g = kb) w w2) (hb : w2.heap[g]? = some (.cells #[.slice none 0 0, lv] 120 (0, 0))) (hg : w.heap.size ≤ g)
    (hr : w2.ownsRow 0 39 1 lv c.length (c.map (Value.int .i64))) (hf : ∀ g, lv.ownBlock = some g → w.heap.size ≤ g) (hm : MapK w2 kb (putA (mapV KnM.ptr K) id (.pointer (some ⟨g, 0, none⟩)))) :
    ∃ tg', WaMem (fun g => O g ∨ w.heap.size ≤ g ∧ g < w2.heap.size) w2 b ab tb ⟨putA S.known id ⟨[], c⟩, S.of, S.looked⟩ kb ob (putA K id ⟨g, .slice none 0 0, lv, ⟨[], c⟩⟩) F tg' := by
  refine ⟨fun j => if j < w.heap.size then tg j else if j = g then some (.kn id) else if lv.ownBlock = some j then some (.ls id) else none, ?_⟩
  have ht : ∀ j, j < w.heap.size → (if j < w.heap.size then tg j else if j = g then some (WTag.kn id) else if lv.ownBlock = some j then some (.ls id) else none) = tg j := fun j hj => if_pos hj
  refine { own := ?_, inb := .inl h.inb, ink := .inl h.ink, ino := .inl h.ino, ne := h.ne, intg := ?_, block := ?_, kmap := ?_, omap := ?_, kS := ?_, oS := h.oS, kn := ?_, row := ?_ }
  · rintro g (hg | hg)
    · exact Nat.lt_of_lt_of_le (h.own g hg) k.size
    · exact hg.2
  · intro j t hjt
    split at hjt
    · exact .inl (h.intg j t hjt)
    · rename_i hge
      split at hjt
      · rename_i e
        exact .inr ⟨by omega, by rw [e]; exact heap_lt hb⟩
      · split at hjt
        · rename_i hv
          exact .inr ⟨by omega, (own_lt hr j hv).2⟩
        · cases hjt
  · exact (k.block b (heap_lt h.block) (fun e => h.kmap.not_cells h.block e)).trans h.block
  · rw [mapV_put]
    exact hm
  · exact h.omap.kept k (fun e => h.ne e.symm)
  · show putA S.known id _ = _
    rw [mapV_put, h.kS]
  · intro p hp
    rcases putA_mem.1 hp with rfl | ⟨hp, hne⟩
    · refine ⟨hb, ?_, World.ownsRow_nil _ _ _ _, fun j hj => (by cases hj), hr, fun j hj => ?_⟩
      · show (if g < w.heap.size then tg g else if g = g then some (WTag.kn id) else _) = _
        rw [if_neg (by omega), if_pos rfl]
      · show (if j < w.heap.size then tg j else if j = g then some (WTag.kn id) else if lv.ownBlock = some j then some (.ls id) else none) = _
        have h1 := hf j hj
        have h2 : j ≠ g := fun e => mx_not hr hb (by decide) (e ▸ hj)
        rw [if_neg (by omega), if_neg h2, if_pos hj]
    · refine (h.kn p hp).kept k ht (fun j t _ _ hcells e => ?_)
      obtain ⟨c, e', f, hc⟩ := hcells
      exact h.kmap.not_cells hc e
  · intro p hp
    refine (h.row p hp).kept k ht (fun j _ hcells e => ?_)
    obtain ⟨c, e', f, hc⟩ := hcells
    exact h.kmap.not_cells hc e
/-- the row of those by which a clause is watched is laid down -/
theorem WaMem.setBy (h : WaMem O w b ab tb S kb ob K F tg) {w2 : World} {id : Int} {x : KnM} (hx : getA K id = some x) {v' : Value} {r' : List Int} (k : Kept (fun g => g = x.g) w w2) (hb : w2.heap[x.g]? = some (.cells #[v', x.lv] 120 (0, 0)))
    (hr : w2.ownsRow 0 39 1 v' r'.length (r'.map (Value.int .i64))) (hf : ∀ g, v'.ownBlock = some g → w.heap.size ≤ g) :
    ∃ tg', WaMem (fun g => O g ∨ w.heap.size ≤ g ∧ g < w2.heap.size) w2 b ab tb ⟨putA S.known id ⟨r', x.k.lits⟩, S.of, S.looked⟩ kb ob (putA K id ⟨x.g, v', x.lv, ⟨r', x.k.lits⟩⟩) F tg' := by
  have hk := h.kn _ (getA_some hx)
  refine ⟨fun j => if j < w.heap.size then tg j else if v'.ownBlock = some j then some (.by_ id) else none, ?_⟩
  have ht : ∀ j, j < w.heap.size → (if j < w.heap.size then tg j else if v'.ownBlock = some j then some (WTag.by_ id) else none) = tg j := fun j hj => if_pos hj
  refine { own := ?_, inb := .inl h.inb, ink := .inl h.ink, ino := .inl h.ino, ne := h.ne, intg := ?_, block := ?_, kmap := ?_, omap := ?_, kS := ?_, oS := h.oS, kn := ?_, row := ?_ }
  · rintro g (hg | hg)
    · exact Nat.lt_of_lt_of_le (h.own g hg) k.size
    · exact hg.2
  · intro j t hjt
    split at hjt
    · exact .inl (h.intg j t hjt)
    · rename_i hge
      split at hjt
      · rename_i hv
        exact .inr ⟨by omega, (own_lt hr j hv).2⟩
      · cases hjt
  · refine (k.block b (heap_lt h.block) (fun e => ?_)).trans h.block
    have h1 := h.block
    rw [e, hk.block] at h1
    simp at h1
  · have e : mapV KnM.ptr (putA K id ⟨x.g, v', x.lv, ⟨r', x.k.lits⟩⟩) = mapV KnM.ptr K := by
      rw [mapV_put]
      refine putA_same h.kmap.2.1 ?_
      rw [mapV_get, hx]
      rfl
    rw [e]
    exact h.kmap.kept k (fun e => h.kmap.not_cells hk.block e.symm)
  · exact h.omap.kept k (fun e => h.omap.not_cells hk.block e.symm)
  · show putA S.known id _ = _
    rw [mapV_put, h.kS]
  · intro p hp
    rcases putA_mem.1 hp with rfl | ⟨hp, hne⟩
    · refine ⟨hb, (ht _ (heap_lt hk.block)).trans hk.tag, hr, fun j hj => ?_, ?_, fun j hj => (ht _ (own_lt hk.ls j hj).2).trans (hk.lst j hj)⟩
      · show (if j < w.heap.size then tg j else if v'.ownBlock = some j then some (WTag.by_ id) else none) = _
        have h1 := hf j hj
        rw [if_neg (by omega), if_pos hj]
      · exact own_kept hk.ls k (fun g hg e => mx_not hk.ls hk.block (by decide) (e ▸ hg))
    · refine (h.kn p hp).kept k ht (fun j t htj hcase _ e => ?_)
      rw [e, hk.tag] at htj
      obtain rfl := Option.some.inj htj
      rcases hcase with e | e | e
      · injection e with e
        exact hne e.symm
      · cases e
      · cases e
  · intro p hp
    refine (h.row p hp).kept k ht (fun j htj _ e => ?_)
    rw [e, hk.tag] at htj
    cases htj
theorem WaMem.delKn (h : WaMem O w b ab tb S kb ob K F tg) {w2 : World} {id : Int} (k : Kept (fun g => g = kb) w w2) (hm : MapK w2 kb (delA (mapV KnM.ptr K) id)) :
    WaMem O w2 b ab tb ⟨delA S.known id, S.of, S.looked⟩ kb ob (delA K id) F tg := by
  refine { own := fun g hg => Nat.lt_of_lt_of_le (h.own g hg) k.size, inb := h.inb, ink := h.ink, ino := h.ino, ne := h.ne, intg := h.intg, block := (k.block b (heap_lt h.block) (fun e => h.kmap.not_cells h.block e)).trans h.block, kmap := ?_, omap := h.omap.kept k (fun e => h.ne e.symm), kS := ?_, oS := h.oS, kn := ?_, row := ?_ }
  · rw [mapV_del]
    exact hm
  · show delA S.known id = _
    rw [mapV_del, h.kS]
  · intro p hp
    refine (h.kn p (delA_mem.1 hp).1).kept k (fun _ _ => rfl) (fun j t _ _ hcells e => ?_)
    obtain ⟨c, e', f, hc⟩ := hcells
    exact h.kmap.not_cells hc e
  · intro p hp
    refine (h.row p hp).kept k (fun _ _ => rfl) (fun j _ hcells e => ?_)
    obtain ⟨c, e', f, hc⟩ := hcells
    exact h.kmap.not_cells hc e
theorem WaMem.setLooked (h : WaMem O w b ab tb S kb ob K F tg) (n : Nat) : WaMem O (w.setCell ⟨b, 4, none⟩ (.int .i64 (n : Nat))) b ab tb ⟨S.known, S.of, n⟩ kb ob K F tg := by
  have k : Kept (fun g => g = b) w (w.setCell ⟨b, 4, none⟩ (.int .i64 (n : Nat))) := Kept.setCell (Kept.refl (fun g => g = b) w) _ _ rfl
  refine { own := fun g hg => Nat.lt_of_lt_of_le (h.own g hg) k.size, inb := h.inb, ink := h.ink, ino := h.ino, ne := h.ne, intg := h.intg, block := mx_set h.block _, kmap := h.kmap.kept k (fun e => h.kmap.not_cells h.block e.symm), omap := h.omap.kept k (fun e => h.omap.not_cells h.block e.symm), kS := h.kS, oS := h.oS, kn := ?_, row := ?_ }
  · intro p hp
    have hk := h.kn p hp
    refine ⟨(k.block _ (heap_lt hk.block) (fun e => ?_)).trans hk.block, hk.tag, own_kept hk.by_ k (fun g hg e => mx_not hk.by_ h.block (by decide) (e ▸ hg)), hk.byt, own_kept hk.ls k (fun g hg e => mx_not hk.ls h.block (by decide) (e ▸ hg)), hk.lst⟩
    have h1 := h.block
    rw [← e, hk.block] at h1
    simp at h1
  · intro p hp
    refine ⟨own_kept (h.row p hp).row k (fun g hg e => mx_not (h.row p hp).row h.block (by decide) (e ▸ hg)), (h.row p hp).tag⟩
end
end Go.Proofs.YtobcnejecogfoaaGreat
