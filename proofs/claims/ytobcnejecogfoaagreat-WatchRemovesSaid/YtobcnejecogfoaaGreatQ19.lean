/- The trail from its last literal on: Down. An arena, a trail and their watch; the watch's small functions. The watch: Remove, once, Back, New; arena.Has. -/
import Derived.Test.YtobcnejecogfoaaGreatQ04
import Derived.Test.YtobcnejecogfoaaGreatQ07
import Derived.Test.YtobcnejecogfoaaGreatQ17
import Derived.Test.YtobcnejecogfoaaGreatQ12
import Derived.Test.YtobcnejecogfoaaGreatQ05
import Derived.Test.YtobcnejecogfoaaGreatQ18
import Derived.Test.YtobcnejecogfoaaGreatQ08
import Derived.Test.YtobcnejecogfoaaGreatQ13
import Derived.Deep.DeepMust
namespace Go.Proofs.YtobcnejecogfoaaGreat
open Go.RowKit Go.Shelf Go.Maps
attribute [local go_sem] Oper.semAt_some

theorem TrAt.narrow {O : Nat → Prop} {w : World} {b : Nat} {T : Trl} (h : TrAt O w b T) : TrAt (fun g => O g ∧ ¬ XO w g) w b T := by
  obtain ⟨hk, gv, cv, ov, sv, h⟩ := h
  refine ⟨hk, gv, cv, ov, sv, fun g hg => h.own g hg.1, ⟨h.inb, xo_cells h.block⟩, ⟨h.invs, ?_⟩, h.block, h.vars, h.order, fun g hg => ⟨h.orderb g hg, ?_⟩, h.starts, fun g hg => ⟨h.startsb g hg, ?_⟩⟩
  · obtain ⟨c, hc⟩ := own_type h.vars gv rfl
    exact xo_cells hc
  · obtain ⟨c, hc⟩ := own_type h.order g hg
    exact xo_cells hc
  · obtain ⟨c, hc⟩ := own_type h.starts g hg
    exact xo_cells hc
/-- a trail is kept by rounds that touch none of its blocks -/
theorem TrAt.rounds {O X : Nat → Prop} {W w : World} {b : Nat} {T : Trl} (h : TrAt O W b T) (k : KpC X W w) (hX : ∀ g, O g → ¬ X g) : TrAt (fun g => O g ∧ ¬ XO W g) w b T :=
  h.narrow.kept k.kept (fun g hg ho => ho.elim (hX g hg.1) hg.2)
/-- what Down yields: places and literals, from the last one on -/
def downL (o : List Int) : Nat → List (Nat × Int)
  | 0 => []
  | k + 1 => match o[k]? with
    | some l => (k, l) :: downL o k
    | none => []
def dv (x : Nat × Int) : Array Value := #[.int .i64 (x.1 : Int), .int .i64 x.2]
theorem tr_cells {O : Nat → Prop} {w : World} {b m : Nat} {T : Trl} {l : Int} (h : TrAt O w b T) (hl : T.order[m]? = some l) :
    ∃ g c, w.cell? ⟨b, 1, none⟩ = some (.slice (some ⟨g, 0, none⟩) T.order.length c) ∧ w.cell? ⟨g, m, none⟩ = some (.int .i64 l) := by
  obtain ⟨hk, gv, cv, ov, sv, h⟩ := h
  have hm : m < T.order.length := (List.getElem?_eq_some_iff.1 hl).1
  obtain ⟨g, c, cs, hv, _⟩ := mx_some h.order (by omega)
  refine ⟨g, c, ?_, ?_⟩
  · rw [mx_cell h.block, hv]
    rfl
  · have ho := h.order
    rw [hv] at ho
    exact mx_at ho (by rw [List.getElem?_map, hl]; rfl)
end Go.Proofs.YtobcnejecogfoaaGreat
namespace Go.Proofs.YtobcnejecogfoaaGreat
open Go.RowKit Go.Maps Go.Shelf

structure SysAt (w : World) (lab : Nat → Nat) (b ab tb : Nat) (A : Arn) (T : Trl) (S : Wst) : Prop where
  ar : ArAt (fun g => lab g = 1) w ab A
  tr : TrAt (fun g => lab g = 2) w tb T
  wa : WaAt (fun g => lab g = 3) w b ab tb S
  lt : ∀ g, lab g ≠ 0 → g < w.heap.size
/-- how labels go on -/
structure Labs (lab lab' : Nat → Nat) (w w' : World) : Prop where
  kept : Kept (fun g => lab g ≠ 0) w w'
  same : ∀ g, g < w.heap.size → lab' g = lab g
def SysNext (w w' : World) (lab : Nat → Nat) (b ab tb : Nat) (A : Arn) (T : Trl) (S : Wst) : Prop := ∃ lab', SysAt w' lab' b ab tb A T S ∧ Labs lab lab' w w'
theorem Labs.trans {l1 l2 l3 : Nat → Nat} {a b c : World} (h : Labs l1 l2 a b) (k : Labs l2 l3 b c) : Labs l1 l3 a c :=
  ⟨h.kept.trans k.kept (fun i hi hn => by rwa [h.same i hi] at hn), fun g hg => (k.same g (Nat.lt_of_lt_of_le hg h.kept.size)).trans (h.same g hg)⟩
theorem Labs.of_below {l : Nat → Nat} {a b : World} (h : Below a.heap.size a b) : Labs l l a b := ⟨Kept.of_below h, fun _ _ => rfl⟩
section
variable {w w' : World} {lab : Nat → Nat} {b ab tb : Nat} {A : Arn} {T : Trl} {S : Wst}
theorem SysAt.kept {O : Nat → Prop} (h : SysAt w lab b ab tb A T S) (k : Kept O w w') (hO : ∀ g, lab g ≠ 0 → ¬ O g) : SysAt w' lab b ab tb A T S :=
  ⟨h.ar.kept k (fun g hg => hO g (by rw [hg]; decide)), h.tr.kept k (fun g hg => hO g (by rw [hg]; decide)), h.wa.kept k (fun g hg => hO g (by rw [hg]; decide)), fun g hg => Nat.lt_of_lt_of_le (h.lt g hg) k.size⟩
theorem SysAt.below (h : SysAt w lab b ab tb A T S) (k : Below w.heap.size w w') : SysAt w' lab b ab tb A T S := h.kept (O := fun _ => False) (Kept.of_below k) (fun _ _ h => h)
theorem SysNext.refl (h : SysAt w lab b ab tb A T S) (k : Below w.heap.size w w') : SysNext w w' lab b ab tb A T S := ⟨lab, h.below k, Labs.of_below k⟩
theorem SysNext.trans {w2 : World} {A2 : Arn} {T2 : Trl} {S2 : Wst} {lab1 : Nat → Nat} (h : Labs lab lab1 w w') (k : SysNext w' w2 lab1 b ab tb A2 T2 S2) : SysNext w w2 lab b ab tb A2 T2 S2 := by
  obtain ⟨l, h1, h2⟩ := k
  exact ⟨l, h1, h.trans h2⟩
/-- the labels behind a call that writes what bears a label -/
def labN (lab : Nat → Nat) (n m k : Nat) (g : Nat) : Nat := if g < n then lab g else if g < m then k else 0
theorem labN_iff (h : ∀ g, lab g ≠ 0 → g < w.heap.size) {m k : Nat} (hk : k ≠ 0) (g : Nat) : labN lab w.heap.size m k g = k ↔ lab g = k ∨ w.heap.size ≤ g ∧ g < m := by
  unfold labN
  split
  · rename_i hg
    constructor
    · exact .inl
    · rintro (e | e)
      · exact e
      · omega
  · rename_i hg
    have h0 : lab g = 0 := Classical.byContradiction fun e => hg (h g e)
    split
    · exact ⟨fun _ => .inr ⟨by omega, by assumption⟩, fun _ => rfl⟩
    · constructor
      · exact fun e => absurd e.symm hk
      · rintro (e | e)
        · exact absurd (e.symm.trans h0) hk
        · omega
theorem labN_other (h : ∀ g, lab g ≠ 0 → g < w.heap.size) {m k j : Nat} (hj : j ≠ 0) (hjk : j ≠ k) (g : Nat) : labN lab w.heap.size m k g = j ↔ lab g = j := by
  unfold labN
  split
  · exact Iff.rfl
  · rename_i hg
    have h0 : lab g = 0 := Classical.byContradiction fun e => hg (h g e)
    split
    · exact ⟨fun e => absurd e.symm hjk, fun e => absurd (e.symm.trans h0) hj⟩
    · exact ⟨fun e => absurd e.symm hj, fun e => absurd (e.symm.trans h0) hj⟩
theorem ArAt.congr {O O' : Nat → Prop} {w : World} {b : Nat} {A : Arn} (h : ArAt O w b A) (hO : ∀ g, O g ↔ O' g) : ArAt O' w b A := by
  rw [show O' = O from funext fun g => propext (hO g).symm]
  exact h
theorem TrAt.congr {O O' : Nat → Prop} {w : World} {b : Nat} {T : Trl} (h : TrAt O w b T) (hO : ∀ g, O g ↔ O' g) : TrAt O' w b T := by
  rw [show O' = O from funext fun g => propext (hO g).symm]
  exact h
theorem WaAt.congr {O O' : Nat → Prop} {w : World} {S : Wst} (h : WaAt O w b ab tb S) (hO : ∀ g, O g ↔ O' g) : WaAt O' w b ab tb S := by
  rw [show O' = O from funext fun g => propext (hO g).symm]
  exact h
theorem labN_labs {j : Nat} (hj : j ≠ 0) (k : Kept (fun g => lab g = j) w w') : Labs lab (labN lab w.heap.size w'.heap.size j) w w' :=
  ⟨k.mono (fun g _ e => by rw [e]; exact hj), fun g hg => if_pos hg⟩
theorem labN_lt {j m : Nat} (hm : w.heap.size ≤ m) (g : Nat) (hg : labN lab w.heap.size m j g ≠ 0) : g < m := by
  unfold labN at hg
  split at hg
  · omega
  · split at hg
    · assumption
    · exact absurd rfl hg
theorem SysAt.wa_next {S' : Wst} (h : SysAt w lab b ab tb A T S) (hw : WaNext (fun g => lab g = 3) w w' b ab tb S') : SysNext w w' lab b ab tb A T S' := by
  obtain ⟨h1, k⟩ := hw
  refine ⟨labN lab w.heap.size w'.heap.size 3, ⟨?_, ?_, ?_, labN_lt k.size⟩, labN_labs (by decide) k⟩
  · exact (h.ar.kept k (fun g hg e => by rw [hg] at e; cases e)).congr (fun g => (labN_other h.lt (by decide) (by decide) g).symm)
  · exact (h.tr.kept k (fun g hg e => by rw [hg] at e; cases e)).congr (fun g => (labN_other h.lt (by decide) (by decide) g).symm)
  · exact h1.congr (fun g => (labN_iff h.lt (by decide) g).symm)
theorem SysAt.tr_next {T' : Trl} (h : SysAt w lab b ab tb A T S) (hw : TrNext (fun g => lab g = 2) w w' tb T') : SysNext w w' lab b ab tb A T' S := by
  obtain ⟨h1, k⟩ := hw
  refine ⟨labN lab w.heap.size w'.heap.size 2, ⟨?_, ?_, ?_, labN_lt k.size⟩, labN_labs (by decide) k⟩
  · exact (h.ar.kept k (fun g hg e => by rw [hg] at e; cases e)).congr (fun g => (labN_other h.lt (by decide) (by decide) g).symm)
  · exact h1.congr (fun g => (labN_iff h.lt (by decide) g).symm)
  · exact (h.wa.kept k (fun g hg e => by rw [hg] at e; cases e)).congr (fun g => (labN_other h.lt (by decide) (by decide) g).symm)
theorem SysAt.ar_next {A' : Arn} (h : SysAt w lab b ab tb A T S) (hw : ArNext (fun g => lab g = 1) w w' ab A') : SysNext w w' lab b ab tb A' T S := by
  obtain ⟨h1, k⟩ := hw
  refine ⟨labN lab w.heap.size w'.heap.size 1, ⟨?_, ?_, ?_, labN_lt k.size⟩, labN_labs (by decide) k⟩
  · exact h1.congr (fun g => (labN_iff h.lt (by decide) g).symm)
  · exact (h.tr.kept k (fun g hg e => by rw [hg] at e; cases e)).congr (fun g => (labN_other h.lt (by decide) (by decide) g).symm)
  · exact (h.wa.kept k (fun g hg e => by rw [hg] at e; cases e)).congr (fun g => (labN_other h.lt (by decide) (by decide) g).symm)
/-- the watch's own cells -/
theorem SysAt.box (h : SysAt w lab b ab tb A T S) : ∃ kb ob, w.heap[b]? = some (.cells #[.pointer (some ⟨ab, 0, none⟩), .pointer (some ⟨tb, 0, none⟩), .map (some kb), .map (some ob), .int .i64 (S.looked : Nat)] 88 (0, 0)) := by
  obtain ⟨_, kb, ob, K, F, tg, hm⟩ := h.wa
  exact ⟨kb, ob, hm.block⟩
theorem SysAt.c0 (h : SysAt w lab b ab tb A T S) : w.cell? ⟨b, 0, none⟩ = some (.pointer (some ⟨ab, 0, none⟩)) := by
  obtain ⟨kb, ob, hb⟩ := h.box
  exact mx_cell (j := 0) hb
theorem SysAt.c1 (h : SysAt w lab b ab tb A T S) : w.cell? ⟨b, 1, none⟩ = some (.pointer (some ⟨tb, 0, none⟩)) := by
  obtain ⟨kb, ob, hb⟩ := h.box
  exact mx_cell (j := 1) hb
theorem SysAt.c4 (h : SysAt w lab b ab tb A T S) : w.cell? ⟨b, 4, none⟩ = some (.int .i64 (S.looked : Nat)) := by
  obtain ⟨kb, ob, hb⟩ := h.box
  exact mx_cell (j := 4) hb
end
theorem wa_false {O : Nat → Prop} (b tb : Nat) (T : Trl) (l : Int) (w : World) (h : TrAt O w tb T) (c1 : w.cell? ⟨b, 1, none⟩ = some (.pointer (some ⟨tb, 0, none⟩))) :
    Calls Tryz.prog 72 #[.pointer (some ⟨b, 0, none⟩), .int .i64 l] w fun e w' => e = .returned (.bool (T.fal l)) ∧ Below w.heap.size w w' := by
  have HV := Lib.hid (tr_value tb T l w h)
  unfold Trl.fal
  obtain ⟨v, hv⟩ : ∃ v, T.val l = v := ⟨_, rfl⟩
  rw [hv] at HV ⊢
  clear h hv
  go_enter Tryz.func72, Tryz.ntmps72
  go_wp2_with fail
  refine HV.out.mono ?_
  rintro e w1 ⟨rfl, hb⟩
  clear c1
  go_wp2_with fail
  go_ret
  exact ⟨rfl, hb⟩
theorem wa_true {O : Nat → Prop} (b tb : Nat) (T : Trl) (l : Int) (w : World) (h : TrAt O w tb T) (c1 : w.cell? ⟨b, 1, none⟩ = some (.pointer (some ⟨tb, 0, none⟩))) :
    Calls Tryz.prog 73 #[.pointer (some ⟨b, 0, none⟩), .int .i64 l] w fun e w' => e = .returned (.bool (T.tru l)) ∧ Below w.heap.size w w' := by
  have HV := Lib.hid (tr_value tb T l w h)
  unfold Trl.tru
  obtain ⟨v, hv⟩ : ∃ v, T.val l = v := ⟨_, rfl⟩
  rw [hv] at HV ⊢
  clear h hv
  go_enter Tryz.func73, Tryz.ntmps73
  go_wp2_with fail
  refine HV.out.mono ?_
  rintro e w1 ⟨rfl, hb⟩
  clear c1
  go_wp2_with fail
  go_ret
  exact ⟨rfl, hb⟩
theorem TrNext.wide {O O' : Nat → Prop} {w w' : World} {b : Nat} {T : Trl} (h : TrNext O w w' b T) (hO : ∀ g, O g → O' g) (hl : ∀ g, O' g → g < w.heap.size) : TrNext O' w w' b T := by
  obtain ⟨⟨hk, gv, cv, ov, sv, hm⟩, k⟩ := h
  exact ⟨⟨hk, gv, cv, ov, sv, fun g hg => hg.elim (fun h => Nat.lt_of_lt_of_le (hl g h) k.size) (fun h => h.2), hm.inb.imp_left (hO _), hm.invs.imp_left (hO _), hm.block, hm.vars, hm.order, fun g hg => (hm.orderb g hg).imp_left (hO _), hm.starts, fun g hg => (hm.startsb g hg).imp_left (hO _)⟩, k.mono (fun g _ h => hO g h)⟩
theorem wa_assign (b ab tb : Nat) (A : Arn) (T : Trl) (S : Wst) (l id : Int) (w : World) (lab : Nat → Nat) (h : SysAt w lab b ab tb A T S) (hno : T.order.length < 1048576) :
    Calls Tryz.prog 74 #[.pointer (some ⟨b, 0, none⟩), .int .i64 l, .int .i64 id] w fun e w' => e = .returned (.tuple #[]) ∧ SysNext w w' lab b ab tb A (T.assigned l id) S ∧ KeepsRec w w' := by
  have c1 := h.c1
  have HC := Lib.hid (tr_assign tb T l id w h.tr.narrow hno)
  have H := Lib.hid h
  clear h hno
  go_enter Tryz.func74, Tryz.ntmps74
  go_wp2_with fail
  refine HC.out.mono ?_
  rintro e w1 ⟨rfl, hb⟩
  have HN := Lib.hid (H.out.tr_next (hb.wide (fun _ h => h.1) (fun g h => H.out.lt g (by rw [h]; decide))))
  have HK := Lib.hid (show KeepsRec w w1 from fun k o hk h1 h2 => (hb.2.block k (heap_lt hk) (fun e => e.2 ⟨o, hk, h1, h2⟩)).trans hk)
  clear hb c1
  go_wp2_with fail
  go_end0
  exact ⟨rfl, HN.out, HK.out⟩
theorem wa_looked (b ab tb : Nat) (A : Arn) (T : Trl) (S : Wst) (w : World) (lab : Nat → Nat) (h : SysAt w lab b ab tb A T S) :
    Calls Tryz.prog 51 #[.pointer (some ⟨b, 0, none⟩)] w fun e w' => e = .returned (.int .i64 (S.looked : Nat)) ∧ w = w' := by
  have c4 := h.c4
  clear h
  go_enter Tryz.func51, Tryz.ntmps51
  go_wp2_with fail
  go_ret
  exact ⟨rfl, rfl⟩
theorem wa_of (b ab tb : Nat) (A : Arn) (T : Trl) (S : Wst) (l : Int) (w : World) (lab : Nat → Nat) (h : SysAt w lab b ab tb A T S) (hwf : (Lit.int .i64 l).wf = true) :
    Calls Tryz.prog 38 #[.pointer (some ⟨b, 0, none⟩), .int .i64 l] w fun e w' => ∃ v, e = .returned v ∧ w'.ownsRow w.heap.size 3 1 v (S.row l).length ((S.row l).map (Value.int .i64)) ∧ Below w.heap.size w w' := by
  obtain ⟨hb, kb, ob, K, F, tg, hm⟩ := h.wa
  have c3 : w.cell? ⟨b, 3, none⟩ = some (.map (some ob)) := mx_cell (j := 3) hm.block
  have hlk := hm.lookO hwf
  have HC := Lib.hid (clone_i _ _ w (IntsIn.of_own (hm.rowAt l).1) (by have := hb.rowLen l; omega))
  obtain ⟨v, hv⟩ : ∃ v, rowV F l = v := ⟨_, rfl⟩
  rw [hv] at hlk HC
  clear h hb hm hv
  go_enter Tryz.func38, Tryz.ntmps38
  go_wp2_with fail
  refine HC.out.mono ?_
  rintro e w1 ⟨v1, rfl, hr, hb⟩
  have HR := Lib.hid hr
  have HB := Lib.hid hb
  clear hr hb hlk c3
  go_wp2_with fail
  go_ret
  exact ⟨_, rfl, HR.out, HB.out⟩
set_option maxRecDepth 100000 in
set_option maxHeartbeats 2000000 in
theorem wa_remove_none (b ab tb : Nat) (A : Arn) (T : Trl) (S : Wst) (id : Int) (w : World) (lab : Nat → Nat) (h : SysAt w lab b ab tb A T S) (hwf : (Lit.int .i64 id).wf = true) (hk : S.kn id = none) :
    Calls Tryz.prog 34 #[.pointer (some ⟨b, 0, none⟩), .int .i64 id] w fun e w' => e = .returned (.int .i64 130) ∧ w = w' := by
  obtain ⟨hb, kb, ob, K, F, tg, hm⟩ := h.wa
  have c2 : w.cell? ⟨b, 2, none⟩ = some (.map (some kb)) := mx_cell (j := 2) hm.block
  have hlk := hm.lookK hwf
  rw [(hm.knNone hk).2] at hlk
  clear h hb hm hk
  go_enter Tryz.func34, Tryz.ntmps34
  go_wp2_with fail
  go_ret
  exact ⟨rfl, rfl⟩
end Go.Proofs.YtobcnejecogfoaaGreat
namespace Go.Proofs.YtobcnejecogfoaaGreat
open Go.RowKit Go.Maps Go.Shelf

theorem own_get {w : World} {base : Nat} {e : TypeId} {v : Value} {xs : List Int} {j : Nat} {x : Int} (h : w.ownsRow base e 1 v xs.length (xs.map (Value.int .i64))) (hj : xs[j]? = some x) : ∃ g c, v = .slice (some ⟨g, 0, none⟩) xs.length c ∧ g < w.heap.size ∧ w.cell? ⟨g, j, none⟩ = some (.int .i64 x) := by
  have hl := (List.getElem?_eq_some_iff.1 hj).1
  obtain ⟨g, c, cs, hv, _, _, hg, _⟩ := mx_some h (by omega)
  subst hv
  exact ⟨g, c, rfl, hg, mx_at h (by rw [List.getElem?_map, hj]; rfl)⟩
theorem WaMem.widen {O O' : Nat → Prop} {w : World} {b ab tb kb ob : Nat} {S : Wst} {K : List (Int × KnM)} {F : List (Int × OfM)} {tg : Nat → Option WTag} (h : WaMem O w b ab tb S kb ob K F tg) (hO : ∀ g, O g → O' g) (hl : ∀ g, O' g → g < w.heap.size) : WaMem O' w b ab tb S kb ob K F tg :=
  { h with own := hl, inb := hO _ h.inb, ink := hO _ h.ink, ino := hO _ h.ino, intg := fun g t ht => hO g (h.intg g t ht) }
theorem dropAll_snoc (id l : Int) (ls : List Int) : ∀ S : Wst, S.dropAll id (ls ++ [l]) = (S.dropAll id ls).drop l id := by
  induction ls with
  | nil => exact fun S => rfl
  | cons y r ih => exact fun S => ih (S.drop y id)
theorem wpList_delK {w : World} {b : Nat} {m : List (Int × Value)} {ops : Array Oper} {rest : List Oper} {o : Oper} {a : Act} {Q : Exit → Act → World → Prop} (h : MapK w b m)
    (hg : o.guard = none) (mm x : Operand) (hop : o.op = Op.call { callee := Callee.builtin Builtin.delete, args := #[mm, x], argTypes := #[85, 3] }) (hm : a.eval mm = .map (some b)) (i : Int) (hx : a.eval x = .int .i64 i) (hi : (Lit.int .i64 i).wf = true)
    (hK : ∀ w', MapK w' b (delA m i) → w.grownBy w' (some b) → wpList Tryz.prog ops Q rest (a.put o.dst (.tuple #[])) w') : wpList Tryz.prog ops Q (o :: rest) a w :=
  wpList_delS h int_law Tryz.underlying3 Tryz.underlying85 hg mm x hop hm i hx hi hK
set_option maxRecDepth 100000 in
set_option maxHeartbeats 4000000 in
theorem wa_remove_some (b ab tb : Nat) (A : Arn) (T : Trl) (S : Wst) (id : Int) (w : World) (lab : Nat → Nat) (h : SysAt w lab b ab tb A T S) (hwf : (Lit.int .i64 id).wf = true) {k : Kn} (hk : S.kn id = some k) :
    Calls Tryz.prog 34 #[.pointer (some ⟨b, 0, none⟩), .int .i64 id] w fun e w' => e = .returned (.int .i64 0) ∧ SysNext w w' lab b ab tb A T (S.remove id) := by
  have H := Lib.hid h
  obtain ⟨hb, kb, ob, K, F, tg, hm⟩ := h.wa
  have c2 : w.cell? ⟨b, 2, none⟩ = some (.map (some kb)) := mx_cell (j := 2) hm.block
  have hlk := hm.lookK hwf
  obtain ⟨x, hx, rfl, hkx, hkv⟩ := hm.knAt hk
  rw [hkv] at hlk
  have d0 : w.cell? ⟨x.g, 0, none⟩ = some x.bv := mx_cell (j := 0) hkx.block
  obtain ⟨Ab, cb, hbv, _⟩ := mx_slice hkx.by_
  have HBV := Lib.hid hbv
  rw [hbv] at d0
  have HX := Lib.hid hx
  have HM0 := Lib.hid (WaMNext.refl hm (Below.refl _ w))
  have HB := Lib.hid hb
  have HRM := Lib.hid (show S.remove id = (S.dropAll id x.k.by_).del id from by unfold Wst.remove; rw [hk])
  obtain ⟨n, hn⟩ : ∃ n, x.k.by_.length = n := ⟨_, rfl⟩
  have hn2 : n ≤ 2 := by
    rcases (hb.kn hk).2.1 with e | ⟨a, c, _, e, _⟩
    · rw [← hn, e]; simp
    · rw [← hn, e]; simp
  have HLI := Lib.hid (fun y (hy : y ∈ x.k.by_) => wf_lit ((hb.kn hk).2.2.2 y (Kn.by_lits (hb.kn hk).2.1 hy)))
  rw [hn] at d0 hbv
  have HN := Lib.hid hn
  clear h hb hm hk hx hkx hkv hbv hn
  go_enter Tryz.func34, Tryz.ntmps34
  go_wp2_with fail
  go_loopw [24] (fun iv wq => ∃ j : Nat, j ≤ n ∧ iv = .int .i64 j ∧ Hid (WaMNext (fun g => lab g = 3) w wq b ab tb (S.dropAll id (x.k.by_.take j)) kb ob K)) (fun iv _ => n - (intOf iv).toNat)
  case atStart => exact ⟨0, Nat.zero_le _, rfl, HM0⟩
  case round =>
    obtain ⟨j, hj, rfl, HMQ⟩ := hrel
    clear d0 c2 hlk
    by_cases hlt : j < n
    · obtain ⟨y, hy⟩ := getElem_of (l := x.k.by_) (i := j) (by rw [HN.out]; exact hlt)
      obtain ⟨⟨F1, tg1, hm1⟩, hk1⟩ := HMQ.out
      have hkx := hm1.kn _ (getA_some HX.out)
      obtain ⟨g, c, hv, hg, e0⟩ := own_get hkx.by_ hy
      have hv' := HBV.out.symm.trans hv
      simp only [Value.slice.injEq] at hv'
      obtain ⟨rfl, _, rfl⟩ := hv'
      have HD := Lib.hid (wa_drop_m b ab tb _ kb ob K F1 tg1 y id wr (dropAll_bnd id _ HB.out).1 hm1 (HLI.out y (List.mem_of_getElem? hy)))
      have HK1 := Lib.hid hk1
      have HTK := Lib.hid (show S.dropAll id (x.k.by_.take (j + 1)) = (S.dropAll id (x.k.by_.take j)).drop y id from by rw [List.take_add_one, hy]; exact dropAll_snoc _ _ _ _)
      clear hy hm1 hk1 hkx hv
      go_wp2_with fail
      refine HD.out.mono ?_
      rintro e w1 ⟨rfl, hn1⟩
      have HN1 := Lib.hid (WaMNext.trans HK1.out hn1)
      clear hn1 e0
      go_wp2_with fail
      go_roundw
      case rel => exact ⟨j + 1, by omega, by go_num, by rw [HTK.out]; exact HN1⟩
      case measure => simp [intOf]; omega
    · obtain rfl : j = n := by omega
      have hmq := HMQ.out
      rw [List.take_of_length_le (by rw [HN.out]; exact Nat.le_refl _)] at hmq
      obtain ⟨⟨F1, tg1, hm1⟩, hk1⟩ := hmq
      have c2 : wr.cell? ⟨b, 2, none⟩ = some (.map (some kb)) := mx_cell (j := 2) hm1.block
      have HM1 := Lib.hid hm1
      have HK1 := Lib.hid hk1
      clear hm1 hk1
      go_wp2_with (at_delete; go_must (refine wpList_delK HM1.out.kmap rfl _ _ rfl rfl id rfl hwf ?_); intro w2 hm2 hg2)
      have hd := HM1.out.delKn (id := id) ((Kept.grown hg2).mono (fun g _ e => Option.some.inj e)) hm2
      have HW := Lib.hid (show WaNext (fun g => lab g = 3) w w2 b ab tb (S.remove id) from by
        rw [HRM.out]
        refine ⟨⟨(dropAll_bnd id _ HB.out).1.del id, kb, ob, _, _, _, hd.widen (fun g h => h.imp_right (fun h => ⟨h.1, Nat.lt_of_lt_of_le h.2 hg2.size⟩)) (fun g h => h.elim (fun h => hd.own g (.inl h)) (fun h => ?_))⟩, (HK1.out.mono (fun _ _ h => h.1)).trans (Kept.grown hg2) (fun g hg e => ?_)⟩
        · exact h.2
        · obtain rfl := Option.some.inj e
          exact HM1.out.ink.elim (fun h => h) (fun h => by omega))
      clear hm2 hg2 hd c2
      go_wp2_with fail
      go_ret
      exact ⟨rfl, H.out.wa_next HW.out⟩
theorem eachGo_snoc (x : Int) (c : List Int) : ∀ o : List Int, eachGo o (c ++ [x]) = if (eachGo o c).contains x = true then eachGo o c else eachGo o c ++ [x] := by
  induction c with
  | nil => exact fun o => rfl
  | cons y r ih => exact fun o => ih _
theorem eachL_snoc (x : Int) (c : List Int) : eachL (c ++ [x]) = if (eachL c).contains x = true then eachL c else eachL c ++ [x] := eachGo_snoc x c []
set_option maxRecDepth 100000 in
set_option maxHeartbeats 4000000 in
theorem wa_once {O : Nat → Prop} (u : Value) (c : List Int) (w : World) (h : IntsIn O w u c) (hl : c.length ≤ 1000000) :
    Calls Tryz.prog 69 #[u] w fun e w' => ∃ v, e = .returned v ∧ w'.ownsRow w.heap.size 39 1 v (eachL c).length ((eachL c).map (Value.int .i64)) ∧ Below w.heap.size w w' := by
  obtain ⟨i0, hi, hz0, hz1, hz2⟩ := info_parts cinfo_lit
  have HU := Lib.hid h
  obtain ⟨A, k, rfl, _⟩ := h
  obtain ⟨n, hn⟩ : ∃ n, c.length = n := ⟨_, rfl⟩
  rw [hn] at HU hl ⊢
  have HN := Lib.hid hn
  clear hn
  go_enter Tryz.func69, Tryz.ntmps69
  go_wp2_with fail
  go_loopw [3, 8] (fun ov iv wq => ∃ j : Nat, j ≤ n ∧ iv = .int .i64 j ∧ Hid (wq.ownsRow w.heap.size 39 1 ov (eachL (c.take j)).length ((eachL (c.take j)).map (Value.int .i64))) ∧ Hid (Below w.heap.size w wq)) (fun _ iv _ => n - (intOf iv).toNat)
  case atStart => exact ⟨0, Nat.zero_le _, rfl, Lib.hid (World.ownsRow_nil _ _ _ _), Lib.hid (Below.refl _ _)⟩
  case round =>
    obtain ⟨j, hj, rfl, HO, HBQ⟩ := hrel
    by_cases hlt : j < n
    · obtain ⟨y, hy⟩ := getElem_of (l := c) (i := j) (by rw [HN.out]; exact hlt)
      obtain ⟨g, o, rfl, hg, _, e0⟩ : ∃ g o, A = some ⟨g, o, none⟩ ∧ g < w.heap.size ∧ O g ∧ w.cell? ⟨g, o + j, none⟩ = some (.int .i64 y) := by
        obtain ⟨A', c', hv, _, _, hx⟩ := HU.out
        simp only [Value.slice.injEq] at hv
        obtain ⟨rfl, _, rfl⟩ := hv
        exact hx j y hy
      have e1 := (HBQ.out.cell (p := ⟨g, o + j, none⟩) hg).trans e0
      have HTK := Lib.hid (show c.take (j + 1) = c.take j ++ [y] from by rw [List.take_add_one, hy]; rfl)
      have hel := eachL_len (c.take j)
      rw [List.length_take] at hel
      obtain ⟨xs, hxs⟩ : ∃ z, eachL (c.take j) = z := ⟨_, rfl⟩
      rw [hxs] at HO hel
      have hsn : eachL (c.take (j + 1)) = if xs.contains y = true then xs else xs ++ [y] := by rw [HTK.out, eachL_snoc, hxs]
      obtain ⟨Ao, co, rfl, _⟩ := mx_slice HO.out
      have HCT := Lib.hid (contains_l _ xs y wr (IntsIn.of_own HO.out) (by omega))
      have hz := HBQ.out.size
      obtain ⟨q, hq⟩ : ∃ q, xs.contains y = q := ⟨_, rfl⟩
      rw [hq] at hsn HCT
      clear hy e0 hxs hq
      cases q with
      | true =>
        have HSN := Lib.hid (show eachL (c.take (j + 1)) = xs from hsn)
        clear hsn
        go_wp2_with fail
        refine HCT.out.mono ?_
        rintro e w1 ⟨rfl, rfl⟩
        go_wp2_with fail
        go_roundw
        case rel =>
          refine ⟨j + 1, by omega, by go_num, ?_, HBQ⟩
          rw [HSN.out]
          exact HO
        case measure => simp [intOf]; omega
      | false =>
        have HSN := Lib.hid (show eachL (c.take (j + 1)) = xs ++ [y] from hsn)
        clear hsn
        go_wp2_with fail
        refine HCT.out.mono ?_
        rintro e w1 ⟨rfl, rfl⟩
        go_wp2_with (at_builtin; refine wpList_append_own_at _ rfl _ _ 40 rfl w.heap.size 39 i0 (.int .i64 0) 1 8 Tryz.underlying40 hi hz0 hz1 hz2 rfl (by decide) _ xs.length _ rfl (own_below HO.out (mx_al wr _)) ⟨wr.heap.size, 0, none⟩ 1 1 [.int .i64 y] rfl rfl (cell_one_new' _ _ _) (by simp [Value.oneCell']) (by unfold maxLen; omega) (by omega) (by simp; omega) ?_; intro v' w2' hown hgrow hnl2 hat)
        have HO2' := Lib.hid hown
        have HB2' := Lib.hid (HBQ.out.trans (((mx_al wr (.cells #[.int .i64 y] 39)).mono hz).grown hgrow (by simp; omega) (fun g hg => (own_lt HO.out g hg).1)))
        clear hown hgrow hnl2 hat
        go_wp2
        go_roundw
        case rel =>
          refine ⟨j + 1, by omega, by go_num, ?_, HB2'⟩
          rw [HSN.out, List.length_append, List.map_append]
          exact HO2'
        case measure => simp [intOf]; omega
    · obtain rfl : j = n := by omega
      have ho := HO.out
      rw [List.take_of_length_le (by rw [HN.out]; exact Nat.le_refl _)] at ho
      obtain ⟨Ao, co, rfl, _⟩ := mx_slice ho
      have HO2 := Lib.hid ho
      clear ho
      go_wp2_with fail
      go_ret
      exact ⟨_, rfl, HO2.out, HBQ.out⟩
theorem ar_has {O : Nat → Prop} (b : Nat) (A : Arn) (id : Int) (w : World) (h : ArAt O w b A) :
    Calls Tryz.prog 136 #[.pointer (some ⟨b, 0, none⟩), .int .i64 id] w fun e w' => e = .returned (.bool (A.find id).isSome) ∧ Below w.heap.size w w' := by
  have HIS := Lib.hid (ar_is b A w h)
  have hf := ar_find b A id w h
  cases hp : A.find id with
  | none =>
    rw [hp] at hf
    have HF := Lib.hid hf
    clear hf hp h
    go_enter Tryz.func136, Tryz.ntmps136
    go_wp2_with fail
    refine HIS.out.mono ?_
    rintro e w1 ⟨rfl, rfl⟩
    go_wp2_with fail
    refine HF.out.mono ?_
    rintro e w2 ⟨rfl, hb⟩
    have HB := Lib.hid hb
    clear hb
    go_wp2_with fail
    go_ret
    exact ⟨rfl, HB.out⟩
  | some p =>
    rw [hp] at hf
    have HF := Lib.hid hf
    clear hf hp h
    go_enter Tryz.func136, Tryz.ntmps136
    go_wp2_with fail
    refine HIS.out.mono ?_
    rintro e w1 ⟨rfl, rfl⟩
    go_wp2_with fail
    refine HF.out.mono ?_
    rintro e w2 ⟨rfl, hb⟩
    have HB := Lib.hid hb
    have hq : decide ((0 : Int) ≤ (p : Int)) = true := by simp
    clear hb
    simp only [findInt]
    go_wp2_with fail
    go_ret
    exact ⟨rfl, HB.out⟩
end Go.Proofs.YtobcnejecogfoaaGreat
