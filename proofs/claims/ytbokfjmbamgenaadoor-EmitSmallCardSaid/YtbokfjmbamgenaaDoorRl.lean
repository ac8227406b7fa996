/- What the walk of salvorlaw17.plays keeps. -/
import Derived.Test.YtbokfjmbamgenaaDoorPa
import Derived.Test.YtbokfjmbamgenaaDoorRk
import Derived.Test.YtbokfjmbamgenaaDoorMr
namespace Go.Proofs.YtbokfjmbamgenaaDoor
open Go.RowKit

/-- a call of EmitPlays -/
structure Call17 where
  forget : Bool
  lits : List Int
  ids : List Int
def Call17.Fits (x : Call17) : Prop := x.lits.length ≤ 10 ∧ x.ids.length ≤ 20
/-- a slice of calls that reads so -/
def ActsAt (w : World) (v : Value) (al : List Call17) : Prop :=
  ∃ A c, v = .slice A al.length c ∧ al.length ≤ c ∧ (A = none → c = 0) ∧ ∀ i a, al[i]? = some a → ∃ g o lv iv, A = some ⟨g, o, none⟩ ∧ g < w.heap.size ∧ w.cell? ⟨g, o + i * 3, none⟩ = some (.bool a.forget) ∧ w.cell? ⟨g, o + i * 3 + 1, none⟩ = some lv ∧ w.cell? ⟨g, o + i * 3 + 2, none⟩ = some iv ∧ RowAt .i64 w lv a.lits ∧ RowAt .i64 w iv a.ids
theorem ActsAt.below {w w' : World} {v : Value} {al : List Call17} (h : ActsAt w v al) (hb : Below w.heap.size w w') : ActsAt w' v al := by
  obtain ⟨A, c, hv, hc, hn, hx⟩ := h
  refine ⟨A, c, hv, hc, hn, fun i a hi => ?_⟩
  obtain ⟨g, o, lv, iv, h1, h2, h3, h4, h5, h6, h7⟩ := hx i a hi
  exact ⟨g, o, lv, iv, h1, Nat.lt_of_lt_of_le h2 hb.size, (hb.cell (p := ⟨g, o + i * 3, none⟩) h2).trans h3, (hb.cell (p := ⟨g, o + i * 3 + 1, none⟩) h2).trans h4, (hb.cell (p := ⟨g, o + i * 3 + 2, none⟩) h2).trans h5, h6.below hb, h7.below hb⟩
/-- a block of at least n cells that may be written -/
def Wri (w : World) (g n : Nat) : Prop := ∃ cs t, w.heap[g]? = some (.cells cs t (0, 0)) ∧ n ≤ cs.size
theorem Wri.cell {w : World} {g n : Nat} (h : Wri w g n) {i : Nat} (hi : i < n) : (∃ v, w.cell? ⟨g, i, none⟩ = some v) ∧ w.frozen? ⟨g, i, none⟩ = false := by
  obtain ⟨cs, t, h1, h2⟩ := h
  refine ⟨⟨cs[i]'(by omega), ?_⟩, free_of_block h1⟩
  rw [cell_of_block h1]
  exact Array.getElem?_eq_getElem (by omega)
theorem Wri.set {w : World} {g n : Nat} (h : Wri w g n) (b j : Nat) (v : Value) : Wri (w.setCell ⟨b, j, none⟩ v) g n := by
  obtain ⟨cs, t, h1, h2⟩ := h
  by_cases hb : g = b
  · subst hb
    exact ⟨_, t, block_set h1 v, by simpa using h2⟩
  · exact ⟨cs, t, (Below.heap_setCell _ _ _ _ hb).trans h1, h2⟩
theorem Wri.kept {O : Nat → Prop} {w w' : World} {g n : Nat} (h : Wri w g n) (k : Kept O w w') (hO : ¬ O g) : Wri w' g n := by
  obtain ⟨cs, t, h1, h2⟩ := h
  exact ⟨cs, t, (k.block g (heap_lt h1) hO).trans h1, h2⟩
theorem Wri.below {w w' : World} {g n : Nat} (h : Wri w g n) (k : Below w.heap.size w w') : Wri w' g n := h.kept (O := fun _ => False) (Kept.of_below k) (fun h => h)
theorem wri_own {w : World} {base n : Nat} {e : TypeId} {v : Value} {xs : List Value} (h : w.ownsRow base e 1 v n xs) : (v = .slice none 0 0 ∧ n = 0) ∨ ∃ g c, v = .slice (some ⟨g, 0, none⟩) n c ∧ n ≤ c ∧ base ≤ g ∧ g < w.heap.size ∧ Wri w g n ∧ ∃ cs, w.heap[g]? = some (.cells cs e (0, 0)) := by
  rcases h.2 with h0 | ⟨g, cap, cur, hv, hb, hg, hle, _, hs, _⟩
  · exact .inl h0
  · exact .inr ⟨g, cap, hv, hle, hb, heap_lt hg, ⟨cur, e, hg, by omega⟩, cur, hg⟩
theorem rsteps_lt {O : Nat → Prop} {w : World} {v : Value} {l : List EStep} {ms : List MStep} (h : RStepsAt O w v l ms) : RStepsAt (fun g => O g ∧ g < w.heap.size) w v l ms :=
  ⟨h.form, h.steps, fun j u hj => by
    obtain ⟨g, c, h1, h2, h3, h4⟩ := h.cells j u hj
    exact ⟨g, c, h1, h2, ⟨h3, h2⟩, h4⟩, fun m hm => ⟨ints_lt (h.each m hm).1, ints_lt (h.each m hm).2⟩⟩
theorem LogIn.fresh {X : Nat → Prop} {B : Nat} {w w' : World} {b : Nat} {L : ELog} (h : LogIn X B w b L) (hb : Below w.heap.size w w') : LogIn (fun g => X g ∨ w.heap.size ≤ g ∧ g < w'.heap.size) B w' b L := by
  have hs := hb.size
  refine ⟨(h.1.below hb).mono (fun g hg => ⟨hg.1, by omega, fun hx => ?_⟩) (fun g hg => hg.2.1), h.2.1, Nat.le_trans h.2.2 hs⟩
  rcases hx with hx | hx
  · exact hg.2.2 hx
  · omega
theorem LogIn.keptX {X O' : Nat → Prop} {B : Nat} {w w' : World} {b : Nat} {L : ELog} (h : LogIn X B w b L) (k : Kept O' w w') (hO : ∀ g, O' g → g < w.heap.size → X g) : LogIn (fun g => X g ∨ w.heap.size ≤ g ∧ g < w'.heap.size) B w' b L := by
  have hs := k.size
  refine ⟨(h.1.kept (k.mono (O' := fun g => O' g ∧ g < w.heap.size) (fun g hg ho => ⟨ho, hg⟩)) (fun g hg ho => hg.2.2 (hO g ho.1 ho.2))).mono (fun g hg => ⟨hg.1, by omega, fun hx => ?_⟩) (fun g hg => hg.2.1), h.2.1, Nat.le_trans h.2.2 hs⟩
  rcases hx with hx | hx
  · exact hg.2.2 hx
  · omega
/-- what a round keeps: the log in its own blocks, the reference's log in others, both saying the same -/
structure Play (B p7 b : Nat) (w0 : World) (k : Nat) (X : Nat → Prop) (L : ELog) (R : RLog) (tv stv : Value) (w : World) : Prop where
  log : LogIn X B w b L
  alike : Alike L R
  within : Within L k 20
  inx : X p7
  block : w.heap[p7]? = some (.cells #[tv, .int .i64 R.last, stv, .bool R.done] 62 (0, 0))
  ref : RLogAt (fun g => g < B ∨ X g ∧ g ≠ p7) w tv stv R
  lim : ∀ g, X g → B ≤ g ∧ g < w.heap.size
  below : Below B w0 w
def PlayInv (B p7 b : Nat) (w0 : World) (k : Nat) (w : World) : Prop := ∃ X L R tv stv, Play B p7 b w0 k X L R tv stv w
theorem Play.next {B p7 b k : Nat} {w0 : World} {X : Nat → Prop} {L : ELog} {R : RLog} {tv stv : Value} {w w' : World} (h : Play B p7 b w0 k X L R tv stv w) (hb : Below w.heap.size w w') : Play B p7 b w0 k (fun g => X g ∨ w.heap.size ≤ g ∧ g < w'.heap.size) L R tv stv w' where
  log := h.log.fresh hb
  alike := h.alike
  within := h.within
  inx := .inl h.inx
  block := (hb.block p7 (h.lim p7 h.inx).2).trans h.block
  ref := (h.ref.below hb).mono (fun g hg => hg.imp id (fun h => ⟨.inl h.1, h.2⟩))
  lim := fun g hg => by
    have hs := hb.size
    have hB := h.log.size
    rcases hg with hg | hg
    · have := h.lim g hg
      omega
    · omega
  below := h.below.trans (hb.mono h.log.size)
/-- mutation of blocks that are in X and none of the reference's -/
theorem Play.mut {B p7 b k : Nat} {w0 : World} {X M : Nat → Prop} {L : ELog} {R : RLog} {tv stv : Value} {w w' : World} (h : Play B p7 b w0 k X L R tv stv w) (hk : Kept M w w') (hM : ∀ g, M g → g < w.heap.size → X g ∧ B ≤ g ∧ g ≠ p7) (hR : RLogAt (fun g => g < B ∨ X g ∧ g ≠ p7 ∧ ¬ M g) w tv stv R) :
    Play B p7 b w0 k (fun g => X g ∨ w.heap.size ≤ g ∧ g < w'.heap.size) L R tv stv w' where
  log := h.log.keptX hk (fun g hg hl => (hM g hg hl).1)
  alike := h.alike
  within := h.within
  inx := .inl h.inx
  block := ((hk.mono (O' := fun g => M g ∧ g < w.heap.size) (fun g hg hm => ⟨hm, hg⟩)).block p7 (h.lim p7 h.inx).2 (fun hm => (hM p7 hm.1 hm.2).2.2 rfl)).trans h.block
  ref := (hR.kept (hk.mono (O' := fun g => M g ∧ g < w.heap.size) (fun g hg hm => ⟨hm, hg⟩)) (fun g hg hm => by
    rcases hg with hg | hg
    · have := (hM g hm.1 hm.2).2.1
      omega
    · exact hg.2.2 hm.1)).mono (fun g hg => hg.imp id (fun h => ⟨.inl h.1, h.2.1⟩))
  lim := fun g hg => by
    have hs := hk.size
    have hB := h.log.size
    rcases hg with hg | hg
    · have := h.lim g hg
      omega
    · omega
  below := h.below.trans ((hk.mono (O' := fun g => M g ∧ g < w.heap.size) (fun g hg hm => ⟨hm, hg⟩)).below (fun g hg => (hM g hg.1 hg.2).2.1) h.log.size)
/-- both logs have been called; the reference's log is laid back -/
theorem play_mid {B p7 b k : Nat} {w0 wr wF wG wH : World} {X X1 : Nat → Prop} {L L2 : ELog} {R R2 : RLog} {tv stv tv2 stv2 : Value} (h : Play B p7 b w0 k X1 L R tv stv wF) (hXr : ∀ g, wr.heap.size ≤ g → g < wF.heap.size → X1 g) (hX1 : ∀ g, X g → X1 g) (hXl : ∀ g, X g → g < wr.heap.size)
    (hp7 : p7 < wr.heap.size) (hrF : wr.heap.size ≤ wF.heap.size) (hX1r : ∀ g, B ≤ g → g < wF.heap.size → ¬ X1 g → g < wr.heap.size)
    (hl : LogIn X1 B wG b L2) (hk : Kept (fun g => B ≤ g ∧ g < wF.heap.size ∧ ¬ X1 g) wF wG) (hb : Below wG.heap.size wG wH) (hR2 : RLogAt (fun g => g < B ∨ X g ∧ g ≠ p7 ∨ wG.heap.size ≤ g) wH tv2 stv2 R2) (hal : Alike L2 R2) (hwi : Within L2 (k + 1) 20) :
    ∃ X2, Play B p7 b w0 (k + 1) X2 L2 R2 tv2 stv2 ((((wH.setCell ⟨p7, 0, none⟩ tv2).setCell ⟨p7, 1, none⟩ (.int .i64 R2.last)).setCell ⟨p7, 2, none⟩ stv2).setCell ⟨p7, 3, none⟩ (.bool R2.done)) ∧
      RLogAt (fun g => g < B ∨ X2 g ∧ g ≠ p7 ∧ ¬ (wr.heap.size ≤ g ∧ g < wF.heap.size)) ((((wH.setCell ⟨p7, 0, none⟩ tv2).setCell ⟨p7, 1, none⟩ (.int .i64 R2.last)).setCell ⟨p7, 2, none⟩ stv2).setCell ⟨p7, 3, none⟩ (.bool R2.done)) tv2 stv2 R2 ∧
      (∀ g, wr.heap.size ≤ g → g < wF.heap.size → X2 g) ∧ Kept (fun g => B ≤ g ∧ g < wr.heap.size) wF ((((wH.setCell ⟨p7, 0, none⟩ tv2).setCell ⟨p7, 1, none⟩ (.int .i64 R2.last)).setCell ⟨p7, 2, none⟩ stv2).setCell ⟨p7, 3, none⟩ (.bool R2.done)) := by
  have hblk := (hb.block p7 (by have := hk.size; omega)).trans ((hk.block p7 (by omega) (fun hh => hh.2.2 h.inx)).trans h.block)
  have hblk2 := block_set (j := 3) (block_set (j := 2) (block_set (j := 1) (block_set (j := 0) hblk tv2) (.int .i64 R2.last)) stv2) (.bool R2.done)
  have hkH : Kept (fun g => g = p7) wH ((((wH.setCell ⟨p7, 0, none⟩ tv2).setCell ⟨p7, 1, none⟩ (.int .i64 R2.last)).setCell ⟨p7, 2, none⟩ stv2).setCell ⟨p7, 3, none⟩ (.bool R2.done)) := ((((Kept.refl (fun g => g = p7) wH).setCell ⟨p7, 0, none⟩ _ rfl).setCell ⟨p7, 1, none⟩ _ rfl).setCell ⟨p7, 2, none⟩ _ rfl).setCell ⟨p7, 3, none⟩ _ rfl
  obtain ⟨wI, hwI⟩ : ∃ x, ((((wH.setCell ⟨p7, 0, none⟩ tv2).setCell ⟨p7, 1, none⟩ (.int .i64 R2.last)).setCell ⟨p7, 2, none⟩ stv2).setCell ⟨p7, 3, none⟩ (.bool R2.done)) = x := ⟨_, rfl⟩
  rw [hwI] at hkH hblk2 ⊢
  have hp7B := (h.lim p7 h.inx).1
  have hs1 := hk.size
  have hs2 := hb.size
  have hs3 := hkH.size
  have hGI : Kept (fun g => g = p7) wG wI := (Kept.of_below (O := fun g => g = p7) hb).trans hkH (fun i _ h => h)
  have hFI : Kept (fun g => B ≤ g ∧ g < wr.heap.size) wF wI := (hk.mono (O' := fun g => B ≤ g ∧ g < wr.heap.size) (fun g hg hh => ⟨hh.1, hX1r g hh.1 hh.2.1 hh.2.2⟩)).trans hGI (fun g hg e => by subst e; exact ⟨hp7B, hp7⟩)
  have hRI : RLogAt (fun g => g < B ∨ X g ∧ g ≠ p7 ∨ wG.heap.size ≤ g) wI tv2 stv2 R2 := hR2.kept hkH (fun g hg e => by
    subst e
    rcases hg with hg | hg | hg
    · omega
    · exact hg.2 rfl
    · omega)
  refine ⟨fun g => X1 g ∨ wG.heap.size ≤ g ∧ g < wI.heap.size, ⟨hl.keptX hGI (fun g hg _ => by subst hg; exact h.inx), hal, hwi, .inl h.inx, hblk2, ?_, fun g hg => ?_, ?_⟩, ?_, fun g h1 h2 => .inl (hXr g h1 h2), hFI⟩
  · obtain ⟨t1, ms, t2⟩ := hRI
    have hlt : ∀ g, (g < B ∨ X g ∧ g ≠ p7 ∨ wG.heap.size ≤ g) ∧ g < wI.heap.size → g < B ∨ (X1 g ∨ wG.heap.size ≤ g ∧ g < wI.heap.size) ∧ g ≠ p7 := fun g hg => by
      rcases hg.1 with h1 | h1 | h1
      · exact .inl h1
      · exact .inr ⟨.inl (hX1 g h1.1), h1.2⟩
      · exact .inr ⟨.inr ⟨h1, hg.2⟩, by omega⟩
    exact ⟨(ints_lt t1).mono hlt, ms, (rsteps_lt t2).mono hlt⟩
  · rcases hg with hg | hg
    · have := h.lim g hg
      omega
    · have := h.log.size
      omega
  · exact h.below.trans (hFI.below (fun g hg => hg.1) h.log.size)
  · obtain ⟨t1, ms, t2⟩ := hRI
    have hlt : ∀ g, (g < B ∨ X g ∧ g ≠ p7 ∨ wG.heap.size ≤ g) ∧ g < wI.heap.size → g < B ∨ (X1 g ∨ wG.heap.size ≤ g ∧ g < wI.heap.size) ∧ g ≠ p7 ∧ ¬ (wr.heap.size ≤ g ∧ g < wF.heap.size) := fun g hg => by
      rcases hg.1 with h1 | h1 | h1
      · exact .inl h1
      · exact .inr ⟨.inl (hX1 g h1.1), h1.2, fun hh => by have := hXl g h1.1; omega⟩
      · exact .inr ⟨.inr ⟨h1, hg.2⟩, by omega, by omega⟩
    exact ⟨(ints_lt t1).mono hlt, ms, (rsteps_lt t2).mono hlt⟩
/-- the rows of steps may be written -/
def WriAll (ms : List MStep) (w : World) : Prop := ∀ m ∈ ms, (∀ g, m.lv.ownBlock = some g → Wri w g m.s.lits.length) ∧ (∀ g, m.hv.ownBlock = some g → Wri w g m.s.hints.length)
theorem WriAll.below {ms : List MStep} {w w' : World} (h : WriAll ms w) (hb : Below w.heap.size w w') : WriAll ms w' := fun m hm => ⟨fun g hg => ((h m hm).1 g hg).below hb, fun g hg => ((h m hm).2 g hg).below hb⟩
theorem WriAll.set {ms : List MStep} {w : World} (h : WriAll ms w) (b j : Nat) (v : Value) : WriAll ms (w.setCell ⟨b, j, none⟩ v) := fun m hm => ⟨fun g hg => ((h m hm).1 g hg).set b j v, fun g hg => ((h m hm).2 g hg).set b j v⟩
theorem wri_own_block {w : World} {base n : Nat} {e : TypeId} {v : Value} {xs : List Value} (h : w.ownsRow base e 1 v n xs) : ∀ g, v.ownBlock = some g → Wri w g n := by
  intro g hg
  rcases wri_own h with ⟨rfl, _⟩ | ⟨g', c, rfl, _, _, _, hw, _⟩
  · cases hg
  · obtain rfl : g' = g := Option.some.inj hg
    exact hw
theorem wriAll_of {O : Nat → Prop} {w : World} {v : Value} {l : List EStep} {ms : List MStep} (h : StepsAt O w v l ms) : WriAll ms w := fun m hm => ⟨wri_own_block (h.each m hm).lits, wri_own_block (h.each m hm).hints⟩
theorem own_some {w : World} {base size n : Nat} {e : TypeId} {v : Value} {xs : List Value} (h : w.ownsRow base e size v n xs) (hn : 0 < n) : ∃ g c, v = .slice (some ⟨g, 0, none⟩) n c ∧ n ≤ c ∧ base ≤ g ∧ g < w.heap.size ∧ ∃ cs, w.heap[g]? = some (.cells cs e (0, 0)) := by
  rcases h.2 with ⟨_, h0⟩ | ⟨g, cap, cur, hv, hb, hg, hle, _⟩
  · omega
  · exact ⟨g, cap, hv, hle, hb, heap_lt hg, cur, hg⟩
theorem play_text {L : ELog} {k : Nat} (h : L.Inv) (hw : Within L k 20) (hk : k ≤ 30) : (proofT L.steps).length ≤ 16777216 := by
  have h1 : ∀ s ∈ L.steps, (stepT s).length ≤ 500000 := by
    intro s hs
    have hok := h.proof.each s hs
    obtain ⟨r1, r2, r3, r4⟩ := stepOk_rng hok
    have l1 := numsT_len s.lits r2
    have l2 := numsT_len s.hints r3
    have l3 := itoa_len s.id r1
    have l4 := numT_len 0 ⟨by decide, by decide⟩
    have l5 := hw.hints s hs
    have l6 : s.hints.length ≤ 600 := Nat.le_trans l5 (by omega)
    unfold stepT
    simp only [List.length_append]
    split
    · simp only [List.length_cons, List.length_nil]
      omega
    · simp only [List.length_append]
      omega
  have h2 : ∀ l : List EStep, (∀ s ∈ l, (stepT s).length ≤ 500000) → (proofT l).length ≤ l.length * 500001 := by
    intro l hl
    induction l with
    | nil => exact Nat.zero_le _
    | cons s l ih =>
      have i1 := ih (fun x hx => hl x (List.mem_cons_of_mem _ hx))
      have i2 := hl s List.mem_cons_self
      show ((stepT s ++ [10]) ++ proofT l).length ≤ _
      simp only [List.length_append, List.length_cons, List.length_nil]
      omega
  have := h2 _ h1
  have := hw.steps
  omega
end Go.Proofs.YtbokfjmbamgenaaDoor
