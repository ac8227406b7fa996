/- A text of words with gaps between: what Scan and Tidy tell of it. -/
import Derived.Test.YtihigfpikiaaiaaDoorPf
import Derived.Test.YtihigfpikiaaiaaDoorMa
import Derived.Test.YtihigfpikiaaiaaDoorRj
namespace Go.Proofs.YtihigfpikiaaiaaDoor
open Go.RowKit

theorem flat_places (T : ByteArray) (ps : List (List UInt8 × List UInt8)) (a f : Nat) (ha : a ≤ T.size) (h : T.data.toList.drop a = Tk.flat ps) (hg : Tk.Good ps) (hf : T.size < f + a) :
    places T f a = Tk.posOf a ps ++ [T.size] ∧ (∀ (i : Nat) (g w : List UInt8) (p : Nat), ps[i]? = some (g, w) → (Tk.posOf a ps)[i]? = some p → tkEnd T p = p + w.length ∧ 1 ≤ tkKind T p ∧ tkKind T p ≤ 4 ∧ (T.data.toList.drop p).take w.length = w ∧ p + w.length ≤ T.size) := by
  induction ps generalizing a f with
  | nil =>
    have hs : a = T.size := by
      have := congrArg List.length h
      rw [List.length_drop, size_list] at this
      simp only [Tk.flat, List.length_nil] at this
      omega
    cases f with
    | zero => omega
    | succ f =>
      refine ⟨?_, fun i g w p hi => by simp at hi⟩
      have hsk : skipTo T a = a := by unfold skipTo; rw [h]; simp [Tk.flat, Tk.bl]
      simp only [places]
      rw [hsk, hs, tkKind_end, if_pos rfl]
      rfl
  | cons q ps ih =>
    obtain ⟨g, w⟩ := q
    obtain ⟨g1, ⟨k, k1, k2, k3, k4, k5⟩, g3, g4⟩ := hg
    cases f with
    | zero => omega
    | succ f =>
      have hlen := congrArg List.length h
      rw [List.length_drop, size_list] at hlen
      simp only [Tk.flat, List.length_append] at hlen
      have hsk : skipTo T a = a + g.length := by
        unfold skipTo
        rw [h]
        simp only [Tk.flat]
        rw [g1, k5]
        rfl
      have hd1 : T.data.toList.drop (a + g.length) = w ++ Tk.flat ps := by
        rw [← List.drop_drop, h]
        simp only [Tk.flat]
        rw [List.drop_left]
      have ht : Tk.tok (T.data.toList.drop (a + g.length)) = (k, w.length) := by rw [hd1]; exact k4 _ g3
      have e1 : tkKind T (a + g.length) = k := by unfold tkKind; rw [ht]
      have e2 : tkEnd T (a + g.length) = a + g.length + w.length := by unfold tkEnd; rw [ht]
      have hd2 : T.data.toList.drop (a + g.length + w.length) = Tk.flat ps := by
        rw [← List.drop_drop, hd1, List.drop_left]
      obtain ⟨i1, i2⟩ := ih (a + g.length + w.length) f (by omega) hd2 g4 (by omega)
      refine ⟨?_, fun i g' w' p hi hp => ?_⟩
      · simp only [places]
        rw [hsk, e1, if_neg (by omega), e2, i1]
        rfl
      · cases i with
        | zero =>
          simp only [List.getElem?_cons_zero, Option.some.injEq, Prod.mk.injEq] at hi
          obtain ⟨rfl, rfl⟩ := hi
          simp only [Tk.posOf, List.getElem?_cons_zero, Option.some.injEq] at hp
          subst hp
          refine ⟨e2, by omega, by omega, ?_, by omega⟩
          rw [hd1, List.take_left]
        | succ i =>
          exact i2 i g' w' p (by simpa using hi) (by simpa [Tk.posOf] using hp)
theorem posOf_len (a : Nat) (ps : List (List UInt8 × List UInt8)) : (Tk.posOf a ps).length = ps.length := by
  induction ps generalizing a with
  | nil => rfl
  | cons q ps ih => obtain ⟨g, w⟩ := q; simp only [Tk.posOf, List.length_cons, ih]
/-- what Scan tells of words with gaps -/
theorem flat_scan (T : ByteArray) (ps : List (List UInt8 × List UInt8)) (h : T.data.toList = Tk.flat ps) (hg : Tk.Good ps) :
    scanErr T = 0 ∧ stopAt T = T.size ∧ scanL T = Tk.posOf 0 ps := by
  obtain ⟨h1, _⟩ := flat_places T ps 0 (T.size + 1) (by omega) (by simpa using h) hg (by omega)
  rw [(places_eq T).1] at h1
  obtain ⟨h2, h3⟩ := List.append_inj' h1 rfl
  simp only [List.cons.injEq, and_true] at h3
  refine ⟨by unfold scanErr; rw [h3, if_neg (by omega)], h3, ?_⟩
  unfold scanL
  rw [h3, if_neg (by omega), h2]
/-- .. and each token's text is the word -/
theorem flat_tok (T : ByteArray) (ps : List (List UInt8 × List UInt8)) (h : T.data.toList = Tk.flat ps) (hg : Tk.Good ps) (i : Nat) (g w : List UInt8) (p : Nat) (hi : ps[i]? = some (g, w)) (hp : (Tk.posOf 0 ps)[i]? = some p) :
    tkEnd T p = p + w.length ∧ 1 ≤ tkKind T p ∧ tkKind T p ≤ 4 ∧ (tokS T p).data.toList = w ∧ p + w.length ≤ T.size := by
  obtain ⟨_, h2⟩ := flat_places T ps 0 (T.size + 1) (by omega) (by simpa using h) hg (by omega)
  obtain ⟨a1, a2, a3, a4, a5⟩ := h2 i g w p hi hp
  refine ⟨a1, a2, a3, ?_, a5⟩
  unfold tokS
  rw [a1, Lib.extract_data]
  rw [show p + w.length - p = w.length by omega]
  exact a4
theorem flat_tidy (T : ByteArray) (ps : List (List UInt8 × List UInt8)) (h : T.data.toList = Tk.flat ps) (hg : Tk.Good ps) : tidyL T = Lib.join (ps.map (·.2)) [32] := by
  unfold tidyL
  rw [(flat_scan T ps h hg).2.2]
  congr 1
  apply List.ext_getElem?
  intro i
  rw [List.getElem?_map, List.getElem?_map]
  rcases Nat.lt_or_ge i ps.length with hl | hl
  · obtain ⟨p, hp⟩ : ∃ p, (Tk.posOf 0 ps)[i]? = some p := ⟨_, List.getElem?_eq_getElem (by rw [posOf_len]; exact hl)⟩
    obtain ⟨q, hq⟩ : ∃ q, ps[i]? = some q := ⟨_, List.getElem?_eq_getElem hl⟩
    obtain ⟨g, w⟩ := q
    rw [hp, hq]
    simp only [Option.map_some, Option.some.injEq]
    exact (flat_tok T ps h hg i g w p hq hp).2.2.2.1
  · rw [List.getElem?_eq_none hl, List.getElem?_eq_none (by rw [posOf_len]; exact hl)]
    rfl
end Go.Proofs.YtihigfpikiaaiaaDoor
