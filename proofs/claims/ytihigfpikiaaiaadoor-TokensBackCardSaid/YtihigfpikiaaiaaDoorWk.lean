/- The walk of Tidy. -/
import Derived.Test.YtihigfpikiaaiaaDoorWj
namespace Go.Proofs.YtihigfpikiaaiaaDoor
open Go.RowKit

/-- a slice of tokens at places, as memory holds it -/
def Toks (s : ByteArray) (w : World) (A : Option Addr) (c : Nat) (l : List Nat) : Prop :=
  l.length ≤ c ∧ (l = [] → A = none ∧ c = 0) ∧ ∀ i p, l[i]? = some p → ∃ g, A = some ⟨g, 0, none⟩ ∧ g < w.heap.size ∧
    w.cell? ⟨g, i * 3, none⟩ = some (.int .u8 (tkKind s p : Nat)) ∧ w.cell? ⟨g, i * 3 + 1, none⟩ = some (.int .i64 (p : Int)) ∧ w.cell? ⟨g, i * 3 + 2, none⟩ = some (.int .i64 (tkEnd s p : Nat))
theorem tcells_at (s : ByteArray) (l : List Nat) (i p : Nat) (h : l[i]? = some p) : (tcells s l)[i * 3]? = some (.int .u8 (tkKind s p : Nat)) ∧ (tcells s l)[i * 3 + 1]? = some (.int .i64 (p : Int)) ∧ (tcells s l)[i * 3 + 2]? = some (.int .i64 (tkEnd s p : Nat)) := by
  induction l generalizing i with
  | nil => simp at h
  | cons q l ih =>
    cases i with
    | zero =>
      simp only [List.getElem?_cons_zero, Option.some.injEq] at h
      subst h
      exact ⟨rfl, rfl, rfl⟩
    | succ i =>
      have := ih i (by simpa using h)
      have e : tcells s (q :: l) = [.int .u8 (tkKind s q : Nat), .int .i64 (q : Int), .int .i64 (tkEnd s q : Nat)] ++ tcells s l := by simp [tcells]
      rw [e]
      refine ⟨?_, ?_, ?_⟩
      · rw [List.getElem?_append_right (by simp; omega)]
        have h3 : (i + 1) * 3 - [Value.int .u8 (tkKind s q : Nat), .int .i64 (q : Int), .int .i64 (tkEnd s q : Nat)].length = i * 3 := by simp; omega
        rw [h3]; exact this.1
      · rw [List.getElem?_append_right (by simp; omega)]
        have h3 : (i + 1) * 3 + 1 - [Value.int .u8 (tkKind s q : Nat), .int .i64 (q : Int), .int .i64 (tkEnd s q : Nat)].length = i * 3 + 1 := by simp; omega
        rw [h3]; exact this.2.1
      · rw [List.getElem?_append_right (by simp; omega)]
        have h3 : (i + 1) * 3 + 2 - [Value.int .u8 (tkKind s q : Nat), .int .i64 (q : Int), .int .i64 (tkEnd s q : Nat)].length = i * 3 + 2 := by simp; omega
        rw [h3]; exact this.2.2
theorem Toks.of_own {s : ByteArray} {w : World} {base : Nat} {v : Value} {l : List Nat} (h : w.ownsRow base 29 3 v l.length (tcells s l)) (hn : v = .slice none 0 0 ↔ l = []) : ∃ A c, v = .slice A l.length c ∧ Toks s w A c l := by
  by_cases hl : l = []
  · subst hl
    exact ⟨none, 0, hn.2 rfl, by simp, fun _ => ⟨rfl, rfl⟩, fun i p hi => by simp at hi⟩
  · rcases h.2 with ⟨e, _⟩ | ⟨g, cap, cur, rfl, _, hg, hle, _⟩
    · exact absurd (hn.1 e) hl
    · have hc := h.cells (g := g) rfl
      have e : ∀ j, (⟨g, 0, none⟩ : Addr).add j = ⟨g, j, none⟩ := fun j => by unfold Addr.add; split <;> simp_all
      refine ⟨_, cap, rfl, hle, fun h => absurd h hl, fun i p hi => ⟨g, rfl, heap_lt hg, ?_, ?_, ?_⟩⟩
      · have := hc _ _ (tcells_at s l i p hi).1; rwa [e] at this
      · have := hc _ _ (tcells_at s l i p hi).2.1; rwa [e] at this
      · have := hc _ _ (tcells_at s l i p hi).2.2; rwa [e] at this
theorem Toks.below {s : ByteArray} {w w' : World} {A : Option Addr} {c : Nat} {l : List Nat} (h : Toks s w A c l) (hb : Below w.heap.size w w') : Toks s w' A c l :=
  ⟨h.1, h.2.1, fun i p hi => by
    obtain ⟨g, hA, hg, c0, c1, c2⟩ := h.2.2 i p hi
    exact ⟨g, hA, Nat.lt_of_lt_of_le hg hb.size, (hb.cell (p := ⟨g, i * 3, none⟩) hg).trans c0, (hb.cell (p := ⟨g, i * 3 + 1, none⟩) hg).trans c1, (hb.cell (p := ⟨g, i * 3 + 2, none⟩) hg).trans c2⟩⟩
theorem scan_toks (s : ByteArray) (hs : s.size ≤ 65536) (w : World) :
    Calls Tryd.prog 11 #[.string s] w fun e W' => ∃ (A : Option Addr) (c : Nat), e = .returned (.tuple #[.slice A (scanL s).length c, .int .i64 (stopAt s : Nat), .int .i64 (scanErr s : Nat)]) ∧ Toks s W' A c (scanL s) ∧ Below w.heap.size w W' :=
  (scan_any s hs w).mono fun _ _ ⟨v, he, hr, hn, hb⟩ => by
    obtain ⟨A, c, hv, hT⟩ := Toks.of_own hr hn
    subst hv
    exact ⟨A, c, he, hT, hb⟩

theorem places_le (s : ByteArray) (f a : Nat) (ha : a ≤ s.size) : ∀ x ∈ places s f a, x ≤ s.size := by
  induction f generalizing a with
  | zero => simp [places]
  | succ f ih =>
    have hp := skipTo_le s a ha
    simp only [places]
    split
    · simp [hp]
    · intro x hx
      rcases List.mem_cons.1 hx with rfl | hx
      · exact hp
      · exact ih _ (tkEnd_le s _ hp) x hx
theorem scanL_le (s : ByteArray) : ∀ x ∈ scanL s, x ≤ s.size := by
  intro x hx
  unfold scanL at hx
  split at hx
  · simp at hx
  · exact places_le s _ 0 (by omega) x (List.mem_filter.1 hx).1
theorem scanL_len (s : ByteArray) : (scanL s).length ≤ s.size := by
  unfold scanL
  split
  · simp
  · exact tokensOf_len s

/-- the bytes of a token -/
def tokS (s : ByteArray) (p : Nat) : ByteArray := s.extract p (tkEnd s p)
theorem tokS_len (s : ByteArray) (p : Nat) : (tokS s p).data.toList.length ≤ s.size := by
  unfold tokS
  rw [size_list]
  simp
  omega
/-- Tidy: the text -/
def tidyL (s : ByteArray) : List UInt8 := Lib.join ((scanL s).map fun p => (tokS s p).data.toList) [32]
theorem join_len (xs : List (List UInt8)) (n : Nat) (h : ∀ x ∈ xs, x.length ≤ n) : (Lib.join xs [32]).length ≤ xs.length * (n + 1) := by
  cases xs with
  | nil => simp [Lib.join_nil]
  | cons x r =>
    rw [Lib.join_cons, List.length_append]
    have h2 : ∀ r : List (List UInt8), (∀ y ∈ r, y.length ≤ n) → (Lib.joinTail [32] r).length ≤ r.length * (n + 1) := by
      intro r
      induction r with
      | nil => intro _; simp [Lib.joinTail]
      | cons y r ih =>
        intro hr
        have := ih (fun z hz => hr z (by simp [hz]))
        have hy := hr y (by simp)
        unfold Lib.joinTail at *
        simp only [List.map_cons, List.flatten_cons, List.length_append, List.length_cons, List.length_nil] at *
        rw [Nat.succ_mul]
        omega
    have h3 := h2 r (fun y hy => h y (by simp [hy]))
    have h4 := h x (by simp)
    simp only [List.length_cons]
    rw [Nat.succ_mul]
    omega
theorem tidyL_len (s : ByteArray) (hs : s.size ≤ 65536) : (tidyL s).length ≤ 140737488355328 := by
  have h := join_len ((scanL s).map fun p => (tokS s p).data.toList) 65536 (by
    intro x hx
    obtain ⟨p, _, rfl⟩ := List.mem_map.1 hx
    exact Nat.le_trans (tokS_len s p) hs)
  have h2 := scanL_len s
  rw [List.length_map] at h
  have h3 : (scanL s).length * (65536 + 1) ≤ 65536 * (65536 + 1) := Nat.mul_le_mul_right _ (by omega)
  unfold tidyL
  omega

theorem info9 : (Tryd.prog.info? 9).map (fun i => (i.zero, i.size, i.bytes)) = some (some (.string ⟨#[]⟩), 1, 16) := by kernel_rfl

theorem grown_of_below {w w' : World} (hb : Below w.heap.size w w') (row : Option Nat) : w.grownBy w' row := ⟨hb.os, hb.tape, hb.output, hb.size, fun i hi _ => hb.block i hi⟩
theorem own_below {w w' : World} {base size n : Nat} {e : TypeId} {v : Value} {xs : List Value} (h : w.ownsRow base e size v n xs) (hb : Below w.heap.size w w') : w'.ownsRow base e size v n xs :=
  h.kept (grown_of_below hb none) (by cases hv : v.ownBlock <;> simp)
theorem own_lt {w : World} {base size n : Nat} {e : TypeId} {v : Value} {xs : List Value} (h : w.ownsRow base e size v n xs) : ∀ g, v.ownBlock = some g → base ≤ g := by
  intro g hg
  rcases h.2 with ⟨rfl, _⟩ | ⟨g', cap, cur, rfl, hb, _⟩
  · cases hg
  · have : g' = g := by simpa [Value.ownBlock] using hg
    omega
theorem join_any (v : Value) (xs : List ByteArray) (base : Nat) (w : World) (h : w.ownsRow base 9 1 v xs.length (xs.map Value.string)) (hl : xs.length ≤ 140737488355328) (hlen : (Lib.join (xs.map (·.data.toList)) [32]).length ≤ 140737488355328) :
    Calls Tryd.prog 25 #[v, .string ⟨#[32]⟩] w fun e w' => e = .returned (.string ⟨(Lib.join (xs.map (·.data.toList)) [32]).toArray⟩) ∧ Below w.heap.size w w' := by
  rcases h.2 with ⟨rfl, h0⟩ | ⟨g, cap, cur, rfl, _, hg, hle, _⟩
  · have hx : xs = [] := List.eq_nil_of_length_eq_zero h0
    subst hx
    refine (Tryd.strings_Join_none none 0 _ w).mono ?_
    rintro e w' ⟨he, hw⟩
    exact ⟨he, by rw [hw]; exact Below.refl _ _⟩
  · have hc := h.cells (g := g) rfl
    have e : ∀ j, (⟨g, 0, none⟩ : Addr).add j = ⟨g, 0 + j, none⟩ := fun j => by unfold Addr.add; split <;> simp_all
    exact Tryd.strings_Join g 0 cap xs ⟨#[32]⟩ w (fun j x hj => by rw [← e]; exact hc j _ (by rw [List.getElem?_map, hj]; rfl)) (heap_lt hg) hl hle hlen

set_option maxRecDepth 100000 in
set_option maxHeartbeats 1000000 in
theorem tidy_ok (s : ByteArray) (w : World) (hs : s.size ≤ 65536) (he : scanErr s = 0) :
    Calls Tryd.prog 24 #[.string s] w fun e w' => e = .returned (.tuple #[.string ⟨(tidyL s).toArray⟩, .int .i64 (stopAt s : Nat), .int .i64 0]) ∧ Below w.heap.size w w' := by
  obtain ⟨i0, hi, hz0, hz1, hz2⟩ := info_parts info9
  have hdec : ((scanErr s : Int) != 0) = false := by rw [he]; rfl
  have HE := Lib.hid he
  clear he
  go_enter Tryd.func24, Tryd.ntmps24
  go_wp2_with fail
  refine (scan_toks s hs _).mono ?_
  rintro e w1 ⟨A, c, rfl, hT, hb1⟩
  obtain ⟨tl, hL⟩ : ∃ tl, scanL s = tl := ⟨_, rfl⟩
  have hfin : tidyL s = Lib.join (tl.map fun p => (tokS s p).data.toList) [32] := by unfold tidyL; rw [hL]
  have hlen := scanL_len s
  have hmem := scanL_le s
  rw [hL] at hT hlen hmem
  rw [hL]
  have hle2 := tidyL_len s hs
  have HF := Lib.hid hfin
  have HT := Lib.hid hT
  have HM := Lib.hid hmem
  have HL2 := Lib.hid hle2
  have hcap := hT.1
  clear hL hfin hT hmem hle2
  go_wp2_with fail
  go_loopw [8, 23] (fun v i wr => ∃ k : Nat, k ≤ tl.length ∧ i = .int .i64 k ∧ wr.ownsRow w1.heap.size 9 1 v k ((tl.take k).map fun p => Value.string (tokS s p)) ∧ Below w1.heap.size w1 wr) (fun _ i _ => tl.length - (intOf i).toNat)
  case atStart => exact ⟨0, Nat.zero_le _, rfl, World.ownsRow_nil _ _ _ _, Below.refl _ _⟩
  case round =>
    obtain ⟨k, hk, rfl, hrow, hB⟩ := hrel
    by_cases hlt : k < tl.length
    · have hpk : tl[k]? = some tl[k] := List.getElem?_eq_getElem hlt
      obtain ⟨p, hp⟩ : ∃ p, tl[k]? = some p := ⟨_, hpk⟩
      obtain ⟨g, rfl, hg, c0, c1, c2⟩ := HT.out.2.2 k p hp
      have d0 := (hB.cell (p := ⟨g, k * 3, none⟩) hg).trans c0
      have d1 := (hB.cell (p := ⟨g, k * 3 + 1, none⟩) hg).trans c1
      have d2 := (hB.cell (p := ⟨g, k * 3 + 2, none⟩) hg).trans c2
      have hpm : p ≤ s.size := HM.out p (List.mem_of_getElem? hp)
      have hpe := tkEnd_le s p hpm
      have hpg := tkEnd_ge s p
      have HP := Lib.hid hp
      have HB := Lib.hid hB
      clear hp hpk c0 c1 c2 hB
      go_wp2_with fail
      refine (text_in s _ p (tkEnd s p) _ hpg hpe).mono ?_
      rintro e w2 ⟨rfl, hb2⟩
      have hsz := HB.out.size
      have own2 := own_below (hrow.alloc (.cells #[.int .u8 (tkKind s p : Nat), .int .i64 (p : Int), .int .i64 (tkEnd s p : Nat)] 29)) hb2
      have hB2 : Below w1.heap.size w1 w2 := (HB.out.alloc hsz _).trans (hb2.mono (by simp; omega))
      have HO := Lib.hid own2
      have HB2 := Lib.hid hB2
      have hs2 := hB2.size
      clear own2 hB2 hrow
      go_wp2_with (at_builtin; refine wpList_append_own_at _ rfl _ _ 40 rfl w1.heap.size 9 i0 (.string ⟨#[]⟩) 1 16 Tryd.underlying40 hi hz0 hz1 hz2 rfl (by decide) _ _ _ rfl (HO.out.alloc _) ⟨w2.heap.size, 0, none⟩ 1 1 [.string (s.extract p (tkEnd s p))] rfl rfl (cell_one_new _ _ _) (by simp [Value.oneCell']) (by unfold maxLen; omega) (by omega) (by simp; omega) ?_; intro v' w3 hown' hgrow hnl hat)
      have hB3 : Below w1.heap.size w1 w3 := (HB2.out.alloc hs2 _).grown hgrow (by simp; omega) (fun g' hg' => own_lt HO.out g' hg')
      have htk : (tl.take (k + 1)).map (fun p => Value.string (tokS s p)) = (tl.take k).map (fun p => Value.string (tokS s p)) ++ [.string (s.extract p (tkEnd s p))] := by
        rw [List.take_add_one, HP.out]
        simp [tokS]
      go_roundw
      case rel => exact ⟨k + 1, by omega, by go_num, by rw [htk]; exact hown', hB3⟩
      case measure => simp [intOf]; omega
    · obtain rfl : k = tl.length := by omega
      rw [List.take_length, show (fun p => Value.string (tokS s p)) = Value.string ∘ tokS s from rfl, ← List.map_map] at hrow
      have hjl : (Lib.join ((tl.map (tokS s)).map (·.data.toList)) [32]).length ≤ 140737488355328 := by
        rw [List.map_map]
        have := HL2.out
        rw [HF.out] at this
        exact this
      rw [← List.length_map (f := tokS s)] at hrow
      have hj := join_any _ (tl.map (tokS s)) _ _ hrow (by rw [List.length_map]; omega) hjl
      have HJ := Lib.hid hj
      have HB := Lib.hid hB
      clear hj hjl hrow hB
      go_wp2_with fail
      refine HJ.out.mono ?_
      rintro e w2 ⟨rfl, hb2⟩
      go_wp2_with fail
      go_ret3
      exact ⟨congrArg (fun l : List UInt8 => Ending.returned (.tuple #[.string ⟨l.toArray⟩, .int .i64 (stopAt s : Nat), .int .i64 0])) (show Lib.join (tl.map ((fun x => x.data.toList) ∘ tokS s)) [32] = tidyL s from HF.out.symm), hb1.trans ((HB.out.trans (hb2.mono HB.out.size)).mono hb1.size)⟩

set_option maxHeartbeats 400000 in
theorem tidy_bad (s : ByteArray) (w : World) (hs : s.size ≤ 65536) (he : scanErr s ≠ 0) :
    Calls Tryd.prog 24 #[.string s] w fun e w' => e = .returned (.tuple #[.string ⟨#[]⟩, .int .i64 (stopAt s : Nat), .int .i64 (scanErr s : Nat)]) ∧ Below w.heap.size w w' := by
  have hdec : ((scanErr s : Int) != 0) = true := by simpa using he
  have HE := Lib.hid he
  clear he
  go_enter Tryd.func24, Tryd.ntmps24
  go_wp2_with fail
  refine (scan_toks s hs _).mono ?_
  rintro e w1 ⟨A, c, rfl, hT, hb1⟩
  go_wp2_with fail
  go_ret3
  exact ⟨rfl, hb1⟩
/-- Tidy: the text; empty where there is none -/
def tidyS (s : ByteArray) : ByteArray := ⟨(tidyL s).toArray⟩
theorem tidyL_bad (s : ByteArray) (he : scanErr s ≠ 0) : tidyL s = [] := by
  unfold scanErr at he
  have hlt : stopAt s < s.size := by
    by_cases h : stopAt s < s.size
    · exact h
    · rw [if_neg h] at he; exact absurd rfl he
  unfold tidyL scanL
  rw [if_pos hlt]
  rfl
theorem tidy_any (s : ByteArray) (w : World) (hs : s.size ≤ 65536) :
    Calls Tryd.prog 24 #[.string s] w fun e w' => e = .returned (.tuple #[.string (tidyS s), .int .i64 (stopAt s : Nat), .int .i64 (scanErr s : Nat)]) ∧ Below w.heap.size w w' := by
  by_cases he : scanErr s = 0
  · refine (tidy_ok s w hs he).mono ?_
    rintro e w' ⟨h1, h2⟩
    rw [he]
    exact ⟨h1, h2⟩
  · refine (tidy_bad s w hs he).mono ?_
    rintro e w' ⟨h1, h2⟩
    unfold tidyS
    rw [tidyL_bad s he]
    exact ⟨h1, h2⟩
end Go.Proofs.YtihigfpikiaaiaaDoor
