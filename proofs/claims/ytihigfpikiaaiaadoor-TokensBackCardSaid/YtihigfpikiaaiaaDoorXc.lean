/- Facts on places and tokens that TokensCovers asks. -/
import Derived.Test.YtihigfpikiaaiaaDoorXb
namespace Go.Proofs.YtihigfpikiaaiaaDoor
open Go.RowKit

/-! ### where blanks end -/
theorem bl_stop (k : Bool) (l : List UInt8) (h : Tk.bl k l < l.length) : Tk.blankB (l.getD (Tk.bl k l) 0) = false ∧ l.getD (Tk.bl k l) 0 ≠ 35 := by
  induction l generalizing k with
  | nil => simp at h
  | cons c r ih =>
    simp only [Tk.bl] at h ⊢
    split
    · rename_i hc
      rw [if_pos hc] at h
      have := ih true (by simp at h; omega)
      rw [Nat.add_comm]
      simpa using this
    · rename_i hc
      rw [if_neg hc] at h
      split
      · rename_i hb
        rw [if_pos hb] at h
        have := ih false (by simp at h; omega)
        rw [Nat.add_comm]
        simpa using this
      · rename_i hb
        simp only [Bool.or_eq_true, Bool.and_eq_true, beq_iff_eq, not_or] at hc
        simp only [List.getD_cons_zero]
        exact ⟨by simpa using hb, hc.1⟩
theorem getD_bt (s : ByteArray) (a n : Nat) : (s.data.toList.drop a).getD n 0 = bt s (a + n) := by
  unfold bt; rw [Tk.getD_drop']
theorem skipTo_byte (s : ByteArray) (a : Nat) (h : skipTo s a < s.size) : Tk.blankB (bt s (skipTo s a)) = false ∧ bt s (skipTo s a) ≠ 35 := by
  have := bl_stop false (s.data.toList.drop a) (by unfold skipTo at h; simp; omega)
  rw [getD_bt] at this
  exact this
theorem places_skip (s : ByteArray) (f a : Nat) : ∀ x ∈ places s f a, ∃ b, x = skipTo s b := by
  induction f generalizing a with
  | zero => simp [places]
  | succ f ih =>
    simp only [places]
    split
    · intro x hx; exact ⟨a, by simpa using hx⟩
    · intro x hx
      rcases List.mem_cons.1 hx with rfl | hx
      · exact ⟨a, rfl⟩
      · exact ih _ x hx
theorem stop_byte (s : ByteArray) (h : stopAt s < s.size) : Tk.blankB (bt s (stopAt s)) = false ∧ bt s (stopAt s) ≠ 35 := by
  have hm : stopAt s ∈ places s (s.size + 1) 0 := by rw [(places_eq s).1]; simp
  obtain ⟨b, hb⟩ := places_skip s _ 0 _ hm
  rw [hb] at h ⊢
  exact skipTo_byte s b h
theorem err_iff (s : ByteArray) : scanErr s ≠ 0 ↔ stopAt s < s.size := by
  unfold scanErr
  split <;> simp <;> omega
theorem err_zero (s : ByteArray) (h : scanErr s = 0) : stopAt s = s.size ∧ scanL s = tokensOf s := by
  have h1 : ¬ stopAt s < s.size := fun hh => (err_iff s).2 hh h
  have h2 := (places_eq s).2.2.2
  exact ⟨by omega, by unfold scanL; rw [if_neg h1]⟩

/-! ### within the blanks -/
def cmNext (cm : Bool) (c : UInt8) : Bool := c == 35 || cm && c != 10
/-- the place that the blanks from an index on lead to, inside a comment or not -/
def blTo (cm : Bool) (s : ByteArray) (a : Nat) : Nat := a + Tk.bl cm (s.data.toList.drop a)
theorem blTo_step (s : ByteArray) (cm : Bool) (a : Nat) (ha : a < s.size) (h : a < blTo cm s a) : blTo (cmNext cm (bt s a)) s (a + 1) = blTo cm s a ∧ (cmNext cm (bt s a) = false → Tk.blankB (bt s a) = true) := by
  unfold blTo at h ⊢
  rw [drop_bt s a ha] at h ⊢
  unfold cmNext
  simp only [Tk.bl] at h ⊢
  by_cases hc : (bt s a == 35 || cm && bt s a != 10) = true
  · rw [if_pos hc, hc]
    exact ⟨by omega, fun h => by cases h⟩
  · rw [if_neg hc] at h ⊢
    have hc' : (bt s a == 35 || cm && bt s a != 10) = false := by simpa using hc
    by_cases hb : Tk.blankB (bt s a) = true
    · rw [if_pos hb, hc']
      exact ⟨by omega, fun _ => hb⟩
    · rw [if_neg hb] at h
      omega

/-! ### tokens -/
theorem tok_form (s : ByteArray) (p : Nat) (hp : p < s.size) (h : tkKind s p ≠ 0) : p < tkEnd s p ∧ (tkKind s p = 1 ↔ Tk.letter (bt s p) = true) ∧ (tkKind s p = 3 → bt s (runTo Tk.digit s p) = 58 ∧ runTo Tk.digit s p < tkEnd s p) := by
  refine ⟨(tkEnd_gt s p).1 (by omega), ?_, ?_⟩
  · cases hl : Tk.letter (bt s p) with
    | true => simp [(tk_letter s p hp hl).1]
    | false =>
      cases hd : Tk.digit (bt s p) with
      | true =>
        by_cases hq : runTo Tk.digit s p + 1 < s.size ∧ bt s (runTo Tk.digit s p) = 58 ∧ Tk.digit (bt s (runTo Tk.digit s p + 1)) = true
        · simp [(tk_lit s p _ hp hl hd rfl hq).1]
        · simp [(tk_num s p _ hp hl hd rfl hq).1]
      | false =>
        have := (tk_sign s p hp hl hd).1
        rw [this]
        split <;> simp
  · intro h3
    cases hl : Tk.letter (bt s p) with
    | true => rw [(tk_letter s p hp hl).1] at h3; omega
    | false =>
      cases hd : Tk.digit (bt s p) with
      | true =>
        by_cases hq : runTo Tk.digit s p + 1 < s.size ∧ bt s (runTo Tk.digit s p) = 58 ∧ Tk.digit (bt s (runTo Tk.digit s p + 1)) = true
        · have := (tk_lit s p _ hp hl hd rfl hq).2
          have h4 := runTo_ge Tk.digit s (runTo Tk.digit s p + 1)
          exact ⟨hq.2.1, by omega⟩
        · rw [(tk_num s p _ hp hl hd rfl hq).1] at h3; omega
      | false =>
        rw [(tk_sign s p hp hl hd).1] at h3
        split at h3 <;> omega
theorem bt_ext (s : ByteArray) (a e n : Nat) (h : n < e - a) : bt (s.extract a e) n = bt s (a + n) := by
  unfold bt
  rw [Lib.extract_data, List.getD_eq_getElem?_getD, List.getElem?_take, if_pos h, List.getElem?_drop, List.getD_eq_getElem?_getD]
theorem size_ext (s : ByteArray) (a e : Nat) (he : e ≤ s.size) : (s.extract a e).size = e - a := by simp; omega
theorem has_of_bt (s : ByteArray) (c : UInt8) (n : Nat) (hn : n < s.size) (h : bt s n = c) : 0 ≤ Lib.indexByte s.data.toList c := by
  rcases Int.lt_or_le (Lib.indexByte s.data.toList c) 0 with hlt | hge
  · exact absurd h (Tk.index_none _ c hlt n (by simpa using hn))
  · exact hge
theorem has_colon (s : ByteArray) (p : Nat) (hp : p < s.size) (h : tkKind s p = 3) : 0 ≤ Lib.indexByte (tokS s p).data.toList 58 := by
  obtain ⟨h1, _, h3⟩ := tok_form s p hp (by omega)
  obtain ⟨h4, h5⟩ := h3 h
  have he := tkEnd_le s p (by omega)
  have hr := runTo_ge Tk.digit s p
  refine has_of_bt _ _ (runTo Tk.digit s p - p) ?_ ?_
  · unfold tokS; rw [size_ext _ _ _ he]; omega
  · unfold tokS
    rw [bt_ext _ _ _ _ (by omega)]
    rw [show p + (runTo Tk.digit s p - p) = runTo Tk.digit s p by omega]
    exact h4
theorem ext_one (s : ByteArray) (a : Nat) (h : a < s.size) : s.extract a (a + 1) = ⟨#[bt s a]⟩ := by
  apply WideShapes.bytes_inj
  rw [Lib.extract_data, drop_bt s a h]
  simp
theorem bytes_conv (s : ByteArray) (w : World) : ∃ cap w', (convert 9 30 (.string s)).run Tryd.prog w = .ok (.slice (some ⟨w.heap.size, 0, none⟩) s.size cap) w' ∧ Below w.heap.size w w' ∧ ∀ j, j < s.size → w'.cell? ⟨w.heap.size, j, none⟩ = some (.int .u8 ((bt s j).toNat : Int)) := by
  refine ⟨_, _, run_bytes_of_string w 9 30 5 s Tryd.underlying9 Tryd.underlying30 Tryd.underlying5, ((Below.refl _ _).drew).alloc (Nat.le_refl _) _, fun j hj => ?_⟩
  have hn := World.alloc_heap_new w.drew (.cells (bytesRow s (grownCap w s.size 0 5)) 5 ((bytesRow s (grownCap w s.size 0 5)).size, (bytesRow s (grownCap w s.size 0 5)).size + 1))
  rw [cell_of_row _ w.heap.size j _ _ _ hn]
  have hj' : j < s.data.size := hj
  unfold bytesRow
  rw [Array.getElem?_append_left (by simpa using hj'), Array.getElem?_map, Array.getElem?_eq_getElem hj']
  unfold bt
  rw [List.getD_eq_getElem?_getD, List.getElem?_eq_getElem (by simpa using hj')]
  rfl
theorem bytes_ext (T : ByteArray) (a n p : Nat) (hp : p ≤ T.size) (hn : a + n = p) (w : World) : ∃ cap w', (convert 9 30 (.string (T.extract a p))).run Tryd.prog w = .ok (.slice (some ⟨w.heap.size, 0, none⟩) n cap) w' ∧ Below w.heap.size w w' ∧ ∀ j, j < n → w'.cell? ⟨w.heap.size, j, none⟩ = some (.int .u8 ((bt T (a + j)).toNat : Int)) := by
  obtain ⟨cap, w', h1, h2, h3⟩ := bytes_conv (T.extract a p) w
  have e : (T.extract a p).size = n := by rw [size_ext _ _ _ hp]; omega
  rw [e] at h1 h3
  refine ⟨cap, w', h1, h2, fun j hj => ?_⟩
  rw [h3 j hj, bt_ext _ _ _ _ (by omega)]
/-- what the next byte of blanks is -/
theorem blank_cases (s : ByteArray) (cm : Bool) (a : Nat) (ha : a < s.size) (h : a < blTo cm s a) :
    (bt s a = 35 ∧ blTo true s (a + 1) = blTo cm s a) ∨ (cm = true ∧ bt s a ≠ 35 ∧ bt s a ≠ 10 ∧ blTo true s (a + 1) = blTo cm s a) ∨
    (bt s a = 10 ∧ blTo false s (a + 1) = blTo cm s a) ∨ (cm = false ∧ (bt s a = 9 ∨ bt s a = 13 ∨ bt s a = 32) ∧ blTo false s (a + 1) = blTo cm s a) := by
  obtain ⟨h1, h2⟩ := blTo_step s cm a ha h
  unfold cmNext at h1 h2
  by_cases c35 : bt s a = 35
  · rw [c35] at h1
    exact .inl ⟨c35, h1⟩
  · by_cases c10 : bt s a = 10
    · rw [c10] at h1
      refine .inr (.inr (.inl ⟨c10, ?_⟩))
      cases cm <;> exact h1
    · have e1 : (bt s a == 35) = false := by simpa using c35
      have e2 : (bt s a != 10) = true := by simpa using c10
      rw [e1, e2] at h1 h2
      cases cm with
      | true => exact .inr (.inl ⟨rfl, c35, c10, h1⟩)
      | false =>
        refine .inr (.inr (.inr ⟨rfl, ?_, h1⟩))
        have := h2 rfl
        simp only [Tk.blankB, Bool.or_eq_true, beq_iff_eq] at this
        rcases this with ((h | h) | h) | h
        · exact .inl h
        · exact absurd h c10
        · exact .inr (.inl h)
        · exact .inr (.inr h)
end Go.Proofs.YtihigfpikiaaiaaDoor
