/- The walk of the law's blank: one of five texts of blanks. -/
import Derived.Test.YtihigfpikiaaiaaDoorXd
namespace Go.Proofs.YtihigfpikiaaiaaDoor
open Go.RowKit

def frontsB : List ByteArray := [⟨#[32]⟩, ⟨#[10]⟩, ⟨#[9, 13, 32]⟩, ⟨#[35, 32, 120, 32, 49, 58, 50, 10]⟩, ⟨#[32, 35, 10, 10]⟩]
def frontAt (j : Nat) : ByteArray := frontsB.getD j ⟨#[]⟩
theorem blank_any (n : Nat) (w : World) : Calls Tryd.prog 14 #[.int .u8 (n : Int)] w fun e w' => e = .returned (.string (frontAt (n % 5))) ∧ Below w.heap.size w w' := by
  have hlt : n % 5 < 5 := Nat.mod_lt _ (by omega)
  have hc : [Value.string ⟨#[32]⟩, .string ⟨#[10]⟩, .string ⟨#[9, 13, 32]⟩, .string ⟨#[35, 32, 120, 32, 49, 58, 50, 10]⟩, .string ⟨#[32, 35, 10, 10]⟩][n % 5]? = some (.string (frontAt (n % 5))) := by
    generalize n % 5 = j at hlt
    rcases (show j = 0 ∨ j = 1 ∨ j = 2 ∨ j = 3 ∨ j = 4 by omega) with h | h | h | h | h <;> subst h <;> rfl
  have hE := Option.some.inj ((List.getElem?_eq_getElem (l := [Value.string ⟨#[32]⟩, .string ⟨#[10]⟩, .string ⟨#[9, 13, 32]⟩, .string ⟨#[35, 32, 120, 32, 49, 58, 50, 10]⟩, .string ⟨#[32, 35, 10, 10]⟩]) (i := n % 5) hlt).symm.trans hc)
  go_enter Tryd.func14, Tryd.ntmps14
  go_wp2_with fail
  go_ret
  exact ⟨rfl, (Below.refl _ _).alloc (Nat.le_refl _) _⟩

/-! ### blanks in front -/
theorem bl_front (j : Nat) (l : List UInt8) (h : j < 5) : Tk.bl false ((frontAt j).data.toList ++ l) = (frontAt j).size + Tk.bl false l := by
  rcases (show j = 0 ∨ j = 1 ∨ j = 2 ∨ j = 3 ∨ j = 4 by omega) with h | h | h | h | h <;> subst h <;> simp [frontAt, frontsB, Tk.bl, Tk.blankB, ByteArray.size] <;> omega
theorem front_le (j : Nat) : (frontAt j).size ≤ 8 := by
  rcases (show j = 0 ∨ j = 1 ∨ j = 2 ∨ j = 3 ∨ j = 4 ∨ 5 ≤ j by omega) with h | h | h | h | h | h
  · subst h; decide
  · subst h; decide
  · subst h; decide
  · subst h; decide
  · subst h; decide
  · unfold frontAt frontsB
    rw [List.getD_eq_getElem?_getD, List.getElem?_eq_none (by simpa using h)]
    decide
theorem app_data (F t : ByteArray) : (F ++ t).data.toList = F.data.toList ++ t.data.toList := by simp
theorem app_drop (F t : ByteArray) (a : Nat) : (F ++ t).data.toList.drop (F.size + a) = t.data.toList.drop a := by
  rw [app_data, List.drop_append]
  simp
theorem skip_app (F t : ByteArray) (a : Nat) : skipTo (F ++ t) (F.size + a) = F.size + skipTo t a := by unfold skipTo; rw [app_drop]; omega
theorem kind_app (F t : ByteArray) (a : Nat) : tkKind (F ++ t) (F.size + a) = tkKind t a := by unfold tkKind; rw [app_drop]
theorem end_app (F t : ByteArray) (a : Nat) : tkEnd (F ++ t) (F.size + a) = F.size + tkEnd t a := by unfold tkEnd; rw [app_drop]; omega
theorem places_app (F t : ByteArray) (f a : Nat) : places (F ++ t) f (F.size + a) = (places t f a).map (F.size + ·) := by
  induction f generalizing a with
  | zero => rfl
  | succ f ih =>
    simp only [places]
    rw [skip_app, kind_app, end_app, ih]
    split <;> simp
theorem places_fuel (s : ByteArray) (f g a : Nat) (ha : a ≤ s.size) (hf : s.size < f + a) (hg : s.size < g + a) : places s f a = places s g a := by
  induction f generalizing g a with
  | zero => omega
  | succ f ih =>
    cases g with
    | zero => omega
    | succ g =>
      simp only [places]
      split
      · rfl
      · rename_i hk
        have h1 := skipTo_le s a ha
        have h2 := skipTo_ge s a
        have h3 : skipTo s a < s.size := by
          rcases Nat.lt_or_ge (skipTo s a) s.size with h | h
          · exact h
          · have : skipTo s a = s.size := by omega
            rw [this] at hk
            exact absurd (tkKind_end s) hk
        have h4 := (tok_form s _ h3 hk).1
        have h5 := tkEnd_le s _ h1
        rw [ih g (tkEnd s (skipTo s a)) h5 (by omega) (by omega)]
theorem skip_front (j : Nat) (t : ByteArray) (h : j < 5) : skipTo (frontAt j ++ t) 0 = (frontAt j).size + skipTo t 0 := by
  unfold skipTo
  rw [List.drop_zero, app_data, bl_front _ _ h]
  simp
theorem size_app (F t : ByteArray) : (F ++ t).size = F.size + t.size := by simp
theorem places_front (j : Nat) (t : ByteArray) (h : j < 5) : places (frontAt j ++ t) ((frontAt j ++ t).size + 1) 0 = (places t (t.size + 1) 0).map ((frontAt j).size + ·) := by
  rw [places_fuel t (t.size + 1) ((frontAt j ++ t).size + 1) 0 (by omega) (by omega) (by rw [size_app]; omega)]
  simp only [places]
  rw [skip_front _ _ h, kind_app, end_app, places_app]
  split <;> simp
theorem stop_front (j : Nat) (t : ByteArray) (h : j < 5) : stopAt (frontAt j ++ t) = (frontAt j).size + stopAt t := by
  unfold stopAt
  rw [places_front _ _ h]
  rw [(places_eq t).1]
  simp
theorem toks_front (j : Nat) (t : ByteArray) (h : j < 5) : tokensOf (frontAt j ++ t) = (tokensOf t).map ((frontAt j).size + ·) := by
  unfold tokensOf
  rw [places_front _ _ h, List.filter_map]
  congr 1
  apply List.filter_congr
  intro x _
  simp only [Function.comp]
  rw [kind_app]
theorem scan_front (j : Nat) (t : ByteArray) (h : j < 5) : scanL (frontAt j ++ t) = (scanL t).map ((frontAt j).size + ·) ∧ scanErr (frontAt j ++ t) = scanErr t := by
  unfold scanL scanErr
  rw [stop_front _ _ h, toks_front _ _ h, size_app]
  by_cases hs : stopAt t < t.size
  · rw [if_pos hs, if_pos hs, if_pos (by omega), if_pos (by omega)]
    exact ⟨rfl, rfl⟩
  · rw [if_neg hs, if_neg hs, if_neg (by omega), if_neg (by omega)]
    exact ⟨rfl, rfl⟩

/-! ### lines -/
theorem colAt_step (s : ByteArray) (k : Nat) (h : k < s.size) : colAtN s (k + 1) = if bt s k == 10 then 1 else colAtN s k + 1 := by
  unfold colAtN bt
  rw [List.take_succ_eq_append_getElem (by simpa using h), Tk.colN_snoc, List.getD_eq_getElem?_getD, List.getElem?_eq_getElem (by simpa using h)]
  rfl
theorem col_facts (s : ByteArray) (k : Nat) (h : k ≤ s.size) : (∀ j, j < k → k < j + colAtN s k → bt s j ≠ 10) ∧ (colAtN s k ≠ k + 1 → bt s (k - colAtN s k) = 10) := by
  induction k with
  | zero => exact ⟨fun j hj => by omega, fun hc => absurd rfl hc⟩
  | succ k ih =>
    obtain ⟨h1, h2⟩ := ih (by omega)
    have hle := (colAtN_le s k (by omega)).1
    have hst := colAt_step s k (by omega)
    by_cases hb : bt s k = 10
    · rw [if_pos (by rw [hb]; decide)] at hst
      rw [hst]
      exact ⟨fun j hj hj2 => by omega, fun _ => by simpa using hb⟩
    · rw [if_neg (by simpa using hb)] at hst
      rw [hst]
      refine ⟨fun j hj hj2 => ?_, fun hc => ?_⟩
      · by_cases hjk : j = k
        · rw [hjk]; exact hb
        · exact h1 j (by omega) (by omega)
      · have := h2 (by omega)
        rwa [show k + 1 - (colAtN s k + 1) = k - colAtN s k by omega]
theorem no_nl (s : ByteArray) (k : Nat) (h : k ≤ s.size) : decide (0 ≤ Lib.indexByte (s.extract (k - (colAtN s k - 1)) k).data.toList 10) = false := by
  have hle := colAtN_le s k h
  rw [decide_eq_false_iff_not]
  intro hi
  obtain ⟨a1, a2, a3⟩ := Tk.index_at _ _ hi
  generalize (Lib.indexByte (s.extract (k - (colAtN s k - 1)) k).data.toList 10).toNat = j at a1 a2
  have hsz : (s.extract (k - (colAtN s k - 1)) k).size = k - (k - (colAtN s k - 1)) := size_ext s _ _ h
  rw [size_list, hsz] at a1
  have e := bt_ext s (k - (colAtN s k - 1)) k j a1
  unfold bt at e
  rw [a2] at e
  exact (col_facts s k h).1 (k - (colAtN s k - 1) + j) (by omega) (by omega) e.symm
theorem line_count (s : ByteArray) (k : Nat) : lineAtN s k = 1 + Lib.countByte (s.extract 0 k).data.toList 10 := by
  unfold lineAtN Lib.countByte
  rw [Tk.lineN_eq]
  simp

/-! ### what Scan tells of blanks and a text -/
def ToksS (s : ByteArray) (n : Nat) (w : World) (A : Option Addr) (l : List Nat) : Prop :=
  ∀ i p, l[i]? = some p → ∃ g, A = some ⟨g, 0, none⟩ ∧ g < w.heap.size ∧
    w.cell? ⟨g, i * 3, none⟩ = some (.int .u8 (tkKind s p : Nat)) ∧ w.cell? ⟨g, i * 3 + 1, none⟩ = some (.int .i64 ((p : Int) + (n : Int))) ∧ w.cell? ⟨g, i * 3 + 2, none⟩ = some (.int .i64 ((tkEnd s p : Int) + (n : Int)))
theorem scan_moved (j : Nat) (t : ByteArray) (hj : j < 5) (hs : t.size ≤ 200) (w : World) :
    Calls Tryd.prog 11 #[.string (frontAt j ++ t)] w fun e W' => ∃ (A : Option Addr) (c : Nat), e = .returned (.tuple #[.slice A (scanL t).length c, .int .i64 ((stopAt t : Int) + ((frontAt j).size : Int)), .int .i64 (scanErr t : Nat)]) ∧ (scanL t).length ≤ c ∧ ToksS t (frontAt j).size W' A (scanL t) ∧ Below w.heap.size w W' := by
  have h8 := front_le j
  refine (scan_toks (frontAt j ++ t) (by rw [size_app]; omega) w).mono ?_
  rintro e W' ⟨A, c, rfl, hT, hb⟩
  obtain ⟨e1, e2⟩ := scan_front j t hj
  rw [e1] at hT ⊢
  rw [e2, stop_front _ _ hj, List.length_map]
  refine ⟨A, c, by rw [Int.natCast_add, Int.add_comm], by simpa using hT.1, fun i p hp => ?_, hb⟩
  obtain ⟨g, h1, h2, c0, c1, c2⟩ := hT.2.2 i ((frontAt j).size + p) (by rw [List.getElem?_map, hp]; rfl)
  rw [kind_app] at c0
  rw [end_app] at c2
  refine ⟨g, h1, h2, c0, ?_, ?_⟩
  · rw [c1, Int.natCast_add, Int.add_comm]
  · rw [c2, Int.natCast_add, Int.add_comm]
end Go.Proofs.YtihigfpikiaaiaaDoor
