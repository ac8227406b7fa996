/- slices.Delete at clauses; clauses that are taken out. -/
import Derived.Test.YtobcnejecogfoaaGreatRCy
import Derived.Test.YtobcnejecogfoaaGreatRShelh
import Derived.Test.YtobcnejecogfoaaGreatQ08
namespace Go.Proofs.YtobcnejecogfoaaGreat
open Go.RowKit Go.Sort

/-- a value of one cell, as it lies there -/
def encV (v : Value) : Value := if v.oneCell' = true then v else .slice none 0 0
theorem encV_one : OneCell encV := fun v => by
  unfold encV
  split
  · assumption
  · rfl
theorem encV_map {us : List Value} (h : ∀ z ∈ us, z.oneCell' = true) : us.map encV = us := by
  conv => rhs; rw [← List.map_id us]
  exact List.map_congr_left (fun z hz => if_pos (h z hz))
theorem lc_holds {w : World} {g : Nat} {cur : Array Value} {e : TypeId} {us : List Value} (h1 : ∀ z ∈ us, z.oneCell' = true) (hb : w.heap[g]? = some (.cells cur e (0, 0))) (ht : cur.toList.take us.length = us) : Holds encV w g 0 us.toArray := by
  intro j hj
  have hj' : j < us.length := by simpa using hj
  refine ⟨?_, by simp [World.frozen?, hb]⟩
  have h2 : (cur.toList.take us.length)[j]? = us[j]? := by rw [ht]
  rw [List.getElem?_take_of_lt hj'] at h2
  simp only [World.cell?, hb, Nat.zero_add]
  simp only [Option.isSome_none, Bool.false_eq_true, if_false]
  rw [← Array.getElem?_toList, h2]
  have := h1 us[j] (List.getElem_mem hj')
  simp [hj', encV, this]
theorem lc_heap1 {w : World} {g n : Nat} {cur : Array Value} {e : TypeId} {fr : Nat × Nat} (d : Array Value) (hb : w.heap[g]? = some (.cells cur e fr)) :
    (putRow encV (Sort.ahead w n) g 0 d).heap[g]? = some (.cells (putCells encV 0 d cur) e fr) := by
  simp [putRow, mapBlock, Sort.ahead, Array.getElem?_modify, hb, onCells]
theorem lc_kept1 {w : World} {g n : Nat} (d : Array Value) : Kept (fun k => some g = some k) w (putRow encV (Sort.ahead w n) g 0 d) := by
  refine ⟨rfl, rfl, rfl, by simp, fun k hk hne => ?_⟩
  have : g ≠ k := fun e => hne (by rw [e])
  simp [putRow, mapBlock, Sort.ahead, Array.getElem?_modify, this]
theorem lc_take (cur : Array Value) (ts : List Value) (h : ts.length ≤ cur.size) : (putCells encV 0 ts.toArray cur).toList.take ts.length = ts.map encV := by
  apply List.ext_getElem?
  intro j
  by_cases hj : j < ts.length
  · rw [List.getElem?_take_of_lt hj, Array.getElem?_toList]
    simp [putCells, hj, show j < cur.size by omega]
  · rw [List.getElem?_take_eq_none (by omega), List.getElem?_eq_none (by simp; omega)]
theorem delete_cls {base : Nat} (v : Value) (us : List Value) (k i : Nat) (w : World) (h : w.ownsRow base 41 1 v k us) (hk : us.length = k) (h1 : ∀ z ∈ us, z.oneCell' = true) (hi : i < k) :
    Calls Tryz.prog 42 #[v, .int .i64 (i : Nat), .int .i64 ((i : Int) + 1)] w fun e w' => ∃ v', e = .returned v' ∧ w'.ownsRow base 41 1 v' (k - 1) (us.eraseIdx i) ∧ Kept (fun g => v.ownBlock = some g) w w' := by
  subst hk
  obtain ⟨i0, hi0, hz0, hz1, hz2⟩ := info_parts info_cls
  rcases h.2 with ⟨rfl, h0⟩ | ⟨g, cap, cur, rfl, hb, hg, h2, h3, h4, h5⟩
  · omega
  · have hle : (us.eraseIdx i).length = us.length - 1 := by rw [List.length_eraseIdx, if_pos hi]
    have hcap : cap ≤ 9223372036854775807 := by unfold maxLen at h3; omega
    have H := AnyE.slices_Delete Tryz.deleteC encV encV_one (.slice none 0 0) (fun w => Tryz.zeroValue41 w) i0 hi0 hz1 g 0 cap i (i + 1) us.toArray w (lc_holds h1 hg (by simpa using h5)) (by simpa using h2) hcap (by omega) (by simp; omega)
    rw [show ((i + 1 : Nat) : Int) = (i : Int) + 1 from by omega] at H
    refine Calls.mono H ?_
    rintro e w' ⟨rfl, q, rfl⟩
    have e1 : i + 1 - i = 1 := by omega
    have hx1 : ∀ z ∈ us.eraseIdx i ++ [Value.slice none 0 0], z.oneCell' = true := fun z hz => by
      rcases List.mem_append.1 hz with hz | hz
      · exact h1 z (List.mem_of_mem_eraseIdx hz)
      · rw [List.mem_singleton.1 hz]
        rfl
    rw [e1, List.size_toArray, ← List.eraseIdx_eq_take_drop_succ]
    refine ⟨_, rfl, ?_, lc_kept1 _⟩
    refine ⟨by simp [hle], .inr ⟨g, cap, _, rfl, hb, lc_heap1 _ hg, by omega, h3, by simp [putCells, h4], ?_⟩⟩
    have ht := lc_take cur (us.eraseIdx i ++ [.slice none 0 0]) (by rw [List.length_append, hle, List.length_singleton]; omega)
    rw [encV_map hx1] at ht
    have e2 : (us.length - 1) * 1 = (us.eraseIdx i).length := by rw [hle, Nat.mul_one]
    rw [e2]
    have e3 := congrArg (List.take (us.eraseIdx i).length) ht
    rw [List.take_take, Nat.min_eq_left (by simp)] at e3
    rw [show List.replicate 1 (Value.slice none 0 0) = [.slice none 0 0] from rfl, e3, List.take_append_of_le_length (by simp), List.take_of_length_le (by simp)]
/-- the row of clauses that is left -/
theorem cls_left {base : Nat} {w : World} {v : Value} {us : List Value} {cs : List (List Int)} {O : Nat → Prop} (i k : Nat) (h : w.ownsRow base 41 1 v k (us.eraseIdx i)) (hk : (cs.eraseIdx i).length = k)
    (hx : ∀ (j : Nat) (xs : List Int), cs[j]? = some xs → ∃ u, us[j]? = some u ∧ IntsIn O w u xs) : ClsAt w v (cs.eraseIdx i) := by
  obtain ⟨A, c, rfl, _⟩ := mx_slice h
  rw [← hk] at h ⊢
  refine ⟨A, c, rfl, fun j xs hj => ?_⟩
  have hjl := (List.getElem?_eq_some_iff.1 hj).1
  obtain ⟨u, hu, ho⟩ : ∃ u, (us.eraseIdx i)[j]? = some u ∧ IntsIn O w u xs := by
    rw [List.getElem?_eraseIdx] at hj ⊢
    split at hj
    · rename_i hlt
      rw [if_pos hlt]
      exact hx j xs hj
    · rename_i hlt
      rw [if_neg hlt]
      exact hx (j + 1) xs hj
  obtain ⟨g, c', cs', hv, _, _, hg, _⟩ := mx_some h (by omega)
  simp only [Value.slice.injEq] at hv
  obtain ⟨rfl, _, rfl⟩ := hv
  exact ⟨g, 0, u, rfl, hg, by rw [Nat.zero_add]; exact mx_at h hu, ho.lt.mono (fun g hg => hg.2)⟩
end Go.Proofs.YtobcnejecogfoaaGreat
