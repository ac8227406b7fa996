/- Small laws of blocks and rows that every chapter uses. -/
import Derived.Test.YthhpffdbipgkcaaGreatDoorMa
namespace Go.Proofs.YthhpffdbipgkcaaGreatDoor
open Go.RowKit

theorem mx_cell {w : World} {b j : Nat} {cs : Array Value} {t : TypeId} {fz : Nat × Nat} (h : w.heap[b]? = some (.cells cs t fz)) : w.cell? ⟨b, j, none⟩ = cs[j]? := by
  simp [World.cell?, h]
theorem mx_set {w : World} {b j : Nat} {cs : Array Value} {t : TypeId} {fz : Nat × Nat} (h : w.heap[b]? = some (.cells cs t fz)) (v : Value) : (w.setCell ⟨b, j, none⟩ v).heap[b]? = some (.cells (cs.setIfInBounds j v) t fz) := by
  unfold World.setCell
  simp only [Array.getElem?_modify]
  rw [h]
  simp
theorem mx_slice {w : World} {base size n : Nat} {e : TypeId} {v : Value} {xs : List Value} (h : w.ownsRow base e size v n xs) : ∃ A c, v = .slice A n c ∧ n ≤ c := by
  rcases h.2 with ⟨rfl, rfl⟩ | ⟨g, cap, cur, rfl, _, _, hle, _⟩
  · exact ⟨none, 0, rfl, Nat.le_refl _⟩
  · exact ⟨_, cap, rfl, hle⟩
theorem mx_al (w : World) (o : Obj) : Below w.heap.size w (w.alloc o) := (Below.refl _ _).alloc (Nat.le_refl _) _
theorem mx_drew (w : World) : Below w.heap.size w w.drew := (Below.refl _ _).drew
theorem mx_drewN (w : World) (n : Nat) : Below w.heap.size w (w.drewN n) := ⟨rfl, rfl, rfl, Nat.le_refl _, fun _ _ => rfl⟩
/-- a row with at least one element is a block -/
theorem mx_some {w : World} {base size n : Nat} {e : TypeId} {v : Value} {xs : List Value} (h : w.ownsRow base e size v n xs) (hn : 0 < n) : ∃ g c cs, v = .slice (some ⟨g, 0, none⟩) n c ∧ n ≤ c ∧ base ≤ g ∧ g < w.heap.size ∧ w.heap[g]? = some (.cells cs e (0, 0)) ∧ cs.toList.take (n * size) = xs := by
  rcases h.2 with ⟨_, h0⟩ | ⟨g, cap, cur, hv, hb, hg, hle, _, _, hx⟩
  · omega
  · exact ⟨g, cap, cur, hv, hle, hb, heap_lt hg, hg, hx⟩
/-- a row's cell -/
theorem mx_at {w : World} {base size n c g j : Nat} {e : TypeId} {xs : List Value} {u : Value} (h : w.ownsRow base e size (.slice (some ⟨g, 0, none⟩) n c) n xs) (hj : xs[j]? = some u) : w.cell? ⟨g, j, none⟩ = some u := by
  rcases h.2 with ⟨h0, _⟩ | ⟨g', cap, cur, hv, _, hg, _, _, _, hx⟩
  · cases h0
  · cases hv
    rw [mx_cell hg, ← Array.getElem?_toList]
    rw [← hx, List.getElem?_take] at hj
    split at hj
    · exact hj
    · cases hj
theorem IntsIn.lt {O : Nat → Prop} {w : World} {v : Value} {xs : List Int} (h : IntsIn O w v xs) : IntsIn (fun g => O g ∧ g < w.heap.size) w v xs := by
 obtain ⟨A, c, hv, hc, hn, hx⟩ := h
 refine ⟨A, c, hv, hc, hn, fun i x hi => ?_⟩
 obtain ⟨g, o, h1, h2, h3, h4⟩ := hx i x hi
 exact ⟨g, o, h1, h2, ⟨h3, h2⟩, h4⟩
theorem mx_not {w : World} {base n size : Nat} {e T : TypeId} {v : Value} {xs : List Value} {b : Nat} {cs : Array Value} (h : w.ownsRow base e size v n xs) (hb : w.heap[b]? = some (.cells cs T (0, 0))) (hT : T ≠ e) : v.ownBlock ≠ some b := by
  intro hg
  obtain ⟨c', hc'⟩ := own_type h b hg
  rw [hb] at hc'
  cases hc'
  exact hT rfl
theorem mx_apart {w : World} {base n size base' n' size' : Nat} {e e' : TypeId} {v v' : Value} {xs xs' : List Value} (h : w.ownsRow base e size v n xs) (h' : w.ownsRow base' e' size' v' n' xs') (he : e ≠ e') {g : Nat} (hg : v.ownBlock = some g) : v'.ownBlock ≠ some g := by
  obtain ⟨c, hc⟩ := own_type h g hg
  exact mx_not h' hc he
end Go.Proofs.YthhpffdbipgkcaaGreatDoor
