/- Words with gaps by index: the law's two ways (gaps that come in, or spaces), and that a tidy text is its own. -/
import Derived.Test.YtihigfpikiaaiaaDoorBb
namespace Go.Proofs.YtihigfpikiaaiaaDoor
open Go.RowKit

def mkP (gf : Nat → List UInt8) : Nat → List (List UInt8) → List (List UInt8 × List UInt8)
  | _, [] => []
  | i, w :: ws => (gf i, w) :: mkP gf (i + 1) ws
theorem mkP_len (gf : Nat → List UInt8) (i : Nat) (ws : List (List UInt8)) : (mkP gf i ws).length = ws.length := by
  induction ws generalizing i with
  | nil => rfl
  | cons w ws ih => simp only [mkP, List.length_cons, ih]
theorem mkP_snd (gf : Nat → List UInt8) (i : Nat) (ws : List (List UInt8)) : (mkP gf i ws).map (·.2) = ws := by
  induction ws generalizing i with
  | nil => rfl
  | cons w ws ih => simp only [mkP, List.map_cons, ih]
theorem mkP_get (gf : Nat → List UInt8) (i : Nat) (ws : List (List UInt8)) (j : Nat) (w : List UInt8) (h : ws[j]? = some w) : (mkP gf i ws)[j]? = some (gf (i + j), w) := by
  induction ws generalizing i j with
  | nil => simp at h
  | cons v ws ih =>
    cases j with
    | zero => simp only [List.getElem?_cons_zero, Option.some.injEq] at h; subst h; rfl
    | succ j =>
      simp only [mkP, List.getElem?_cons_succ] at h ⊢
      rw [ih (i + 1) j h, show i + 1 + j = i + (j + 1) by omega]
theorem mkP_good (gf : Nat → List UInt8) (i : Nat) (ws : List (List UInt8)) (h1 : ∀ j, Tk.Gap (gf j)) (h2 : ∀ j r, i < j → Tk.stops (gf j ++ r) = true) (h3 : ∀ w ∈ ws, ∃ k, Tk.Word w k) : Tk.Good (mkP gf i ws) := by
  induction ws generalizing i with
  | nil => trivial
  | cons w ws ih =>
    refine ⟨h1 i, h3 w (List.mem_cons_self), ?_, ih (i + 1) (fun j r hj => h2 j r (by omega)) (fun v hv => h3 v (List.mem_cons_of_mem _ hv))⟩
    cases ws with
    | nil => rfl
    | cons v ws => exact h2 (i + 1) _ (by omega)

/-! ### the two ways -/
/-- spaces between -/
def spF : Nat → List UInt8
  | 0 => []
  | _ + 1 => [32]
theorem spF_gap (j : Nat) : Tk.Gap (spF j) := by
  cases j with
  | zero => intro r; simp [spF]
  | succ j => intro r; simp [spF, Tk.bl, Tk.blankB]
theorem spF_stops (j : Nat) (r : List UInt8) (h : 0 < j) : Tk.stops (spF j ++ r) = true := by
  cases j with
  | zero => omega
  | succ j => rfl
theorem front_gap (n : Nat) (h : n < 5) : Tk.Gap (frontAt n).data.toList := by
  intro r
  rw [bl_front n r h, size_list]
theorem front_stops (n : Nat) (r : List UInt8) (h : n < 5) : Tk.stops ((frontAt n).data.toList ++ r) = true := by
  rcases (show n = 0 ∨ n = 1 ∨ n = 2 ∨ n = 3 ∨ n = 4 by omega) with h | h | h | h | h <;> subst h <;> rfl
theorem flat_tail (ws : List (List UInt8)) (i : Nat) : Tk.flat (mkP spF (i + 1) ws) = Lib.joinTail [32] ws := by
  induction ws generalizing i with
  | nil => rfl
  | cons w ws ih =>
    simp only [mkP, Tk.flat, ih, spF]
    simp [Lib.joinTail]
theorem flat_join (ws : List (List UInt8)) : Tk.flat (mkP spF 0 ws) = Lib.join ws [32] := by
  cases ws with
  | nil => rfl
  | cons w ws =>
    rw [Lib.join_cons]
    simp only [mkP, Tk.flat, spF, flat_tail]
    rfl
theorem sp_good (ws : List (List UInt8)) (h3 : ∀ w ∈ ws, ∃ k, Tk.Word w k) : Tk.Good (mkP spF 0 ws) := mkP_good spF 0 ws spF_gap (fun j r hj => spF_stops j r hj) h3

/-- a text of words with gaps, whole -/
structure TextOf (T : ByteArray) (gf : Nat → List UInt8) (ws : List (List UInt8)) : Prop where
  data : T.data.toList = Tk.flat (mkP gf 0 ws)
  good : Tk.Good (mkP gf 0 ws)
  word : ∀ w ∈ ws, ∃ k, Tk.Word w k
theorem TextOf.tidy {T : ByteArray} {gf : Nat → List UInt8} {ws : List (List UInt8)} (h : TextOf T gf ws) : (tidyS T).data.toList = Lib.join ws [32] := by
  unfold tidyS
  rw [flat_tidy T _ h.data h.good, mkP_snd]
theorem TextOf.again {T : ByteArray} {gf : Nat → List UInt8} {ws : List (List UInt8)} (h : TextOf T gf ws) : TextOf (tidyS T) spF ws :=
  ⟨by rw [h.tidy, flat_join], sp_good ws h.word, h.word⟩
theorem TextOf.same {T : ByteArray} {gf : Nat → List UInt8} {ws : List (List UInt8)} (h : TextOf T gf ws) : tidyS (tidyS T) = tidyS T := by
  apply ByteArray.ext
  apply Array.toList_inj.1
  rw [h.again.tidy, h.tidy]
/-- where the words stand -/
def atL (gf : Nat → List UInt8) (ws : List (List UInt8)) : List Nat := Tk.posOf 0 (mkP gf 0 ws)
theorem TextOf.scan {T : ByteArray} {gf : Nat → List UInt8} {ws : List (List UInt8)} (h : TextOf T gf ws) : scanErr T = 0 ∧ stopAt T = T.size ∧ scanL T = atL gf ws ∧ (atL gf ws).length = ws.length := by
  obtain ⟨a, b, c⟩ := flat_scan T _ h.data h.good
  exact ⟨a, b, c, by unfold atL; rw [posOf_len, mkP_len]⟩
theorem TextOf.tok {T : ByteArray} {gf : Nat → List UInt8} {ws : List (List UInt8)} (h : TextOf T gf ws) (i : Nat) (w : List UInt8) (p : Nat) (hi : ws[i]? = some w) (hp : (atL gf ws)[i]? = some p) :
    tkEnd T p = p + w.length ∧ 1 ≤ tkKind T p ∧ tkKind T p ≤ 4 ∧ (tokS T p).data.toList = w ∧ p + w.length ≤ T.size :=
  flat_tok T _ h.data h.good i (gf (0 + i)) w p (mkP_get gf 0 ws i w hi) hp
end Go.Proofs.YtihigfpikiaaiaaDoor
