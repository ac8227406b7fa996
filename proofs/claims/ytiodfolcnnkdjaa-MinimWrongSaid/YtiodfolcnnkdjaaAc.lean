/- The arena: is, entry, Get, New. -/
import Derived.Test.YtiodfolcnnkdjaaAb
import Derived.Test.YtiodfolcnnkdjaaMb
namespace Go.Proofs.Ytiodfolcnnkdjaa
open Go.RowKit

theorem ar_is {O : Nat → Prop} (b : Nat) (A : Arn) (w : World) (h : ArAt O w b A) : Calls Try.prog 33 #[.pointer (some ⟨b, 0, none⟩)] w fun e w' => e = .returned (.bool true) ∧ w = w' := by
  obtain ⟨hk, stv, alv, h⟩ := h
  have c5 : w.cell? ⟨b, 5, none⟩ = some (.bool true) := mx_cell (j := 5) h.block
  clear h hk
  go_enter Try.func33, Try.ntmps33
  go_wp2_with fail
  go_ret
  exact ⟨rfl, rfl⟩
theorem ar_new (w : World) : Calls Try.prog 17 #[] w fun e w' => e = .returned (.pointer (some ⟨w.heap.size, 0, none⟩)) ∧ ArAt (fun g => g = w.heap.size) w' w.heap.size ⟨[], [], 0, 0, 0⟩ ∧ w' = w.alloc (.cells #[.slice none 0 0, .slice none 0 0, .int .i64 0, .int .i64 0, .int .i64 0, .bool true] 79) := by
  go_enter Try.func17, Try.ntmps17
  go_wp2_with fail
  go_ret
  exact ⟨rfl, ⟨⟨List.Pairwise.nil, (fun e he => by cases he), ⟨by simp, by simp⟩, ⟨by simp, by simp, by simp, by simp⟩, (fun e he => by cases he)⟩, .slice none 0 0, .slice none 0 0, ⟨(fun g hg => by rw [hg]; simp), rfl, World.alloc_heap_new _ _, World.ownsRow_nil _ _ _ _, (fun g hg => by cases hg), World.ownsRow_nil _ _ _ _, fun g hg => by cases hg⟩⟩, rfl⟩
/-- what entry returns -/
def Arn.ent (A : Arn) (id : Int) : Option Ent := match A.find id with
  | some p => A.all[p]?
  | none => none
def entVal : Option Ent → Value
  | some x => .tuple #[.agg #[.int .i64 (x.fr : Nat), .int .i64 (x.upto : Nat), .int .i64 x.id, .bool x.gone], .int .i64 0]
  | none => .tuple #[.agg #[.int .i64 0, .int .i64 0, .int .i64 0, .bool false], .int .i64 30]
theorem mx_set4 {b : Nat} {w W : World} (h : Below b w W) {g : Nat} (hg : b ≤ g) (v0 v1 v2 v3 : Value) : Below b w ((((W.setCell ⟨g, 0, none⟩ v0).setCell ⟨g, 1, none⟩ v1).setCell ⟨g, 2, none⟩ v2).setCell ⟨g, 3, none⟩ v3) :=
  (((h.setCell (p := ⟨g, 0, none⟩) hg v0).setCell (p := ⟨g, 1, none⟩) hg v1).setCell (p := ⟨g, 2, none⟩) hg v2).setCell (p := ⟨g, 3, none⟩) hg v3
theorem Arn.find_lt {A : Arn} {id : Int} {p : Nat} (h : A.find id = some p) : ∃ x, A.all[p]? = some x ∧ x.id = id ∧ x.gone = false := by
  unfold Arn.find at h
  split at h
  · split at h
    · rename_i e he
      split at h
      · rename_i hh
        cases h
        exact ⟨e, he, hh⟩
      · cases h
    · cases h
  · cases h
set_option maxRecDepth 100000 in
set_option maxHeartbeats 2000000 in
theorem ar_entry {O : Nat → Prop} (b : Nat) (A : Arn) (id : Int) (w : World) (h : ArAt O w b A) :
    Calls Try.prog 63 #[.pointer (some ⟨b, 0, none⟩), .int .i64 id] w fun r w' => r = .returned (entVal (A.ent id)) ∧ Below w.heap.size w w' := by
  obtain ⟨wa, hwa⟩ : ∃ x, w.alloc (.cells #[.int .i64 0, .int .i64 0, .int .i64 0, .bool false] 87) = x := ⟨_, rfl⟩
  have hba : Below w.heap.size w wa := by rw [← hwa]; exact mx_al _ _
  have hbn : wa.heap[w.heap.size]? = some (.cells #[.int .i64 0, .int .i64 0, .int .i64 0, .bool false] 87 (0, 0)) := by rw [← hwa]; exact World.alloc_heap_new _ _
  have hza : wa.heap.size = w.heap.size + 1 := by rw [← hwa]; simp
  have h := h.below hba
  have HIS := Lib.hid (ar_is b A wa h)
  have HFI := Lib.hid (ar_find b A id wa h)
  have HWA := Lib.hid hwa
  have HBA := Lib.hid hba
  have HBN := Lib.hid hbn
  obtain ⟨hk, stv, alv, h⟩ := h
  have HM := Lib.hid h
  have hbw := heap_lt h.block
  have hln := hk.lens.1
  clear hwa hba hbn h hk
  have hE : ∀ w1 : World, Below wa.heap.size wa w1 → w1.heap[w.heap.size]? = some (.cells #[.int .i64 0, .int .i64 0, .int .i64 0, .bool false] 87 (0, 0)) ∧ Below w.heap.size w w1 := fun w1 hb1 => ⟨(hb1.block _ (by omega)).trans HBN.out, HBA.out.trans (hb1.mono (by omega))⟩
  have HE := Lib.hid hE
  clear hE
  unfold Arn.ent
  rcases hf : A.find id with _ | p
  · rw [hf, show findInt none = -1 from rfl] at HFI
    clear hf
    go_enter Try.func63, Try.ntmps63
    go_wp2_with fail
    rw [HWA.out]
    refine HIS.out.mono ?_
    rintro e w' ⟨rfl, rfl⟩
    go_wp2_with fail
    refine HFI.out.mono ?_
    rintro e w1 ⟨rfl, hb1⟩
    obtain ⟨hn1, hbb1⟩ := HE.out w1 hb1
    have e0 : w1.cell? ⟨w.heap.size, 0, none⟩ = some (.int .i64 0) := mx_cell (j := 0) hn1
    have e1 : w1.cell? ⟨w.heap.size, 1, none⟩ = some (.int .i64 0) := mx_cell (j := 1) hn1
    have e2 : w1.cell? ⟨w.heap.size, 2, none⟩ = some (.int .i64 0) := mx_cell (j := 2) hn1
    have e3 : w1.cell? ⟨w.heap.size, 3, none⟩ = some (.bool false) := mx_cell (j := 3) hn1
    have f0 := mx_free (j := 0) hn1
    have f1 := mx_free (j := 1) hn1
    have f2 := mx_free (j := 2) hn1
    have f3 := mx_free (j := 3) hn1
    have HB1 := Lib.hid hbb1
    clear hb1 hn1 hbb1
    go_wp2_with fail
    refine bodyPost_ret (v := .tuple #[.agg #[.int .i64 0, .int .i64 0, .int .i64 0, .bool false], .int .i64 30]) (by simp [results, Try.results63, go_sem, e0, e1, e2, e3]) rfl ⟨rfl, mx_set4 HB1.out (Nat.le_refl _) _ _ _ _⟩
  · rw [hf, show findInt (some p) = (p : Int) from rfl] at HFI
    obtain ⟨x, hx, hid, hgn⟩ := Arn.find_lt hf
    have hpl := (List.getElem?_eq_some_iff.1 hx).1
    have q0 : decide ((p : Int) < 0) = false := by simp
    have hplt : (p : Int) < (A.all.length : Int) := by omega
    simp only [hx]
    have HX := Lib.hid hx
    clear hf hx hid hgn
    obtain ⟨ga, ca, cs0, hva, _, _, hga, _⟩ := mx_some HM.out.all (by omega)
    subst hva
    go_enter Try.func63, Try.ntmps63
    go_wp2_with fail
    rw [HWA.out]
    refine HIS.out.mono ?_
    rintro e w' ⟨rfl, rfl⟩
    go_wp2_with fail
    refine HFI.out.mono ?_
    rintro e w1 ⟨rfl, hb1⟩
    obtain ⟨hn1, hbb1⟩ := HE.out w1 hb1
    obtain ⟨c0, c1, c2, c3⟩ := ent_row HM.out.all HX.out
    have d0 := (hb1.cell (p := ⟨ga, p * 4, none⟩) hga).trans c0
    have d1 := (hb1.cell (p := ⟨ga, p * 4 + 1, none⟩) hga).trans c1
    have d2 := (hb1.cell (p := ⟨ga, p * 4 + 2, none⟩) hga).trans c2
    have d3 := (hb1.cell (p := ⟨ga, p * 4 + 3, none⟩) hga).trans c3
    have a1 : w1.cell? ⟨b, 1, none⟩ = some (.slice (some ⟨ga, 0, none⟩) A.all.length ca) := (hb1.cell (p := ⟨b, 1, none⟩) hbw).trans (mx_cell (j := 1) HM.out.block)
    have e0 : w1.cell? ⟨w.heap.size, 0, none⟩ = some (.int .i64 0) := mx_cell (j := 0) hn1
    have e1 : w1.cell? ⟨w.heap.size, 1, none⟩ = some (.int .i64 0) := mx_cell (j := 1) hn1
    have e2 : w1.cell? ⟨w.heap.size, 2, none⟩ = some (.int .i64 0) := mx_cell (j := 2) hn1
    have e3 : w1.cell? ⟨w.heap.size, 3, none⟩ = some (.bool false) := mx_cell (j := 3) hn1
    have f0 := mx_free (j := 0) hn1
    have f1 := mx_free (j := 1) hn1
    have f2 := mx_free (j := 2) hn1
    have f3 := mx_free (j := 3) hn1
    have HB1 := Lib.hid hbb1
    clear hb1 hn1 hbb1 c0 c1 c2 c3
    go_wp2_with fail
    refine bodyPost_ret (v := .tuple #[.agg #[.int .i64 (x.fr : Nat), .int .i64 (x.upto : Nat), .int .i64 x.id, .bool x.gone], .int .i64 0]) (by simp [results, Try.results63, go_sem, e0, e1, e2, e3]) rfl ⟨rfl, mx_set4 HB1.out (Nat.le_refl _) _ _ _ _⟩
end Go.Proofs.Ytiodfolcnnkdjaa
