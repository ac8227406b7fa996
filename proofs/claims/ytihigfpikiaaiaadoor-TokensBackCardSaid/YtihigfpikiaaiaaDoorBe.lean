/- The walk of Made. -/
import Derived.Test.YtihigfpikiaaiaaDoorBd
import Derived.Test.YtihigfpikiaaiaaDoorBa
namespace Go.Proofs.YtihigfpikiaaiaaDoor
open Go.RowKit

/-- the bytes of a slice that came in -/
def BytesAt (w : World) (A : Option Addr) (l : List Nat) : Prop :=
  ∀ (i n : Nat), l[i]? = some n → n < 256 ∧ ∃ (ab ao : Nat), A = some ⟨ab, ao, none⟩ ∧ ab < w.heap.size ∧ w.cell? ⟨ab, ao + i, none⟩ = some (.int .u8 (n : Int))
theorem BytesAt.below {w w' : World} {A : Option Addr} {l : List Nat} (h : BytesAt w A l) (hb : Below w.heap.size w w') : BytesAt w' A l := fun i n hi => by
  obtain ⟨h1, ab, ao, h2, h3, h4⟩ := h i n hi
  exact ⟨h1, ab, ao, h2, Nat.lt_of_lt_of_le h3 hb.size, (hb.cell (p := ⟨ab, ao + i, none⟩) h3).trans h4⟩

def signsA : List ByteArray := Lib.charsB signsS ++ [⟨#[60, 60]⟩, ⟨#[62, 62]⟩, ⟨#[61, 61]⟩, ⟨#[33, 61]⟩, ⟨#[60, 61]⟩]
theorem signsA_list : signsA.map (·.data.toList) = Tk.signsL := by decide +kernel
theorem signsA_get (j : Nat) (h : j < 26) : (signsA.map Value.string)[j]? = some (.string ⟨(Tk.signsL.getD j []).toArray⟩) := by
  have hl : signsA.length = 26 := by
    have := congrArg List.length signsA_list
    rw [List.length_map] at this
    exact this
  have h1 : j < signsA.length := by omega
  have h2 : Tk.signsL[j]? = some (signsA[j].data.toList) := by rw [← signsA_list, List.getElem?_map, List.getElem?_eq_getElem h1]; rfl
  rw [List.getElem?_map, List.getElem?_eq_getElem h1, List.getD_eq_getElem?_getD, h2]
  rfl
theorem cells_list_new (W : World) (xs : List Value) (t : TypeId) : ∀ j u, xs[j]? = some u → (W.alloc (.cells xs.toArray t)).cell? ((⟨W.heap.size, 0, none⟩ : Addr).add j) = some u := by
  intro j u h
  have e : (⟨W.heap.size, 0, none⟩ : Addr).add j = ⟨W.heap.size, j, none⟩ := by unfold Addr.add; split <;> simp_all
  rw [e, cells_new]
  simpa using h
theorem made_cell (w3 : World) (g cap base j n : Nat) (h : w3.ownsRow base 9 1 (.slice (some ⟨g, 0, none⟩) (21 + 5) cap) (21 + 5) ((Lib.charsB signsS).map Value.string ++ [.string ⟨#[60, 60]⟩, .string ⟨#[62, 62]⟩, .string ⟨#[61, 61]⟩, .string ⟨#[33, 61]⟩, .string ⟨#[60, 61]⟩])) (hs : (signsA.map Value.string)[j]? = some (.string (wordS n))) : w3.cell? ⟨g, j, none⟩ = some (.string (wordS n)) := by
  have hc := h.cells (g := g) rfl j (.string (wordS n)) (by rw [signsA, List.map_append] at hs; exact hs)
  have e : (⟨g, 0, none⟩ : Addr).add j = ⟨g, j, none⟩ := by unfold Addr.add; split <;> simp_all
  rwa [e] at hc
theorem kept_far {w0 w1 w2 w3 : World} {b1 n m : Nat} {u v : Value} {xs ys zs : List Value} {e : TypeId} (h : w1.ownsRow b1 e 1 u n xs) (h0 : w0.ownsRow b1 e 1 u n zs) (hr : w2.ownsRow w0.heap.size e 1 v m ys) (hg : w1.grownBy w3 v.ownBlock) : w3.ownsRow b1 e 1 u n xs := by
  refine h.kept hg ?_
  cases hq : u.ownBlock with
  | none => exact .inl rfl
  | some q =>
    refine .inr (fun e => ?_)
    have h1 := (h0.lt q hq).2
    have h2 := (hr.lt q e.symm).1
    omega
theorem split_own (w : World) : Calls Tryd.prog 34 #[.string signsS, .string ⟨#[]⟩] w fun e w' =>
    ∃ b, e = .returned (.slice (some ⟨b, 0, none⟩) 21 21) ∧ w'.ownsRow w.heap.size 9 1 (.slice (some ⟨b, 0, none⟩) 21 21) 21 ((Lib.charsB signsS).map Value.string) ∧ Below w.heap.size w w' := by
  refine (split_signs w).mono ?_
  rintro e w' ⟨he, rfl⟩
  have hcl : (Lib.charsB signsS).length = 21 := Lib.charsUpTo_length _ _
  have hit : w.heap.size ≤ (w.iter signsS 21).heap.size := by show w.heap.size ≤ (w.alloc _).heap.size; simp
  refine ⟨_, he, ⟨by simp [hcl], .inr ⟨_, 21, _, rfl, hit, World.alloc_heap_new _ _, Nat.le_refl _, by unfold maxLen; omega, by simp [hcl], by rw [List.take_of_length_le (by simp [hcl])]⟩⟩, ?_⟩
  exact ((Below.refl _ _).alloc (Nat.le_refl _) (.stringIter signsS 21)).alloc hit _

set_option maxRecDepth 100000 in
set_option maxHeartbeats 8000000 in
theorem made_any (A : Option Addr) (c : Nat) (l : List Nat) (w : World) (hl : BytesAt w A l) (hc : l.length ≤ c) :
    Calls Tryd.prog 19 #[.slice A l.length c] w fun e w' => ∃ v, e = .returned v ∧ w'.ownsRow w.heap.size 9 1 v (l.take 40).length ((l.take 40).map fun n => Value.string (wordS n)) ∧ Below w.heap.size w w' := by
  obtain ⟨i0, hi, hz0, hz1, hz2⟩ := info_parts info9
  have HL := Lib.hid hl
  clear hl
  obtain ⟨N, hN⟩ : ∃ N : Nat, min l.length 40 = N := ⟨_, rfl⟩
  have hmin : min (l.length : Int) 40 = (N : Int) := by omega
  have hN40 : N ≤ 40 := by omega
  have hNl : N ≤ l.length := by omega
  have htl : (l.take 40).length = N := by rw [List.length_take]; omega
  rw [htl]
  go_enter Tryd.func19, Tryd.ntmps19
  go_wp2_with fail
  go_loopw [3, 13] (fun v i wr => ∃ k : Nat, k ≤ N ∧ i = .int .i64 k ∧ wr.ownsRow w.heap.size 9 1 v k ((l.take k).map fun n => Value.string (wordS n)) ∧ Hid (Below w.heap.size w wr)) (fun _ i _ => N - (intOf i).toNat)
  case atStart => exact ⟨0, by omega, rfl, World.ownsRow_nil _ _ _ _, Lib.hid (Below.refl _ _)⟩
  case round =>
    obtain ⟨k, hk, rfl, hrow, HB⟩ := hrel
    by_cases hlt : k < N
    · obtain ⟨n, hn⟩ : ∃ n, l[k]? = some n := ⟨_, List.getElem?_eq_getElem (by omega)⟩
      obtain ⟨h256, ab, ao, rfl, hab, hce⟩ := HL.out k n hn
      have d0 := (HB.out.cell (p := ⟨ab, ao + k, none⟩) hab).trans hce
      have htk := Lib.hid (show (l.take (k + 1)).map (fun n => Value.string (wordS n)) = (l.take k).map (fun n => Value.string (wordS n)) ++ [.string (wordS n)] by rw [List.take_add_one, hn]; simp)
      have HO := Lib.hid hrow
      clear hn hce hrow
      rcases (show n % 4 = 0 ∨ n % 4 = 1 ∨ n % 4 = 2 ∨ n % 4 = 3 by omega) with h4 | h4 | h4 | h4
      · have e0 : ((n : Int) % 4 == 0) = true := by simp; omega
        have hwd : [Value.string ⟨#[97]⟩, .string ⟨#[120, 95, 49]⟩, .string ⟨#[112, 46, 121]⟩, .string ⟨#[119, 104, 105, 108, 101]⟩, .string ⟨#[122, 57, 46]⟩][n / 4 % 5]? = some (.string (wordS n)) := by
          unfold wordS wordOf
          rw [if_pos h4]
          have := Nat.mod_lt (n / 4) (show 0 < 5 by omega)
          generalize n / 4 % 5 = j at this
          rcases (show j = 0 ∨ j = 1 ∨ j = 2 ∨ j = 3 ∨ j = 4 by omega) with h | h | h | h | h <;> subst h <;> rfl
        have hone : ∀ j u, [Value.string (wordS n)][j]? = some u → ((wr.alloc (.cells #[Value.string ⟨#[97]⟩, .string ⟨#[120, 95, 49]⟩, .string ⟨#[112, 46, 121]⟩, .string ⟨#[119, 104, 105, 108, 101]⟩, .string ⟨#[122, 57, 46]⟩] 9)).alloc (.cells #[.string (wordS n)] 9)).cell? ((⟨wr.heap.size + 1, 0, none⟩ : Addr).add j) = some u := by simpa using cell_one_new (wr.alloc (.cells #[Value.string ⟨#[97]⟩, .string ⟨#[120, 95, 49]⟩, .string ⟨#[112, 46, 121]⟩, .string ⟨#[119, 104, 105, 108, 101]⟩, .string ⟨#[122, 57, 46]⟩] 9)) (.string (wordS n)) 9
        have hO2 := Lib.hid ((HO.out.alloc (.cells #[Value.string ⟨#[97]⟩, .string ⟨#[120, 95, 49]⟩, .string ⟨#[112, 46, 121]⟩, .string ⟨#[119, 104, 105, 108, 101]⟩, .string ⟨#[122, 57, 46]⟩] 9)).alloc (.cells #[.string (wordS n)] 9))
        have hBs := HB.out.size
        have hBa := (HB.out.alloc hBs (.cells #[Value.string ⟨#[97]⟩, .string ⟨#[120, 95, 49]⟩, .string ⟨#[112, 46, 121]⟩, .string ⟨#[119, 104, 105, 108, 101]⟩, .string ⟨#[122, 57, 46]⟩] 9))
        have hBb := Lib.hid (hBa.alloc hBa.size (.cells #[.string (wordS n)] 9))
        have HONE := Lib.hid hone
        clear h4 hone hBa
        go_wp2_with (at_builtin; refine wpList_append_own_at _ rfl _ _ 40 rfl w.heap.size 9 i0 (.string ⟨#[]⟩) 1 16 Tryd.underlying40 hi hz0 hz1 hz2 rfl (by decide) _ _ _ rfl hO2.out ⟨wr.heap.size + 1, 0, none⟩ 1 1 [.string (wordS n)] rfl rfl HONE.out (by simp [Value.oneCell']) (by unfold maxLen; omega) (by omega) (by simp; omega) ?_; intro v' w3 hown' hgrow hnl hat)
        have hB3 : Below w.heap.size w w3 := hBb.out.grown hgrow (by simp; omega) (fun g' hg' => own_lt HO.out g' hg')
        go_roundw
        case rel => exact ⟨k + 1, by omega, by go_num, by rw [htk.out]; exact hown', Lib.hid hB3⟩
        case measure => simp [intOf]; omega
      · have e0 : ((n : Int) % 4 == 0) = false := by simp; omega
        have e1 : ((n : Int) % 4 == 1) = true := by simp; omega
        have hwd : [Value.string ⟨#[48]⟩, .string ⟨#[49, 50]⟩, .string ⟨#[48, 48, 55]⟩, .string ⟨#[57, 57, 57, 57, 57, 57, 57, 57, 57, 57, 57, 57]⟩][n / 4 % 4]? = some (.string (wordS n)) := by
          unfold wordS wordOf
          rw [if_neg (by omega), if_pos h4]
          have := Nat.mod_lt (n / 4) (show 0 < 4 by omega)
          generalize n / 4 % 4 = j at this
          rcases (show j = 0 ∨ j = 1 ∨ j = 2 ∨ j = 3 by omega) with h | h | h | h <;> subst h <;> rfl
        have hone : ∀ j u, [Value.string (wordS n)][j]? = some u → ((wr.alloc (.cells #[Value.string ⟨#[48]⟩, .string ⟨#[49, 50]⟩, .string ⟨#[48, 48, 55]⟩, .string ⟨#[57, 57, 57, 57, 57, 57, 57, 57, 57, 57, 57, 57]⟩] 9)).alloc (.cells #[.string (wordS n)] 9)).cell? ((⟨wr.heap.size + 1, 0, none⟩ : Addr).add j) = some u := by simpa using cell_one_new (wr.alloc (.cells #[Value.string ⟨#[48]⟩, .string ⟨#[49, 50]⟩, .string ⟨#[48, 48, 55]⟩, .string ⟨#[57, 57, 57, 57, 57, 57, 57, 57, 57, 57, 57, 57]⟩] 9)) (.string (wordS n)) 9
        have hO2 := Lib.hid ((HO.out.alloc (.cells #[Value.string ⟨#[48]⟩, .string ⟨#[49, 50]⟩, .string ⟨#[48, 48, 55]⟩, .string ⟨#[57, 57, 57, 57, 57, 57, 57, 57, 57, 57, 57, 57]⟩] 9)).alloc (.cells #[.string (wordS n)] 9))
        have hBs := HB.out.size
        have hBa := (HB.out.alloc hBs (.cells #[Value.string ⟨#[48]⟩, .string ⟨#[49, 50]⟩, .string ⟨#[48, 48, 55]⟩, .string ⟨#[57, 57, 57, 57, 57, 57, 57, 57, 57, 57, 57, 57]⟩] 9))
        have hBb := Lib.hid (hBa.alloc hBa.size (.cells #[.string (wordS n)] 9))
        have HONE := Lib.hid hone
        clear h4 hone hBa
        go_wp2_with (at_builtin; refine wpList_append_own_at _ rfl _ _ 40 rfl w.heap.size 9 i0 (.string ⟨#[]⟩) 1 16 Tryd.underlying40 hi hz0 hz1 hz2 rfl (by decide) _ _ _ rfl hO2.out ⟨wr.heap.size + 1, 0, none⟩ 1 1 [.string (wordS n)] rfl rfl HONE.out (by simp [Value.oneCell']) (by unfold maxLen; omega) (by omega) (by simp; omega) ?_; intro v' w3 hown' hgrow hnl hat)
        have hB3 : Below w.heap.size w w3 := hBb.out.grown hgrow (by simp; omega) (fun g' hg' => own_lt HO.out g' hg')
        go_roundw
        case rel => exact ⟨k + 1, by omega, by go_num, by rw [htk.out]; exact hown', Lib.hid hB3⟩
        case measure => simp [intOf]; omega
      · have e0 : ((n : Int) % 4 == 0) = false := by simp; omega
        have e1 : ((n : Int) % 4 == 1) = false := by simp; omega
        have e2 : ((n : Int) % 4 == 2) = true := by simp; omega
        have hwd : [Value.string ⟨#[49, 58, 52]⟩, .string ⟨#[48, 58, 49, 54]⟩, .string ⟨#[49, 53, 58, 52]⟩][n / 4 % 3]? = some (.string (wordS n)) := by
          unfold wordS wordOf
          rw [if_neg (by omega), if_neg (by omega), if_pos h4]
          have := Nat.mod_lt (n / 4) (show 0 < 3 by omega)
          generalize n / 4 % 3 = j at this
          rcases (show j = 0 ∨ j = 1 ∨ j = 2 by omega) with h | h | h <;> subst h <;> rfl
        have hone : ∀ j u, [Value.string (wordS n)][j]? = some u → ((wr.alloc (.cells #[Value.string ⟨#[49, 58, 52]⟩, .string ⟨#[48, 58, 49, 54]⟩, .string ⟨#[49, 53, 58, 52]⟩] 9)).alloc (.cells #[.string (wordS n)] 9)).cell? ((⟨wr.heap.size + 1, 0, none⟩ : Addr).add j) = some u := by simpa using cell_one_new (wr.alloc (.cells #[Value.string ⟨#[49, 58, 52]⟩, .string ⟨#[48, 58, 49, 54]⟩, .string ⟨#[49, 53, 58, 52]⟩] 9)) (.string (wordS n)) 9
        have hO2 := Lib.hid ((HO.out.alloc (.cells #[Value.string ⟨#[49, 58, 52]⟩, .string ⟨#[48, 58, 49, 54]⟩, .string ⟨#[49, 53, 58, 52]⟩] 9)).alloc (.cells #[.string (wordS n)] 9))
        have hBs := HB.out.size
        have hBa := (HB.out.alloc hBs (.cells #[Value.string ⟨#[49, 58, 52]⟩, .string ⟨#[48, 58, 49, 54]⟩, .string ⟨#[49, 53, 58, 52]⟩] 9))
        have hBb := Lib.hid (hBa.alloc hBa.size (.cells #[.string (wordS n)] 9))
        have HONE := Lib.hid hone
        clear h4 hone hBa
        go_wp2_with (at_builtin; refine wpList_append_own_at _ rfl _ _ 40 rfl w.heap.size 9 i0 (.string ⟨#[]⟩) 1 16 Tryd.underlying40 hi hz0 hz1 hz2 rfl (by decide) _ _ _ rfl hO2.out ⟨wr.heap.size + 1, 0, none⟩ 1 1 [.string (wordS n)] rfl rfl HONE.out (by simp [Value.oneCell']) (by unfold maxLen; omega) (by omega) (by simp; omega) ?_; intro v' w3 hown' hgrow hnl hat)
        have hB3 : Below w.heap.size w w3 := hBb.out.grown hgrow (by simp; omega) (fun g' hg' => own_lt HO.out g' hg')
        go_roundw
        case rel => exact ⟨k + 1, by omega, by go_num, by rw [htk.out]; exact hown', Lib.hid hB3⟩
        case measure => simp [intOf]; omega
      · have e0 : ((n : Int) % 4 == 0) = false := by simp; omega
        have e1 : ((n : Int) % 4 == 1) = false := by simp; omega
        have e2 : ((n : Int) % 4 == 2) = false := by simp; omega
        have hws : wordS n = ⟨(Tk.signsL.getD (n / 4 % 26) []).toArray⟩ := by
          unfold wordS wordOf
          rw [if_neg (by omega), if_neg (by omega), if_neg (by omega)]
        have hsg := signsA_get (n / 4 % 26) (Nat.mod_lt _ (by omega))
        rw [← hws] at hsg
        have HSG := Lib.hid hsg
        have hBs := HB.out.size
        clear h4 hws hsg
        go_wp2_with fail
        refine (split_own _).mono ?_
        rintro e w2 ⟨b, rfl, hr2, hb2⟩
        have HR2 := Lib.hid hr2
        have HB2 := Lib.hid hb2
        have hs2 := hb2.size
        clear hr2 hb2
        have hB5 := Lib.hid (HB2.out.alloc hs2 (.cells #[.string ⟨#[60, 60]⟩, .string ⟨#[62, 62]⟩, .string ⟨#[61, 61]⟩, .string ⟨#[33, 61]⟩, .string ⟨#[60, 61]⟩] 9))
        have hC5 := Lib.hid (cells_list_new w2 [.string ⟨#[60, 60]⟩, .string ⟨#[62, 62]⟩, .string ⟨#[61, 61]⟩, .string ⟨#[33, 61]⟩, .string ⟨#[60, 61]⟩] 9)
        have hR5 := Lib.hid (HR2.out.alloc (.cells #[.string ⟨#[60, 60]⟩, .string ⟨#[62, 62]⟩, .string ⟨#[61, 61]⟩, .string ⟨#[33, 61]⟩, .string ⟨#[60, 61]⟩] 9))
        have hO5 := Lib.hid ((own_below HO.out HB2.out).alloc (.cells #[.string ⟨#[60, 60]⟩, .string ⟨#[62, 62]⟩, .string ⟨#[61, 61]⟩, .string ⟨#[33, 61]⟩, .string ⟨#[60, 61]⟩] 9))
        go_wp2_with (at_builtin; first | (refine wpList_append_own_at _ rfl _ _ 40 rfl w.heap.size 9 i0 (.string ⟨#[]⟩) 1 16 Tryd.underlying40 hi hz0 hz1 hz2 rfl (by decide) _ _ _ rfl (hO6.out.alloc _) ⟨w3.heap.size, 0, none⟩ 1 1 [.string (wordS n)] rfl rfl (cell_one_new _ _ _) (by simp [Value.oneCell']) (by unfold maxLen; omega) (by omega) (by simp; omega) ?_; intro v'' w4 hown2 hgrow2 hnl2 hat2) | (refine wpList_append_own_at _ rfl _ _ 40 rfl wr.heap.size 9 i0 (.string ⟨#[]⟩) 1 16 Tryd.underlying40 hi hz0 hz1 hz2 rfl (by decide) _ _ _ rfl hR5.out ⟨w2.heap.size, 0, none⟩ 5 5 [.string ⟨#[60, 60]⟩, .string ⟨#[62, 62]⟩, .string ⟨#[61, 61]⟩, .string ⟨#[33, 61]⟩, .string ⟨#[60, 61]⟩] rfl rfl hC5.out (by simp [Value.oneCell']) (by unfold maxLen; omega) (by omega) (by simp; omega) ?_; intro v' w3 hown' hgrow hnl hat; obtain ⟨g', cap', rfl⟩ := ownsRow_succ hown'; have hd1 := made_cell w3 g' cap' wr.heap.size (n / 4 % 26) n hown' HSG.out; have hb3 : Below wr.heap.size wr w3 := hB5.out.grown hgrow (by simp; omega) (fun g hg => (hR5.out.lt g hg).1); have hO6 := Lib.hid (kept_far hO5.out HO.out hR5.out hgrow); have hs3 := hb3.size; have hB6 := Lib.hid (HB.out.trans (hb3.mono hBs)); have hs6 := hB6.out.size))
        have hB7 : Below w.heap.size w w4 := (hB6.out.alloc hs6 _).grown hgrow2 (by simp; omega) (fun g' hg' => own_lt HO.out g' hg')
        go_roundw
        case rel => exact ⟨k + 1, by omega, by go_num, by rw [htk.out]; exact hown2, Lib.hid hB7⟩
        case measure => simp [intOf]; omega
    · obtain rfl : k = N := by omega
      have htl2 : l.take 40 = l.take k := by
        rcases Nat.lt_or_ge l.length 40 with h | h
        · rw [List.take_of_length_le (by omega), List.take_of_length_le (by omega)]
        · rw [show k = 40 by omega]
      rw [← htl2] at hrow
      go_wp2_with fail
      go_ret
      exact ⟨_, rfl, hrow, HB.out⟩
end Go.Proofs.YtihigfpikiaaiaaDoor
