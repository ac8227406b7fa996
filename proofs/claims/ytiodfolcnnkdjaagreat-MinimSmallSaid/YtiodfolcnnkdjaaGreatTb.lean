/- The trail: Value, Level, Reason, Place, Now, Len, At. -/
import Derived.Test.YtiodfolcnnkdjaaGreatTa
import Derived.Test.YtiodfolcnnkdjaaGreatMk
namespace Go.Proofs.YtiodfolcnnkdjaaGreat
open Go.RowKit

def Trl.level (T : Trl) (v : Int) : Int := match T.why v with
  | some s => s.level
  | none => 0
def Trl.reason (T : Trl) (v : Int) : Int := match T.why v with
  | some s => s.reason
  | none => 0
def Trl.place (T : Trl) (v : Int) : Int := match T.why v with
  | some s => s.place
  | none => 0
theorem Trl.at_get {T : Trl} {v : Int} {s : TV} (h : T.at v = some s) : T.vars[v.toNat]? = some s := by
  unfold Trl.at at h
  split at h
  · exact h
  · cases h
set_option maxHeartbeats 1000000 in
theorem tr_value {O : Nat → Prop} (b : Nat) (T : Trl) (l : Int) (w : World) (h : TrAt O w b T) :
    Calls Tryz.prog 47 #[.pointer (some ⟨b, 0, none⟩), .int .i64 l] w fun e w' => e = .returned (.int .i64 (T.val l)) ∧ Below w.heap.size w w' := by
  obtain ⟨hk, gv, cv, ov, sv, h⟩ := h
  have hst := tr_state b T gv cv ov sv (litV l) w hk h
  have HV := Lib.hid (lit_var l w)
  have HSG := Lib.hid (fun W => tr_sign l W)
  obtain ⟨m, hm⟩ : ∃ m, litV l = m := ⟨_, rfl⟩
  obtain ⟨g, hg⟩ : ∃ g, litS l = g := ⟨_, rfl⟩
  have hgv := litS_abs l
  unfold Trl.val
  rw [hm] at hst HV ⊢
  rw [hg] at hgv HSG ⊢
  rcases hat : T.at (m : Int) with _ | s
  · rw [hat, stateVal_none] at hst
    have HST := Lib.hid hst
    clear hst hat h hk hm hg
    go_enter Tryz.func47, Tryz.ntmps47
    go_wp2_with fail
    refine HV.out.mono ?_
    rintro e w' ⟨rfl, rfl⟩
    go_wp2_with fail
    refine HST.out.mono ?_
    rintro e w' ⟨rfl, rfl⟩
    go_wp2_with fail
    go_ret
    exact ⟨rfl, Below.refl _ _⟩
  · rw [hat, stateVal_some] at hst
    have hget := Trl.at_get hat
    rw [Int.toNat_natCast] at hget hst
    obtain ⟨_, _, _, c3⟩ := h.var hget
    have hval := hk.each s (List.mem_of_getElem? hget)
    have hwr : IntKind.i64.wrap (s.value * g) = s.value * g := IntWalk.i64_in _ (by rcases hval with e | e | e <;> rcases hgv with f | f <;> rw [e, f] <;> omega)
    have HST := Lib.hid hst
    clear hst hat hget h hk hm hg hval hgv
    go_enter Tryz.func47, Tryz.ntmps47
    go_wp2_with fail
    refine HV.out.mono ?_
    rintro e w' ⟨rfl, rfl⟩
    go_wp2_with fail
    refine HST.out.mono ?_
    rintro e w' ⟨rfl, rfl⟩
    go_wp2_with fail
    refine wp_region_held_drew (S := fun w' => w'.cell? ⟨gv, m * 4 + 3, none⟩ = some (.int .i64 s.value)) (by kernel_rfl) c3 (fun hHeld => ?_)
    have hbD := mx_drew w
    obtain ⟨wD, hwD⟩ : ∃ x, w.drew = x := ⟨_, rfl⟩
    rw [hwD] at hHeld hbD ⊢
    clear hwD c3
    refine takeF 0 16 (fun w hSw => hSw) ?_
    refine takeF 1 17 (fun w hSw => hSw) ?_
    refine takeF 2 18 (fun w hSw => hSw) ?_
    refine takeF 3 19 (fun w hSw => hSw) ?_
    refine takeF 4 20 (fun w hSw => hSw) ?_
    refine ready1 5 (fun K hK => ?_)
    go_simp
    refine (HSG.out wD).mono ?_
    rintro e w' ⟨rfl, rfl⟩
    refine hK.out _ _ hHeld (fun hHeld1 => ?_)
    clear hK hHeld1
    refine takeF 6 22 (fun w hSw => hSw) ?_
    refine takeF 7 4 (fun w hSw => hSw) ?_
    refine wpAnyH_done (by kernel_rfl) ?_ _
    go_wp2_with fail
    go_ret
    exact ⟨rfl, hbD⟩
theorem mx_free {w : World} {b j : Nat} {cs : Array Value} {t : TypeId} (h : w.heap[b]? = some (.cells cs t (0, 0))) : w.frozen? ⟨b, j, none⟩ = false := by
  simp [World.frozen?, h]
theorem set3_below {b : Nat} {w W : World} (h : Below b w W) {g : Nat} (hg : b ≤ g) (v0 v1 v2 : Value) : Below b w (((W.setCell ⟨g, 0, none⟩ v0).setCell ⟨g, 1, none⟩ v1).setCell ⟨g, 2, none⟩ v2) :=
  ((h.setCell (p := ⟨g, 0, none⟩) hg v0).setCell (p := ⟨g, 1, none⟩) hg v1).setCell (p := ⟨g, 2, none⟩) hg v2
/-- what why returns -/
def whyVal : Option TV → Value
  | some s => .tuple #[.agg #[.int .i64 s.level, .int .i64 s.reason, .int .i64 s.place], .bool true]
  | none => .tuple #[.agg #[.int .i64 0, .int .i64 0, .int .i64 0], .bool false]
set_option maxHeartbeats 1000000 in
theorem tr_why {O : Nat → Prop} (b : Nat) (T : Trl) (v : Int) (w : World) (h : TrAt O w b T) :
    Calls Tryz.prog 87 #[.pointer (some ⟨b, 0, none⟩), .int .i64 v] w fun e w' => e = .returned (whyVal (T.why v)) ∧ Below w.heap.size w w' := by
  obtain ⟨wa, hwa⟩ : ∃ x, w.alloc (.cells #[.int .i64 0, .int .i64 0, .int .i64 0] 137) = x := ⟨_, rfl⟩
  have hba : Below w.heap.size w wa := by rw [← hwa]; exact mx_al _ _
  have hbn : wa.heap[w.heap.size]? = some (.cells #[.int .i64 0, .int .i64 0, .int .i64 0] 137 (0, 0)) := by rw [← hwa]; exact World.alloc_heap_new _ _
  have h := h.below hba
  obtain ⟨hk, gv, cv, ov, sv, h⟩ := h
  have hst := tr_state b T gv cv ov sv v wa hk h
  have e0 : wa.cell? ⟨w.heap.size, 0, none⟩ = some (.int .i64 0) := mx_cell (j := 0) hbn
  have e1 : wa.cell? ⟨w.heap.size, 1, none⟩ = some (.int .i64 0) := mx_cell (j := 1) hbn
  have e2 : wa.cell? ⟨w.heap.size, 2, none⟩ = some (.int .i64 0) := mx_cell (j := 2) hbn
  have f0 := mx_free (j := 0) hbn
  have f1 := mx_free (j := 1) hbn
  have f2 := mx_free (j := 2) hbn
  have HWA := Lib.hid hwa
  have HBA := Lib.hid hba
  clear hwa hba hbn
  unfold Trl.why
  rcases hat : T.at v with _ | s
  · rw [hat, stateVal_none] at hst
    have HST := Lib.hid hst
    clear hst hat h hk
    go_enter Tryz.func87, Tryz.ntmps87
    go_wp2_with fail
    rw [HWA.out]
    refine HST.out.mono ?_
    rintro e w' ⟨rfl, rfl⟩
    go_wp2_with fail
    refine bodyPost_ret (v := .tuple #[.agg #[.int .i64 0, .int .i64 0, .int .i64 0], .bool false]) (by simp [results, Tryz.results87, go_sem, e0, e1, e2]) rfl ⟨rfl, set3_below HBA.out (Nat.le_refl _) _ _ _⟩
  · rw [hat, stateVal_some] at hst
    have hget := Trl.at_get hat
    obtain ⟨c0, c1, c2, c3⟩ := h.var hget
    obtain ⟨n, hn⟩ : ∃ n, v.toNat = n := ⟨_, rfl⟩
    rw [hn] at hst c0 c1 c2 c3
    have HST := Lib.hid hst
    clear hst hat hget h hk hn
    by_cases hz : s.value = 0
    · have q0 : (s.value == 0) = true := by simpa using hz
      have HZ := Lib.hid hz
      simp only [hz, if_true]
      clear hz
      go_enter Tryz.func87, Tryz.ntmps87
      go_wp2_with fail
      rw [HWA.out]
      refine HST.out.mono ?_
      rintro e w' ⟨rfl, rfl⟩
      go_wp2_with fail
      refine bodyPost_ret (v := .tuple #[.agg #[.int .i64 0, .int .i64 0, .int .i64 0], .bool false]) (by simp [results, Tryz.results87, go_sem, e0, e1, e2]) rfl ⟨rfl, set3_below HBA.out (Nat.le_refl _) _ _ _⟩
    · have q0 : (s.value == 0) = false := by simpa using hz
      simp only [hz, if_false]
      have HZ := Lib.hid hz
      clear hz
      go_enter Tryz.func87, Tryz.ntmps87
      go_wp2_with fail
      rw [HWA.out]
      refine HST.out.mono ?_
      rintro e w' ⟨rfl, rfl⟩
      go_wp2_with fail
      refine bodyPost_ret (v := .tuple #[.agg #[.int .i64 s.level, .int .i64 s.reason, .int .i64 s.place], .bool true]) (by simp [results, Tryz.results87, go_sem, e0, e1, e2]) rfl ⟨rfl, set3_below HBA.out (Nat.le_refl _) _ _ _⟩
theorem tr_level {O : Nat → Prop} (b : Nat) (T : Trl) (v : Int) (w : World) (h : TrAt O w b T) :
    Calls Tryz.prog 44 #[.pointer (some ⟨b, 0, none⟩), .int .i64 v] w fun e w' => e = .returned (.tuple #[.int .i64 (T.level v), .bool (T.why v).isSome]) ∧ Below w.heap.size w w' := by
  have hc := tr_why b T v w h
  unfold Trl.level
  rcases hw : T.why v with _ | s
  · rw [hw, show whyVal none = .tuple #[.agg #[.int .i64 0, .int .i64 0, .int .i64 0], .bool false] from rfl] at hc
    have HC := Lib.hid hc
    clear hc hw
    go_enter Tryz.func44, Tryz.ntmps44
    go_wp2_with fail
    refine HC.out.mono ?_
    rintro e w' ⟨rfl, hb'⟩
    have HB' := Lib.hid hb'
    clear hb'
    go_wp2_with fail
    go_ret2
    exact ⟨rfl, HB'.out.trans ((mx_al w' _).mono HB'.out.size)⟩
  · rw [hw, show whyVal (some s) = .tuple #[.agg #[.int .i64 s.level, .int .i64 s.reason, .int .i64 s.place], .bool true] from rfl] at hc
    have HC := Lib.hid hc
    clear hc hw
    go_enter Tryz.func44, Tryz.ntmps44
    go_wp2_with fail
    refine HC.out.mono ?_
    rintro e w' ⟨rfl, hb'⟩
    have HB' := Lib.hid hb'
    clear hb'
    go_wp2_with fail
    go_ret2
    exact ⟨rfl, HB'.out.trans ((mx_al w' _).mono HB'.out.size)⟩
theorem tr_reason {O : Nat → Prop} (b : Nat) (T : Trl) (v : Int) (w : World) (h : TrAt O w b T) :
    Calls Tryz.prog 104 #[.pointer (some ⟨b, 0, none⟩), .int .i64 v] w fun e w' => e = .returned (.tuple #[.int .i64 (T.reason v), .bool (T.why v).isSome]) ∧ Below w.heap.size w w' := by
  have hc := tr_why b T v w h
  unfold Trl.reason
  rcases hw : T.why v with _ | s
  · rw [hw, show whyVal none = .tuple #[.agg #[.int .i64 0, .int .i64 0, .int .i64 0], .bool false] from rfl] at hc
    have HC := Lib.hid hc
    clear hc hw
    go_enter Tryz.func104, Tryz.ntmps104
    go_wp2_with fail
    refine HC.out.mono ?_
    rintro e w' ⟨rfl, hb'⟩
    have HB' := Lib.hid hb'
    clear hb'
    go_wp2_with fail
    go_ret2
    exact ⟨rfl, HB'.out.trans ((mx_al w' _).mono HB'.out.size)⟩
  · rw [hw, show whyVal (some s) = .tuple #[.agg #[.int .i64 s.level, .int .i64 s.reason, .int .i64 s.place], .bool true] from rfl] at hc
    have HC := Lib.hid hc
    clear hc hw
    go_enter Tryz.func104, Tryz.ntmps104
    go_wp2_with fail
    refine HC.out.mono ?_
    rintro e w' ⟨rfl, hb'⟩
    have HB' := Lib.hid hb'
    clear hb'
    go_wp2_with fail
    go_ret2
    exact ⟨rfl, HB'.out.trans ((mx_al w' _).mono HB'.out.size)⟩
theorem tr_place {O : Nat → Prop} (b : Nat) (T : Trl) (v : Int) (w : World) (h : TrAt O w b T) :
    Calls Tryz.prog 105 #[.pointer (some ⟨b, 0, none⟩), .int .i64 v] w fun e w' => e = .returned (.tuple #[.int .i64 (T.place v), .bool (T.why v).isSome]) ∧ Below w.heap.size w w' := by
  have hc := tr_why b T v w h
  unfold Trl.place
  rcases hw : T.why v with _ | s
  · rw [hw, show whyVal none = .tuple #[.agg #[.int .i64 0, .int .i64 0, .int .i64 0], .bool false] from rfl] at hc
    have HC := Lib.hid hc
    clear hc hw
    go_enter Tryz.func105, Tryz.ntmps105
    go_wp2_with fail
    refine HC.out.mono ?_
    rintro e w' ⟨rfl, hb'⟩
    have HB' := Lib.hid hb'
    clear hb'
    go_wp2_with fail
    go_ret2
    exact ⟨rfl, HB'.out.trans ((mx_al w' _).mono HB'.out.size)⟩
  · rw [hw, show whyVal (some s) = .tuple #[.agg #[.int .i64 s.level, .int .i64 s.reason, .int .i64 s.place], .bool true] from rfl] at hc
    have HC := Lib.hid hc
    clear hc hw
    go_enter Tryz.func105, Tryz.ntmps105
    go_wp2_with fail
    refine HC.out.mono ?_
    rintro e w' ⟨rfl, hb'⟩
    have HB' := Lib.hid hb'
    clear hb'
    go_wp2_with fail
    go_ret2
    exact ⟨rfl, HB'.out.trans ((mx_al w' _).mono HB'.out.size)⟩
theorem tr_now {O : Nat → Prop} (b : Nat) (T : Trl) (w : World) (h : TrAt O w b T) :
    Calls Tryz.prog 70 #[.pointer (some ⟨b, 0, none⟩)] w fun e w' => e = .returned (.int .i64 ((T.starts.length : Int) - 1)) ∧ w = w' := by
  have HIS := Lib.hid (tr_is b T w h)
  obtain ⟨hk, gv, cv, ov, sv, h⟩ := h
  obtain ⟨Ao, co, rfl, _⟩ := mx_slice h.order
  obtain ⟨As, cs, rfl, _⟩ := mx_slice h.starts
  have c1 : w.cell? ⟨b, 2, none⟩ = some (.slice As T.starts.length cs) := mx_cell (j := 2) h.block
  have hs := hk.starts
  have ho := hk.order
  clear h hk
  go_enter Tryz.func70, Tryz.ntmps70
  go_wp2_with fail
  refine HIS.out.mono ?_
  rintro e w' ⟨rfl, rfl⟩
  go_wp2_with fail
  go_ret
  exact ⟨rfl, rfl⟩
theorem tr_len {O : Nat → Prop} (b : Nat) (T : Trl) (w : World) (h : TrAt O w b T) :
    Calls Tryz.prog 32 #[.pointer (some ⟨b, 0, none⟩)] w fun e w' => e = .returned (.int .i64 (T.order.length : Int)) ∧ w = w' := by
  have HIS := Lib.hid (tr_is b T w h)
  obtain ⟨hk, gv, cv, ov, sv, h⟩ := h
  obtain ⟨Ao, co, rfl, _⟩ := mx_slice h.order
  obtain ⟨As, cs, rfl, _⟩ := mx_slice h.starts
  have c1 : w.cell? ⟨b, 1, none⟩ = some (.slice Ao T.order.length co) := mx_cell (j := 1) h.block
  have hs := hk.starts
  have ho := hk.order
  clear h hk
  go_enter Tryz.func32, Tryz.ntmps32
  go_wp2_with fail
  refine HIS.out.mono ?_
  rintro e w' ⟨rfl, rfl⟩
  go_wp2_with fail
  go_ret
  exact ⟨rfl, rfl⟩
end Go.Proofs.YtiodfolcnnkdjaaGreat
