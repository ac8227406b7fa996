/- The trail: Value, Level, Reason, Place, Now, Len, At. append of a row, whatever its length, nil too. The trail: Push, New. The trail: Assign. -/
import Derived.Test.YtoojmhjagipmdaaGreatU001
import Derived.Laws.AppendOwnNone
namespace Go.Proofs.YtoojmhjagipmdaaGreat
open Go.RowKit

def Trl.level (T : Trl) (v : Int) : Int := match T.why v with
  | some s => s.level
  | none => 0
def Trl.reason (T : Trl) (v : Int) : Int := match T.why v with
  | some s => s.reason
  | none => 0
def Trl.place (T : Trl) (v : Int) : Int := match T.why v with
  | some s => s.place
  | none => 0
theorem Trl.at_get {T : Trl} {v : Int} {s : TV} (h : T.at v = some s) : T.vars[v.toNat]? = some s := by
  unfold Trl.at at h
  split at h
  · exact h
  · cases h
set_option maxHeartbeats 1000000 in
theorem tr_value {O : Nat → Prop} (b : Nat) (T : Trl) (l : Int) (w : World) (h : TrAt O w b T) :
    Calls Tryz.prog 35 #[.pointer (some ⟨b, 0, none⟩), .int .i64 l] w fun e w' => e = .returned (.int .i64 (T.val l)) ∧ Below w.heap.size w w' := by
  obtain ⟨hk, gv, cv, ov, sv, h⟩ := h
  have hst := tr_state b T gv cv ov sv (litV l) w hk h
  have HV := Lib.hid (lit_var l w)
  have HSG := Lib.hid (fun W => tr_sign l W)
  obtain ⟨m, hm⟩ : ∃ m, litV l = m := ⟨_, rfl⟩
  obtain ⟨g, hg⟩ : ∃ g, litS l = g := ⟨_, rfl⟩
  have hgv := litS_abs l
  unfold Trl.val
  rw [hm] at hst HV ⊢
  rw [hg] at hgv HSG ⊢
  rcases hat : T.at (m : Int) with _ | s
  · rw [hat, stateVal_none] at hst
    have HST := Lib.hid hst
    clear hst hat h hk hm hg
    go_enter Tryz.func35, Tryz.ntmps35
    go_wp2_with fail
    refine HV.out.mono ?_
    rintro e w' ⟨rfl, rfl⟩
    go_wp2_with fail
    refine HST.out.mono ?_
    rintro e w' ⟨rfl, rfl⟩
    go_wp2_with fail
    go_ret
    exact ⟨rfl, Below.refl _ _⟩
  · rw [hat, stateVal_some] at hst
    have hget := Trl.at_get hat
    rw [Int.toNat_natCast] at hget hst
    obtain ⟨_, _, _, c3⟩ := h.var hget
    have hval := hk.each s (List.mem_of_getElem? hget)
    have hwr : IntKind.i64.wrap (s.value * g) = s.value * g := IntWalk.i64_in _ (by rcases hval with e | e | e <;> rcases hgv with f | f <;> rw [e, f] <;> omega)
    have HST := Lib.hid hst
    clear hst hat hget h hk hm hg hval hgv
    go_enter Tryz.func35, Tryz.ntmps35
    go_wp2_with fail
    refine HV.out.mono ?_
    rintro e w' ⟨rfl, rfl⟩
    go_wp2_with fail
    refine HST.out.mono ?_
    rintro e w' ⟨rfl, rfl⟩
    go_wp2_with fail
    refine wp_region_held_drew (S := fun w' => w'.cell? ⟨gv, m * 4 + 3, none⟩ = some (.int .i64 s.value)) (by kernel_rfl) c3 (fun hHeld => ?_)
    have hbD := mx_drew w
    obtain ⟨wD, hwD⟩ : ∃ x, w.drew = x := ⟨_, rfl⟩
    rw [hwD] at hHeld hbD ⊢
    clear hwD c3
    refine takeF 0 16 (fun w hSw => hSw) ?_
    refine takeF 1 17 (fun w hSw => hSw) ?_
    refine takeF 2 18 (fun w hSw => hSw) ?_
    refine takeF 3 19 (fun w hSw => hSw) ?_
    refine takeF 4 20 (fun w hSw => hSw) ?_
    refine ready1 5 (fun K hK => ?_)
    go_simp
    refine (HSG.out wD).mono ?_
    rintro e w' ⟨rfl, rfl⟩
    refine hK.out _ _ hHeld (fun hHeld1 => ?_)
    clear hK hHeld1
    refine takeF 6 22 (fun w hSw => hSw) ?_
    refine takeF 7 4 (fun w hSw => hSw) ?_
    refine wpAnyH_done (by kernel_rfl) ?_ _
    go_wp2_with fail
    go_ret
    exact ⟨rfl, hbD⟩
theorem mx_free {w : World} {b j : Nat} {cs : Array Value} {t : TypeId} (h : w.heap[b]? = some (.cells cs t (0, 0))) : w.frozen? ⟨b, j, none⟩ = false := by
  simp [World.frozen?, h]
theorem set3_below {b : Nat} {w W : World} (h : Below b w W) {g : Nat} (hg : b ≤ g) (v0 v1 v2 : Value) : Below b w (((W.setCell ⟨g, 0, none⟩ v0).setCell ⟨g, 1, none⟩ v1).setCell ⟨g, 2, none⟩ v2) :=
  ((h.setCell (p := ⟨g, 0, none⟩) hg v0).setCell (p := ⟨g, 1, none⟩) hg v1).setCell (p := ⟨g, 2, none⟩) hg v2
/-- what why returns -/
def whyVal : Option TV → Value
  | some s => .tuple #[.agg #[.int .i64 s.level, .int .i64 s.reason, .int .i64 s.place], .bool true]
  | none => .tuple #[.agg #[.int .i64 0, .int .i64 0, .int .i64 0], .bool false]
set_option maxHeartbeats 1000000 in
theorem tr_why {O : Nat → Prop} (b : Nat) (T : Trl) (v : Int) (w : World) (h : TrAt O w b T) :
    Calls Tryz.prog 57 #[.pointer (some ⟨b, 0, none⟩), .int .i64 v] w fun e w' => e = .returned (whyVal (T.why v)) ∧ Below w.heap.size w w' := by
  obtain ⟨wa, hwa⟩ : ∃ x, w.alloc (.cells #[.int .i64 0, .int .i64 0, .int .i64 0] 103) = x := ⟨_, rfl⟩
  have hba : Below w.heap.size w wa := by rw [← hwa]; exact mx_al _ _
  have hbn : wa.heap[w.heap.size]? = some (.cells #[.int .i64 0, .int .i64 0, .int .i64 0] 103 (0, 0)) := by rw [← hwa]; exact World.alloc_heap_new _ _
  have h := h.below hba
  obtain ⟨hk, gv, cv, ov, sv, h⟩ := h
  have hst := tr_state b T gv cv ov sv v wa hk h
  have e0 : wa.cell? ⟨w.heap.size, 0, none⟩ = some (.int .i64 0) := mx_cell (j := 0) hbn
  have e1 : wa.cell? ⟨w.heap.size, 1, none⟩ = some (.int .i64 0) := mx_cell (j := 1) hbn
  have e2 : wa.cell? ⟨w.heap.size, 2, none⟩ = some (.int .i64 0) := mx_cell (j := 2) hbn
  have f0 := mx_free (j := 0) hbn
  have f1 := mx_free (j := 1) hbn
  have f2 := mx_free (j := 2) hbn
  have HWA := Lib.hid hwa
  have HBA := Lib.hid hba
  clear hwa hba hbn
  unfold Trl.why
  rcases hat : T.at v with _ | s
  · rw [hat, stateVal_none] at hst
    have HST := Lib.hid hst
    clear hst hat h hk
    go_enter Tryz.func57, Tryz.ntmps57
    go_wp2_with fail
    rw [HWA.out]
    refine HST.out.mono ?_
    rintro e w' ⟨rfl, rfl⟩
    go_wp2_with fail
    refine bodyPost_ret (v := .tuple #[.agg #[.int .i64 0, .int .i64 0, .int .i64 0], .bool false]) (by simp [results, Tryz.results57, go_sem, e0, e1, e2]) rfl ⟨rfl, set3_below HBA.out (Nat.le_refl _) _ _ _⟩
  · rw [hat, stateVal_some] at hst
    have hget := Trl.at_get hat
    obtain ⟨c0, c1, c2, c3⟩ := h.var hget
    obtain ⟨n, hn⟩ : ∃ n, v.toNat = n := ⟨_, rfl⟩
    rw [hn] at hst c0 c1 c2 c3
    have HST := Lib.hid hst
    clear hst hat hget h hk hn
    by_cases hz : s.value = 0
    · have q0 : (s.value == 0) = true := by simpa using hz
      have HZ := Lib.hid hz
      simp only [hz, if_true]
      clear hz
      go_enter Tryz.func57, Tryz.ntmps57
      go_wp2_with fail
      rw [HWA.out]
      refine HST.out.mono ?_
      rintro e w' ⟨rfl, rfl⟩
      go_wp2_with fail
      refine bodyPost_ret (v := .tuple #[.agg #[.int .i64 0, .int .i64 0, .int .i64 0], .bool false]) (by simp [results, Tryz.results57, go_sem, e0, e1, e2]) rfl ⟨rfl, set3_below HBA.out (Nat.le_refl _) _ _ _⟩
    · have q0 : (s.value == 0) = false := by simpa using hz
      simp only [hz, if_false]
      have HZ := Lib.hid hz
      clear hz
      go_enter Tryz.func57, Tryz.ntmps57
      go_wp2_with fail
      rw [HWA.out]
      refine HST.out.mono ?_
      rintro e w' ⟨rfl, rfl⟩
      go_wp2_with fail
      refine bodyPost_ret (v := .tuple #[.agg #[.int .i64 s.level, .int .i64 s.reason, .int .i64 s.place], .bool true]) (by simp [results, Tryz.results57, go_sem, e0, e1, e2]) rfl ⟨rfl, set3_below HBA.out (Nat.le_refl _) _ _ _⟩
theorem tr_level {O : Nat → Prop} (b : Nat) (T : Trl) (v : Int) (w : World) (h : TrAt O w b T) :
    Calls Tryz.prog 89 #[.pointer (some ⟨b, 0, none⟩), .int .i64 v] w fun e w' => e = .returned (.tuple #[.int .i64 (T.level v), .bool (T.why v).isSome]) ∧ Below w.heap.size w w' := by
  have hc := tr_why b T v w h
  unfold Trl.level
  rcases hw : T.why v with _ | s
  · rw [hw, show whyVal none = .tuple #[.agg #[.int .i64 0, .int .i64 0, .int .i64 0], .bool false] from rfl] at hc
    have HC := Lib.hid hc
    clear hc hw
    go_enter Tryz.func89, Tryz.ntmps89
    go_wp2_with fail
    refine HC.out.mono ?_
    rintro e w' ⟨rfl, hb'⟩
    have HB' := Lib.hid hb'
    clear hb'
    go_wp2_with fail
    go_ret2
    exact ⟨rfl, HB'.out.trans ((mx_al w' _).mono HB'.out.size)⟩
  · rw [hw, show whyVal (some s) = .tuple #[.agg #[.int .i64 s.level, .int .i64 s.reason, .int .i64 s.place], .bool true] from rfl] at hc
    have HC := Lib.hid hc
    clear hc hw
    go_enter Tryz.func89, Tryz.ntmps89
    go_wp2_with fail
    refine HC.out.mono ?_
    rintro e w' ⟨rfl, hb'⟩
    have HB' := Lib.hid hb'
    clear hb'
    go_wp2_with fail
    go_ret2
    exact ⟨rfl, HB'.out.trans ((mx_al w' _).mono HB'.out.size)⟩
theorem tr_reason {O : Nat → Prop} (b : Nat) (T : Trl) (v : Int) (w : World) (h : TrAt O w b T) :
    Calls Tryz.prog 16 #[.pointer (some ⟨b, 0, none⟩), .int .i64 v] w fun e w' => e = .returned (.tuple #[.int .i64 (T.reason v), .bool (T.why v).isSome]) ∧ Below w.heap.size w w' := by
  have hc := tr_why b T v w h
  unfold Trl.reason
  rcases hw : T.why v with _ | s
  · rw [hw, show whyVal none = .tuple #[.agg #[.int .i64 0, .int .i64 0, .int .i64 0], .bool false] from rfl] at hc
    have HC := Lib.hid hc
    clear hc hw
    go_enter Tryz.func16, Tryz.ntmps16
    go_wp2_with fail
    refine HC.out.mono ?_
    rintro e w' ⟨rfl, hb'⟩
    have HB' := Lib.hid hb'
    clear hb'
    go_wp2_with fail
    go_ret2
    exact ⟨rfl, HB'.out.trans ((mx_al w' _).mono HB'.out.size)⟩
  · rw [hw, show whyVal (some s) = .tuple #[.agg #[.int .i64 s.level, .int .i64 s.reason, .int .i64 s.place], .bool true] from rfl] at hc
    have HC := Lib.hid hc
    clear hc hw
    go_enter Tryz.func16, Tryz.ntmps16
    go_wp2_with fail
    refine HC.out.mono ?_
    rintro e w' ⟨rfl, hb'⟩
    have HB' := Lib.hid hb'
    clear hb'
    go_wp2_with fail
    go_ret2
    exact ⟨rfl, HB'.out.trans ((mx_al w' _).mono HB'.out.size)⟩
theorem tr_place {O : Nat → Prop} (b : Nat) (T : Trl) (v : Int) (w : World) (h : TrAt O w b T) :
    Calls Tryz.prog 90 #[.pointer (some ⟨b, 0, none⟩), .int .i64 v] w fun e w' => e = .returned (.tuple #[.int .i64 (T.place v), .bool (T.why v).isSome]) ∧ Below w.heap.size w w' := by
  have hc := tr_why b T v w h
  unfold Trl.place
  rcases hw : T.why v with _ | s
  · rw [hw, show whyVal none = .tuple #[.agg #[.int .i64 0, .int .i64 0, .int .i64 0], .bool false] from rfl] at hc
    have HC := Lib.hid hc
    clear hc hw
    go_enter Tryz.func90, Tryz.ntmps90
    go_wp2_with fail
    refine HC.out.mono ?_
    rintro e w' ⟨rfl, hb'⟩
    have HB' := Lib.hid hb'
    clear hb'
    go_wp2_with fail
    go_ret2
    exact ⟨rfl, HB'.out.trans ((mx_al w' _).mono HB'.out.size)⟩
  · rw [hw, show whyVal (some s) = .tuple #[.agg #[.int .i64 s.level, .int .i64 s.reason, .int .i64 s.place], .bool true] from rfl] at hc
    have HC := Lib.hid hc
    clear hc hw
    go_enter Tryz.func90, Tryz.ntmps90
    go_wp2_with fail
    refine HC.out.mono ?_
    rintro e w' ⟨rfl, hb'⟩
    have HB' := Lib.hid hb'
    clear hb'
    go_wp2_with fail
    go_ret2
    exact ⟨rfl, HB'.out.trans ((mx_al w' _).mono HB'.out.size)⟩
theorem tr_now {O : Nat → Prop} (b : Nat) (T : Trl) (w : World) (h : TrAt O w b T) :
    Calls Tryz.prog 36 #[.pointer (some ⟨b, 0, none⟩)] w fun e w' => e = .returned (.int .i64 ((T.starts.length : Int) - 1)) ∧ w = w' := by
  have HIS := Lib.hid (tr_is b T w h)
  obtain ⟨hk, gv, cv, ov, sv, h⟩ := h
  obtain ⟨Ao, co, rfl, _⟩ := mx_slice h.order
  obtain ⟨As, cs, rfl, _⟩ := mx_slice h.starts
  have c1 : w.cell? ⟨b, 2, none⟩ = some (.slice As T.starts.length cs) := mx_cell (j := 2) h.block
  have hs := hk.starts
  have ho := hk.order
  clear h hk
  go_enter Tryz.func36, Tryz.ntmps36
  go_wp2_with fail
  refine HIS.out.mono ?_
  rintro e w' ⟨rfl, rfl⟩
  go_wp2_with fail
  go_ret
  exact ⟨rfl, rfl⟩
theorem tr_len {O : Nat → Prop} (b : Nat) (T : Trl) (w : World) (h : TrAt O w b T) :
    Calls Tryz.prog 55 #[.pointer (some ⟨b, 0, none⟩)] w fun e w' => e = .returned (.int .i64 (T.order.length : Int)) ∧ w = w' := by
  have HIS := Lib.hid (tr_is b T w h)
  obtain ⟨hk, gv, cv, ov, sv, h⟩ := h
  obtain ⟨Ao, co, rfl, _⟩ := mx_slice h.order
  obtain ⟨As, cs, rfl, _⟩ := mx_slice h.starts
  have c1 : w.cell? ⟨b, 1, none⟩ = some (.slice Ao T.order.length co) := mx_cell (j := 1) h.block
  have hs := hk.starts
  have ho := hk.order
  clear h hk
  go_enter Tryz.func55, Tryz.ntmps55
  go_wp2_with fail
  refine HIS.out.mono ?_
  rintro e w' ⟨rfl, rfl⟩
  go_wp2_with fail
  go_ret
  exact ⟨rfl, rfl⟩
end Go.Proofs.YtoojmhjagipmdaaGreat
namespace Go.Proofs.YtoojmhjagipmdaaGreat
open Go.RowKit

/-- a slice of m elements whose cells are these -/
def SrcAt (w : World) (x : Value) (m : Nat) (news : List Value) : Prop :=
  (x = .slice none 0 0 ∧ m = 0 ∧ news = []) ∨ ∃ ad c, x = .slice (some ad) m c ∧ ∀ j u, news[j]? = some u → w.cell? (ad.add j) = some u
theorem SrcAt.below {w w' : World} {x : Value} {m : Nat} {news : List Value} (h : SrcAt w x m news) (hb : Below w.heap.size w w') : SrcAt w' x m news := by
  rcases h with h | ⟨ad, c, hx, hn⟩
  · exact .inl h
  · refine .inr ⟨ad, c, hx, fun j u hj => ?_⟩
    have h0 := hn j u hj
    have hlt := World.block_lt_of_cell? w _ h0
    exact (hb.cell hlt).trans h0
theorem IntsIn.src {O : Nat → Prop} {w : World} {v : Value} {xs : List Int} (h : IntsIn O w v xs) : SrcAt w v xs.length (xs.map (Value.int .i64)) := by
  obtain ⟨A, c, hv, hc, hn, hx⟩ := h
  cases A with
  | none =>
    have h0 := hn rfl
    have hx0 : xs = [] := List.eq_nil_of_length_eq_zero (by omega)
    subst hx0
    subst h0
    exact .inl ⟨hv, rfl, rfl⟩
  | some ad =>
    by_cases h0 : xs = []
    · subst h0
      exact .inr ⟨ad, c, hv, fun j u hj => by simp at hj⟩
    · obtain ⟨x0, hx0⟩ : ∃ x, xs[0]? = some x := ⟨_, List.getElem?_eq_getElem (by cases xs with
        | nil => exact absurd rfl h0
        | cons _ _ => simp)⟩
      obtain ⟨g, o, hA, _⟩ := hx 0 x0 hx0
      obtain rfl := Option.some.inj hA
      refine .inr ⟨_, c, hv, fun j u hj => ?_⟩
      rw [List.getElem?_map] at hj
      cases hxj : xs[j]? with
      | none => rw [hxj] at hj; cases hj
      | some x =>
        rw [hxj] at hj
        obtain rfl := Option.some.inj hj
        obtain ⟨g', o', hA', _, _, hc'⟩ := hx j x hxj
        cases hA'
        rw [addr_add2]
        exact hc'
section
variable {P : Program}
theorem run_append_any (w : World) (base : Nat) (t ty e : TypeId) (i : TypeInfo) (z : Value) (size bytes : Nat) (ht : P.underlying t = some (.slice e)) (hi : P.info? e = some i) (hz : i.zero = some z) (hsize : i.size = size) (hby : i.bytes = bytes) (hzs : z.cells.size = size) (hsz : 0 < size)
    (v : Value) (n : Nat) (xs : List Value) (hown : w.ownsRow base e size v n xs) (x : Value) (m : Nat) (news : List Value) (hx : SrcAt w x m news) (hl : news.length = m * size) (h1 : ∀ u ∈ news, u.oneCell' = true)
    (h63 : n + m ≤ maxLen) (hbytes : (n + m) * bytes ≤ 140737488355328) (hbase : base ≤ w.heap.size) :
    ∃ v' w', (Builtin.append_ #[t, t] ty #[v, x]).run P w = .ok v' w' ∧ w'.ownsRow base e size v' (n + m) (xs ++ news) ∧ w.grownBy w' v.ownBlock ∧ (v'.ownBlock = v.ownBlock ∨ v'.ownBlock = some w.heap.size) := by
  rcases hx with ⟨rfl, rfl, rfl⟩ | ⟨ad, c, rfl, hn⟩
  · exact ⟨v, w, run_append_owned_none (P := P) (w := w) base t ty e i size ht hi v n xs hown, by simpa using hown, World.grownBy.refl w _, .inl rfl⟩
  · obtain ⟨v', w', hr, h2, h3, _, h5⟩ := run_append_own_at (P := P) w base t ty e i z size bytes ht hi hz hsize hby hzs hsz v n xs hown ad m c news hl hn h1 h63 hbytes hbase
    exact ⟨v', w', hr, h2, h3, h5⟩
/-- append to a row that is owned, at an operation of a region that draws; the source nil or not -/
theorem wp_append_any_at (d : Nat) {w : World} {o : Oper} {a : Act} {K : Act → World → Prop} {Q : Exit → Act → World → Prop} (hd : o.dst = some d) (s x : Operand) (t : TypeId) (ho : o.op = .call { callee := .builtin .append, args := #[s, x], argTypes := #[t, t] })
    (base : Nat) (e : TypeId) (i : TypeInfo) (z : Value) (size bytes : Nat) (ht : P.underlying t = some (.slice e)) (hi : P.info? e = some i) (hz : i.zero = some z) (hsize : i.size = size) (hby : i.bytes = bytes) (hzs : z.cells.size = size) (hsz : 0 < size)
    (v : Value) (n : Nat) (xs : List Value) (hs : a.eval s = v) (hown : w.ownsRow base e size v n xs)
    (y : Value) (m : Nat) (news : List Value) (hx : a.eval x = y) (hy : SrcAt w y m news) (hl : news.length = m * size) (h1 : ∀ u ∈ news, u.oneCell' = true)
    (h63 : n + m ≤ maxLen) (hbytes : (n + m) * bytes ≤ 140737488355328) (hbase : base ≤ w.heap.size)
    (h : ∀ v' w', w'.ownsRow base e size v' (n + m) (xs ++ news) → w.grownBy w' v.ownBlock → (v'.ownBlock = v.ownBlock ∨ v'.ownBlock = some w.heap.size) → K (a.put (some d) v') w') : Oper.wp P o a w K Q := by
  obtain ⟨v', w', hr, h2, h3, h5⟩ := run_append_any (P := P) w base t o.type e i z size bytes ht hi hz hsize hby hzs hsz v n xs hown y m news hy hl h1 h63 hbytes hbase
  unfold Oper.wp execOp
  simp only [ho, resolve, invoke, builtin, Sem.run_bind, Sem.run_pure, Result.andThen_ok, List.map_toArray, List.map_cons, List.map_nil, hs, hx, hr]
  show K (a.put o.dst v') w'
  rw [hd]
  exact h v' w' h2 h3 h5
theorem wpList_append_any {w : World} {ops : Array Oper} {rest : List Oper} {o : Oper} {a : Act} {Q : Exit → Act → World → Prop} (hg : o.guard = none) (s x : Operand) (t : TypeId) (ho : o.op = .call { callee := .builtin .append, args := #[s, x], argTypes := #[t, t] })
    (base : Nat) (e : TypeId) (i : TypeInfo) (z : Value) (size bytes : Nat) (ht : P.underlying t = some (.slice e)) (hi : P.info? e = some i) (hz : i.zero = some z) (hsize : i.size = size) (hby : i.bytes = bytes) (hzs : z.cells.size = size) (hsz : 0 < size)
    (v : Value) (n : Nat) (xs : List Value) (hs : a.eval s = v) (hown : w.ownsRow base e size v n xs)
    (y : Value) (m : Nat) (news : List Value) (hx : a.eval x = y) (hy : SrcAt w y m news) (hl : news.length = m * size) (h1 : ∀ u ∈ news, u.oneCell' = true)
    (h63 : n + m ≤ maxLen) (hbytes : (n + m) * bytes ≤ 140737488355328) (hbase : base ≤ w.heap.size)
    (h : ∀ v' w', w'.ownsRow base e size v' (n + m) (xs ++ news) → w.grownBy w' v.ownBlock → (v'.ownBlock = v.ownBlock ∨ v'.ownBlock = some w.heap.size) → wpList P ops Q rest (a.put o.dst v') w') : wpList P ops Q (o :: rest) a w := by
  refine wpList_plain hg fun K hK => ?_
  obtain ⟨v', w', hr, h2, h3, h5⟩ := run_append_any (P := P) w base t o.type e i z size bytes ht hi hz hsize hby hzs hsz v n xs hown y m news hy hl h1 h63 hbytes hbase
  unfold Oper.wp execOp
  simp only [ho, resolve, invoke, builtin, Sem.run_bind, Sem.run_pure, Result.andThen_ok, List.map_toArray, List.map_cons, List.map_nil, hs, hx, hr]
  exact hK _ _ (h v' w' h2 h3 h5)
end
end Go.Proofs.YtoojmhjagipmdaaGreat
namespace Go.Proofs.YtoojmhjagipmdaaGreat
open Go.RowKit

theorem tinfo_int : (Tryz.prog.info? 3).map (fun i => (i.zero, i.size, i.bytes)) = some (some (.int .i64 0), 1, 8) := by kernel_rfl
theorem tinfo_lit : (Tryz.prog.info? 32).map (fun i => (i.zero, i.size, i.bytes)) = some (some (.int .i64 0), 1, 8) := by kernel_rfl
theorem mx_src (W : World) (e : TypeId) (xs : List Value) : SrcAt (W.alloc (.cells xs.toArray e)) (.slice (some ⟨W.heap.size, 0, none⟩) 1 1) 1 xs :=
  .inr ⟨_, _, rfl, fun j u hj => cells_list_new W xs e j u hj⟩
def Trl.push (T : Trl) : Trl := ⟨T.vars, T.order, T.starts ++ [(T.order.length : Int)]⟩
def TrNext (O : Nat → Prop) (w w' : World) (b : Nat) (T' : Trl) : Prop := TrAt (fun g => O g ∨ w.heap.size ≤ g ∧ g < w'.heap.size) w' b T' ∧ Kept O w w'
set_option maxRecDepth 100000 in
set_option maxHeartbeats 2000000 in
theorem tr_push {O : Nat → Prop} (b : Nat) (T : Trl) (w : World) (h : TrAt O w b T) (hn : T.starts.length < 1048576) :
    Calls Tryz.prog 53 #[.pointer (some ⟨b, 0, none⟩)] w fun e w' => e = .returned (.int .i64 0) ∧ TrNext O w w' b T.push := by
  obtain ⟨i0, hi0, hz0, hz1, hz2⟩ := info_parts tinfo_int
  have HIS := Lib.hid (tr_is b T w h)
  obtain ⟨hk, gv, cv, ov, sv, h⟩ := h
  have HK := Lib.hid hk
  have HM := Lib.hid h
  have ho := hk.order
  obtain ⟨Ao, co, rfl, _⟩ := mx_slice h.order
  obtain ⟨As, cs, rfl, _⟩ := mx_slice h.starts
  have c1 : w.cell? ⟨b, 1, none⟩ = some (.slice Ao T.order.length co) := mx_cell (j := 1) h.block
  have c2 : w.cell? ⟨b, 2, none⟩ = some (.slice As T.starts.length cs) := mx_cell (j := 2) h.block
  have q13 : decide ((1048576 : Int) ≤ (T.starts.length : Int)) = false := by simp; omega
  have hbw := heap_lt h.block
  clear h hk
  go_enter Tryz.func53, Tryz.ntmps53
  go_wp2_with fail
  refine HIS.out.mono ?_
  rintro e w' ⟨rfl, rfl⟩
  go_wp2_with fail
  refine wp_region_sink_at (S := fun w' => w'.cell? ⟨b, 1, none⟩ = some (.slice Ao T.order.length co) ∧ w'.cell? ⟨b, 2, none⟩ = some (.slice As T.starts.length cs)) (by kernel_rfl) rfl (by kernel_rfl) ⟨c1, c2⟩ (fun hHeld => ?_)
  obtain ⟨wD, hwD⟩ : ∃ x, w.drew = x := ⟨_, rfl⟩
  have hbD : Below w.heap.size w wD := by rw [← hwD]; exact mx_drew w
  rw [hwD] at hHeld ⊢
  have hzD := hbD.size
  have HBD := Lib.hid hbD
  clear hwD hbD c1 c2
  refine takeS 0 14 ?_
  refine takeS 1 15 ?_
  refine takeS 2 16 ?_
  refine takeS 3 17 ?_
  refine takeS 4 18 ?_
  refine takeS 5 19 ?_
  refine takeS 6 20 ?_
  refine takeS 7 21 ?_
  refine takeS 8 22 ?_
  refine takeS 9 23 ?_
  refine ready1 10 (fun K hK => ?_)
  go_simp
  obtain ⟨wN, hwN⟩ : ∃ x, wD.alloc (.cells #[.int .i64 (T.order.length : Int)] 3) = x := ⟨_, rfl⟩
  have hbN : Below wD.heap.size wD wN := by rw [← hwN]; exact mx_al _ _
  have hsrc := mx_src wD 3 [.int .i64 (T.order.length : Int)]
  have hzN : wN.heap.size = wD.heap.size + 1 := by rw [← hwN]; simp
  rw [hwN] at hsrc
  rw [hwN]
  have HSRC := Lib.hid hsrc
  have HBN := Lib.hid (HBD.out.trans (hbN.mono HBD.out.size))
  refine hK.out _ _ ⟨(hbN.cell (p := ⟨b, 1, none⟩) (by show b < _; omega)).trans hHeld.1, (hbN.cell (p := ⟨b, 2, none⟩) (by show b < _; omega)).trans hHeld.2⟩ (fun hHeld1 => ?_)
  have hzN1 := hbN.size
  clear hK hHeld hbN hsrc hwN hzN
  have hHeld := hHeld1
  clear hHeld1
  refine ready1 11 (fun K hK => ?_)
  rw [if_pos (by rfl)]
  refine wp_append_any_at 25 (by rfl) _ _ 63 rfl 0 3 i0 (.int .i64 0) 1 8 Tryz.underlying63 hi0 hz0 hz1 hz2 rfl (by decide) _ T.starts.length _ (by rfl) (own_below HM.out.starts HBN.out) (.slice (some ⟨wD.heap.size, 0, none⟩) 1 1) 1 [.int .i64 (T.order.length : Int)] (by rfl) HSRC.out rfl (by simp [Value.oneCell']) (by unfold maxLen; omega) (by omega) (Nat.zero_le _) ?_
  intro v' w1 hown hgrow hat
  obtain ⟨Ax, kx, rfl, _⟩ := mx_slice hown
  have hkg : Kept (fun g => g = b ∨ (Value.slice As T.starts.length cs).ownBlock = some g) w w1 := (Kept.of_below HBN.out).trans (Kept.grown hgrow) (fun i hi e => .inr e.symm)
  have hnb : (Value.slice As T.starts.length cs).ownBlock ≠ some b := mx_not HM.out.starts HM.out.block (by decide)
  have hkb : Kept (fun g => (Value.slice As T.starts.length cs).ownBlock = some g) w w1 := (Kept.of_below HBN.out).trans (Kept.grown hgrow) (fun i hi e => e.symm)
  have hz1' := hgrow.size
  have HOX := Lib.hid hown
  have HKG := Lib.hid hkg
  have HKB := Lib.hid hkb
  have HNB := Lib.hid hnb
  have HAT := Lib.hid (show (Value.slice Ax (T.starts.length + 1) kx).ownBlock = (Value.slice As T.starts.length cs).ownBlock ∨ (Value.slice Ax (T.starts.length + 1) kx).ownBlock = some wN.heap.size from hat)
  refine hK.out _ _ ⟨(hkb.cell (p := ⟨b, 1, none⟩) hbw hnb).trans (mx_cell (j := 1) HM.out.block), (hkb.cell (p := ⟨b, 2, none⟩) hbw hnb).trans (mx_cell (j := 2) HM.out.block)⟩ (fun hHeld1 => ?_)
  clear hK hHeld hown hgrow hat hkg hkb hnb
  refine takeS 12 26 ?_
  refine takeS 13 27 ?_
  refine wpAnyH_done (by kernel_rfl) ?_ _
  refine lastPost_normal ?_
  obtain ⟨z0, z1⟩ := hHeld1
  have hblk := (HKB.out.block b hbw HNB.out).trans HM.out.block
  have fr2 := mx_free (j := 2) hblk
  have HBLK := Lib.hid hblk
  clear hblk
  refine wpOp_step rfl (fun K hK => ?_)
  go_simp
  refine hK _ _ ?_
  clear hK z0 z1 fr2
  obtain ⟨wf, hwf⟩ : ∃ x, w1.setCell ⟨b, 2, none⟩ (.slice Ax (T.starts.length + 1) kx) = x := ⟨_, rfl⟩
  have hkf : Kept (fun g => g = b) w1 wf := by rw [← hwf]; exact (Kept.refl (fun g => g = b) w1).setCell ⟨b, 2, none⟩ _ rfl
  have hbf : wf.heap[b]? = some (.cells #[.slice (some ⟨gv, 0, none⟩) T.vars.length cv, .slice Ao T.order.length co, .slice Ax (T.starts.length + 1) kx, .bool true] 153 (0, 0)) := by rw [← hwf]; exact mx_set HBLK.out _ (j := 2)
  rw [hwf]
  have HKF := Lib.hid hkf
  have HBF := Lib.hid hbf
  clear hwf hkf hbf
  go_wp2_with fail
  go_ret
  have hall : Kept (fun g => g = b ∨ (Value.slice As T.starts.length cs).ownBlock = some g) w wf := HKG.out.trans HKF.out (fun i hi e => .inl e)
  have hsz := hall.size
  have hnx : (Value.slice Ax (T.starts.length + 1) kx).ownBlock ≠ some b := by
    obtain ⟨cb, hcb⟩ : ∃ cb, w1.heap[b]? = some (.cells cb 153 (0, 0)) := ⟨_, HBLK.out⟩
    exact mx_not HOX.out hcb (by decide)
  refine ⟨rfl, ⟨⟨HK.out.vars, HK.out.order, ?_, HK.out.each⟩, gv, cv, .slice Ao T.order.length co, .slice Ax (T.starts.length + 1) kx, ⟨?_, .inl HM.out.inb, .inl HM.out.invs, ?_, ?_, ?_, fun g hg => .inl (HM.out.orderb g hg), ?_, ?_⟩⟩, hall.mono (fun g hg e => ?_)⟩
  · show 1 ≤ (T.starts ++ [_]).length ∧ (T.starts ++ [_]).length ≤ 1048576
    rw [List.length_append, List.length_singleton]
    omega
  · intro g hg
    rcases hg with hg | hg
    · exact Nat.lt_of_lt_of_le (HM.out.own g hg) hsz
    · exact hg.2
  · show wf.heap[b]? = some (.cells #[_, .slice Ao T.order.length co, .slice Ax (T.starts.length + 1) kx, .bool true] 153 (0, 0))
    exact HBF.out
  · refine own_kept HM.out.vars hall (fun g hg e => ?_)
    rcases e with e | e
    · subst e
      exact mx_not HM.out.vars HM.out.block (by decide) hg
    · exact mx_apart HM.out.vars HM.out.starts (by decide) hg e
  · refine own_kept HM.out.order hall (fun g hg e => ?_)
    rcases e with e | e
    · subst e
      exact mx_not HM.out.order HM.out.block (by decide) hg
    · exact mx_apart HM.out.order HM.out.starts (by decide) hg e
  · have hx := own_kept HOX.out HKF.out (fun g hg e => by
      subst e
      exact hnx hg)
    show wf.ownsRow 0 3 1 (.slice Ax (T.starts.length + 1) kx) (T.starts ++ [_]).length ((T.starts ++ [_]).map _)
    rw [List.length_append, List.map_append]
    exact hx
  · intro g hg
    have h1 := (own_lt HOX.out g hg).2
    rcases Nat.lt_or_ge g w.heap.size with h2 | h2
    · rcases HAT.out with h3 | h3
      · exact .inl (HM.out.startsb g (h3 ▸ hg))
      · rw [hg] at h3
        have := Option.some.inj h3
        omega
    · exact .inr ⟨h2, Nat.lt_of_lt_of_le h1 HKF.out.size⟩
  · rcases e with e | e
    · rw [e]
      exact HM.out.inb
    · exact HM.out.startsb g e
end Go.Proofs.YtoojmhjagipmdaaGreat
namespace Go.Proofs.YtoojmhjagipmdaaGreat
open Go.RowKit

theorem TrNext.of_below {O : Nat → Prop} {w w' : World} {b : Nat} {T : Trl} (h : TrAt O w b T) (hb : Below w.heap.size w w') : TrNext O w w' b T := by
 obtain ⟨hk, gv, cv, ov, sv, h⟩ := h
 have k := h.kept (O' := fun _ => False) (Kept.of_below hb) (fun _ _ h => h)
 exact ⟨⟨hk, gv, cv, ov, sv, ⟨fun g hg => hg.elim (fun h1 => k.own g h1) (fun h1 => h1.2), .inl k.inb, .inl k.invs, k.block, k.vars, k.order, fun g hg => .inl (k.orderb g hg), k.starts, fun g hg => .inl (k.startsb g hg)⟩⟩, Kept.of_below hb⟩
def Trl.now (T : Trl) : Int := (T.starts.length : Int) - 1
def Trl.assignErr (T : Trl) (l r : Int) : Nat := match T.at (litV l) with
 | none => 40
 | some s => if r < 0 ∨ 1073741824 < r then 2 else if s.value ≠ 0 then 41 else 0
def Trl.assign (T : Trl) (l r : Int) : Trl := ⟨T.vars.set (litV l) ⟨T.now, r, T.order.length, litS l⟩, T.order ++ [l], T.starts⟩
def Trl.assigned (T : Trl) (l r : Int) : Trl := if T.assignErr l r = 0 then T.assign l r else T
theorem tvCells_len (l : List TV) : (l.flatMap TV.cells).length = l.length * 4 := by
 induction l with
 | nil => rfl
 | cons x l ih =>
  rw [List.flatMap_cons, List.length_append, ih]
  simp [TV.cells]
  omega
theorem tvCells_div (l : List TV) (q : Nat) : (l.flatMap TV.cells)[q]? = (l[q / 4]?).bind fun x => x.cells[q % 4]? := by
 have e : q = q / 4 * 4 + q % 4 := by omega
 cases h : l[q / 4]? with
 | none =>
  rw [List.getElem?_eq_none]
  ·
   rfl
  ·
   have := List.getElem?_eq_none_iff.1 h
   rw [tvCells_len]
   omega
 | some x =>
  conv => lhs; rw [e]
  rw [tvCells_at l (q / 4) (q % 4) x h (Nat.mod_lt _ (by decide))]
  rfl
theorem vars_set {w : World} {g n c i : Nat} {l : List TV} (h : w.ownsRow 0 150 4 (.slice (some ⟨g, 0, none⟩) n c) n (l.flatMap TV.cells)) (hn : l.length = n) (hi : i < n) (x : TV) :
  ((((w.setCell ⟨g, i * 4, none⟩ (.int .i64 x.level)).setCell ⟨g, i * 4 + 1, none⟩ (.int .i64 x.reason)).setCell ⟨g, i * 4 + 2, none⟩ (.int .i64 x.place)).setCell ⟨g, i * 4 + 3, none⟩ (.int .i64 x.value)).ownsRow 0 150 4 (.slice (some ⟨g, 0, none⟩) n c) n ((l.set i x).flatMap TV.cells) := by
 obtain ⟨h0, h1⟩ := h
 rcases h1 with ⟨h1, _⟩ | ⟨g', cap, cur, hv, hb, hg, hle, hm, hs, hx⟩
 ·
  cases h1
 ·
  cases hv
  refine ⟨by rw [tvCells_len, List.length_set, hn], .inr ⟨g, c, _, rfl, hb, mx_set (mx_set (mx_set (mx_set hg _) _) _) _, hle, hm, by simpa using hs, ?_⟩⟩
  apply List.ext_getElem?
  intro q
  rw [List.getElem?_take, tvCells_div, List.getElem?_set]
  have hq0 : (l.flatMap TV.cells)[q]? = if q < n * 4 then cur[q]? else none := by
   rw [← hx, List.getElem?_take]
   split
   ·
    rw [Array.getElem?_toList]
   ·
    rfl
  rw [tvCells_div] at hq0
  by_cases hq : q < n * 4
  ·
   rw [if_pos hq] at hq0 ⊢
   rw [Array.getElem?_toList]
   simp only [Array.getElem?_setIfInBounds, Array.size_setIfInBounds]
   by_cases hqi : i = q / 4
   ·
    rw [if_pos hqi, if_pos (show i < l.length by omega)]
    have hq4 : q = i * 4 ∨ q = i * 4 + 1 ∨ q = i * 4 + 2 ∨ q = i * 4 + 3 := by omega
    have hsz : q < cur.size := by omega
    rcases hq4 with e | e | e | e
    ·
     rw [if_neg (show ¬ i * 4 + 3 = q by omega), if_neg (show ¬ i * 4 + 2 = q by omega), if_neg (show ¬ i * 4 + 1 = q by omega), if_pos (show i * 4 = q by omega), if_pos (show i * 4 < cur.size by omega)]
     rw [show q % 4 = 0 by omega]
     rfl
    ·
     rw [if_neg (show ¬ i * 4 + 3 = q by omega), if_neg (show ¬ i * 4 + 2 = q by omega), if_pos (show i * 4 + 1 = q by omega), if_pos (show i * 4 + 1 < cur.size by omega)]
     rw [show q % 4 = 1 by omega]
     rfl
    ·
     rw [if_neg (show ¬ i * 4 + 3 = q by omega), if_pos (show i * 4 + 2 = q by omega), if_pos (show i * 4 + 2 < cur.size by omega)]
     rw [show q % 4 = 2 by omega]
     rfl
    ·
     rw [if_pos (show i * 4 + 3 = q by omega), if_pos (show i * 4 + 3 < cur.size by omega)]
     rw [show q % 4 = 3 by omega]
     rfl
   ·
    rw [if_neg hqi, if_neg (show ¬ i * 4 + 3 = q by omega), if_neg (show ¬ i * 4 + 2 = q by omega), if_neg (show ¬ i * 4 + 1 = q by omega), if_neg (show ¬ i * 4 = q by omega)]
    exact hq0.symm
  ·
   rw [if_neg hq]
   by_cases hqi : i = q / 4
   ·
    omega
   ·
    rw [if_neg hqi, List.getElem?_eq_none (by omega)]
    rfl
set_option maxRecDepth 100000 in
set_option maxHeartbeats 2000000 in
theorem tr_assign {O : Nat → Prop} (b : Nat) (T : Trl) (l r : Int) (w : World) (h : TrAt O w b T) (hno : T.order.length < 1048576) :
  Calls Tryz.prog 54 #[.pointer (some ⟨b, 0, none⟩), .int .i64 l, .int .i64 r] w fun e w' => e = .returned (.int .i64 (T.assignErr l r : Nat)) ∧ TrNext O w w' b (T.assigned l r) := by
 have HIS := Lib.hid (tr_is b T w h)
 have HV := Lib.hid (lit_var l w)
 have HT := Lib.hid h
 obtain ⟨hk, gv, cv, ov, sv, h⟩ := h
 have hst := tr_state b T gv cv ov sv (litV l) w hk h
 have HK := Lib.hid hk
 have HM := Lib.hid h
 obtain ⟨m, hm⟩ : ∃ m, litV l = m := ⟨_, rfl⟩
 rw [hm] at hst HV
 have hbw := heap_lt h.block
 rcases hat : T.at (m : Int) with _ | s
 ·
  rw [hat, stateVal_none] at hst
  have HST := Lib.hid hst
  have hE : T.assignErr l r = 40 := by unfold Trl.assignErr; rw [hm, hat]
  have HE := Lib.hid hE
  have HA := Lib.hid (show T.assigned l r = T from by unfold Trl.assigned; rw [if_neg (by rw [hE]; decide)])
  clear hst hat h hk hm hE
  go_enter Tryz.func54, Tryz.ntmps54
  go_wp2_with fail
  refine HIS.out.mono ?_
  rintro e w' ⟨rfl, rfl⟩
  go_wp2_with fail
  refine HV.out.mono ?_
  rintro e w' ⟨rfl, rfl⟩
  go_wp2_with fail
  refine HST.out.mono ?_
  rintro e w' ⟨rfl, rfl⟩
  go_wp2_with fail
  go_ret
  exact ⟨by rw [HE.out]; rfl, by rw [HA.out]; exact TrNext.of_below HT.out (Below.refl _ _)⟩
 ·
  rw [hat, stateVal_some] at hst
  have hget := Trl.at_get hat
  rw [Int.toNat_natCast] at hget hst
  obtain ⟨c0, c1, c2, c3⟩ := h.var hget
  have HST := Lib.hid hst
  by_cases hr : r < 0 ∨ 1073741824 < r
  ·
   have hE : T.assignErr l r = 2 := by unfold Trl.assignErr; rw [hm, hat]; exact if_pos hr
   have HE := Lib.hid hE
   have HA := Lib.hid (show T.assigned l r = T from by unfold Trl.assigned; rw [if_neg (by rw [hE]; decide)])
   clear hst hat h hk hm hE hget
   by_cases hr0 : r < 0
   ·
    have q0 : decide (r < 0) = true := by simpa using hr0
    clear hr
    go_enter Tryz.func54, Tryz.ntmps54
    go_wp2_with fail
    refine HIS.out.mono ?_
    rintro e w' ⟨rfl, rfl⟩
    go_wp2_with fail
    refine HV.out.mono ?_
    rintro e w' ⟨rfl, rfl⟩
    go_wp2_with fail
    refine HST.out.mono ?_
    rintro e w' ⟨rfl, rfl⟩
    go_wp2_with fail
    go_ret
    exact ⟨by rw [HE.out]; rfl, by rw [HA.out]; exact TrNext.of_below HT.out (Below.refl _ _)⟩
   ·
    have q0 : decide (r < 0) = false := by simpa using hr0
    have q1 : decide ((1073741824 : Int) < r) = true := by simp; omega
    clear hr
    go_enter Tryz.func54, Tryz.ntmps54
    go_wp2_with fail
    refine HIS.out.mono ?_
    rintro e w' ⟨rfl, rfl⟩
    go_wp2_with fail
    refine HV.out.mono ?_
    rintro e w' ⟨rfl, rfl⟩
    go_wp2_with fail
    refine HST.out.mono ?_
    rintro e w' ⟨rfl, rfl⟩
    go_wp2_with fail
    go_ret
    exact ⟨by rw [HE.out]; rfl, by rw [HA.out]; exact TrNext.of_below HT.out (Below.refl _ _)⟩
  ·
   have q0 : decide (r < 0) = false := by simp; omega
   have q1 : decide ((1073741824 : Int) < r) = false := by simp; omega
   by_cases hs0 : s.value = 0
   ·
    have q2 : (s.value != 0) = false := by simpa using hs0
    have hE : T.assignErr l r = 0 := by unfold Trl.assignErr; rw [hm, hat]; simp only []; rw [if_neg hr, if_neg (by simpa using hs0)]
    have HE := Lib.hid hE
    have HA := Lib.hid (show T.assigned l r = ⟨T.vars.set m ⟨T.now, r, T.order.length, litS l⟩, T.order ++ [l], T.starts⟩ from by unfold Trl.assigned; rw [if_pos hE]; unfold Trl.assign; rw [hm])
    have hmv : m < T.vars.length := (List.getElem?_eq_some_iff.1 hget).1
    obtain ⟨sg, hsg⟩ : ∃ g, litS l = g := ⟨_, rfl⟩
    have hsa := litS_abs l
    rw [hsg] at hsa
    have HSG := Lib.hid (fun W => (hsg ▸ tr_sign l W : Calls Tryz.prog 94 #[.int .i64 l] W fun e w' => e = .returned (.int .i64 sg) ∧ W = w'))
    rw [hsg] at HA
    obtain ⟨Ao, co, rfl, _⟩ := mx_slice h.order
    obtain ⟨As, cs, rfl, _⟩ := mx_slice h.starts
    have d1 : w.cell? ⟨b, 1, none⟩ = some (.slice Ao T.order.length co) := mx_cell (j := 1) h.block
    have hgv := (own_lt h.vars gv rfl).2
    have HSA := Lib.hid hsa
    have HS0 := Lib.hid hs0
    clear hst hat h hk hm hE hget hsg hsa hr hs0
    go_enter Tryz.func54, Tryz.ntmps54
    go_wp2_with fail
    refine HIS.out.mono ?_
    rintro e w' ⟨rfl, rfl⟩
    go_wp2_with fail
    refine HV.out.mono ?_
    rintro e w' ⟨rfl, rfl⟩
    go_wp2_with fail
    refine HST.out.mono ?_
    rintro e w' ⟨rfl, rfl⟩
    go_wp2_with fail
    refine wp_region_held_drew (S := fun w' => w'.cell? ⟨b, 1, none⟩ = some (.slice Ao T.order.length co)) (by kernel_rfl) d1 (fun hHeld => ?_)
    have hbD := mx_drew w
    obtain ⟨wD, hwD⟩ : ∃ x, w.drew = x := ⟨_, rfl⟩
    rw [hwD] at hHeld hbD ⊢
    have hzD := hbD.size
    have HBD := Lib.hid hbD
    clear hwD d1 c0 c1 c2 c3 hbD
    refine takeF 0 35 (fun w hSw => hSw) ?_
    refine takeF 1 36 (fun w hSw => hSw) ?_
    refine takeF 3 38 (fun w hSw => hSw) ?_
    refine takeF 4 39 (fun w hSw => hSw) ?_
    refine takeF 5 40 (fun w hSw => hSw) ?_
    refine takeF 6 41 (fun w hSw => hSw) ?_
    refine takeF 7 42 (fun w hSw => hSw) ?_
    refine takeF 8 43 (fun w hSw => hSw) ?_
    refine takeF 10 45 (fun w hSw => hSw) ?_
    refine ready1 2 (fun K hK => ?_)
    go_simp
    refine (tr_now b T wD (HT.out.below HBD.out)).mono ?_
    rintro e w' ⟨rfl, rfl⟩
    refine hK.out _ _ hHeld (fun hHeld1 => ?_)
    clear hK hHeld1
    refine takeF 9 44 (fun w hSw => hSw) ?_
    refine ready1 11 (fun K hK => ?_)
    go_simp
    refine (HSG.out wD).mono ?_
    rintro e w' ⟨rfl, rfl⟩
    refine hK.out _ _ hHeld (fun hHeld1 => ?_)
    clear hK hHeld1
    refine takeF 12 47 (fun w hSw => hSw) ?_
    refine takeF 13 48 (fun w hSw => hSw) ?_
    have hMD := HM.out.kept (O' := fun _ => False) (Kept.of_below HBD.out) (fun _ _ h => h)
    obtain ⟨x0, hx0⟩ : ∃ s', T.vars[m]? = some s' := ⟨_, List.getElem?_eq_getElem hmv⟩
    obtain ⟨v0, v1, v2, v3⟩ := hMD.var hx0
    obtain ⟨cv0, hvb⟩ := own_type hMD.vars gv rfl
    have f0 := mx_free (j := m * 4) hvb
    have f1 := mx_free (j := m * 4 + 1) hvb
    have f2 := mx_free (j := m * 4 + 2) hvb
    have f3 := mx_free (j := m * 4 + 3) hvb
    have HMD := Lib.hid hMD
    have HVB := Lib.hid hvb
    clear hMD hvb hx0
    refine ready1 14 (fun K hK => ?_)
    go_simp
    have hks : Kept (fun g => g = gv) wD ((((wD.setCell ⟨gv, m * 4, none⟩ (.int .i64 ((T.starts.length : Int) - 1))).setCell ⟨gv, m * 4 + 1, none⟩ (.int .i64 r)).setCell ⟨gv, m * 4 + 2, none⟩ (.int .i64 (T.order.length : Int))).setCell ⟨gv, m * 4 + 3, none⟩ (.int .i64 sg)) := ((((Kept.refl (fun g => g = gv) wD).setCell ⟨gv, m * 4, none⟩ _ rfl).setCell ⟨gv, m * 4 + 1, none⟩ _ rfl).setCell ⟨gv, m * 4 + 2, none⟩ _ rfl).setCell ⟨gv, m * 4 + 3, none⟩ _ rfl
    have hvr := vars_set HMD.out.vars rfl hmv ⟨T.now, r, T.order.length, sg⟩
    obtain ⟨ws, hws⟩ : ∃ x, ((((wD.setCell ⟨gv, m * 4, none⟩ (.int .i64 ((T.starts.length : Int) - 1))).setCell ⟨gv, m * 4 + 1, none⟩ (.int .i64 r)).setCell ⟨gv, m * 4 + 2, none⟩ (.int .i64 (T.order.length : Int))).setCell ⟨gv, m * 4 + 3, none⟩ (.int .i64 sg)) = x := ⟨_, rfl⟩
    have hvr' : ws.ownsRow 0 150 4 (.slice (some ⟨gv, 0, none⟩) T.vars.length cv) T.vars.length ((T.vars.set m ⟨T.now, r, T.order.length, sg⟩).flatMap TV.cells) := by rw [← hws]; exact hvr
    rw [hws] at hks ⊢
    have hnv : b ≠ gv := fun e => mx_not HMD.out.vars HMD.out.block (by decide) (by rw [e]; rfl)
    have hbs := (hks.block b (by omega) hnv).trans HMD.out.block
    have d1 : ws.cell? ⟨b, 1, none⟩ = some (.slice Ao T.order.length co) := mx_cell (j := 1) hbs
    refine hK.out _ _ d1 (fun hHeld1 => ?_)
    have HKS := Lib.hid hks
    have HVR := Lib.hid hvr'
    have HBS := Lib.hid hbs
    have HKW := Lib.hid ((Kept.of_below (O := fun g => g = gv) HBD.out).trans hks (fun i _ h => h))
    clear hK hHeld hHeld1 hks hvr hvr' hws hbs v0 v1 v2 v3 f0 f1 f2 f3 HVB
    refine wpAnyH_done (by kernel_rfl) ?_ _
    have fr1 := mx_free (j := 1) HBS.out
    obtain ⟨i0, hi0, hz0, hz1, hz2⟩ := info_parts tinfo_lit
    have hro := own_kept HMD.out.order HKS.out (fun g hg e => by
     subst e
     exact mx_apart HMD.out.order HMD.out.vars (by decide) hg rfl)
    have HRO := Lib.hid hro
    have hzs := HKS.out.size
    clear hro
    go_wp2_with (at_builtin; refine wpList_append_any rfl _ _ 33 rfl 0 32 i0 (.int .i64 0) 1 8 Tryz.underlying33 hi0 hz0 hz1 hz2 rfl (by decide) _ T.order.length _ rfl (own_below HRO.out (mx_al ws (.cells #[.int .i64 l] 32))) (.slice (some ⟨ws.heap.size, 0, none⟩) 1 1) 1 [.int .i64 l] rfl (mx_src ws 32 [.int .i64 l]) rfl (by simp [Value.oneCell']) (by unfold maxLen; omega) (by omega) (Nat.zero_le _) ?_; intro v' w2 hown hgrow hat; obtain ⟨Ax, kx, hv2, _⟩ := mx_slice hown; subst hv2; have HOX := Lib.hid hown; have hkg : Kept (fun g => (Value.slice Ao T.order.length co).ownBlock = some g) ws w2 := (Kept.of_below (mx_al ws (.cells #[.int .i64 l] 32))).trans (Kept.grown hgrow) (fun i hi e => e.symm); have hnb : (Value.slice Ao T.order.length co).ownBlock ≠ some b := mx_not HRO.out HBS.out (by decide); have hb2 := (hkg.block b (by omega) hnb).trans HBS.out; have p1 : w2.cell? ⟨b, 1, none⟩ = some (.slice Ao T.order.length co) := mx_cell (j := 1) hb2; have fp1 := mx_free (j := 1) hb2; have HKG := Lib.hid hkg; have HB2 := Lib.hid hb2; have HAT := Lib.hid (show (Value.slice Ax (T.order.length + 1) kx).ownBlock = (Value.slice Ao T.order.length co).ownBlock ∨ (Value.slice Ax (T.order.length + 1) kx).ownBlock = some (ws.heap.size + 1) from by rw [← World.size_alloc]; exact hat); clear hown hgrow hat hkg hb2 d1 fr1)
    obtain ⟨wf, hwf⟩ : ∃ x, w2.setCell ⟨b, 1, none⟩ (.slice Ax (T.order.length + 1) kx) = x := ⟨_, rfl⟩
    have hkf : Kept (fun g => g = b) w2 wf := by rw [← hwf]; exact (Kept.refl (fun g => g = b) w2).setCell ⟨b, 1, none⟩ _ rfl
    have hbf : wf.heap[b]? = some (.cells #[.slice (some ⟨gv, 0, none⟩) T.vars.length cv, .slice Ax (T.order.length + 1) kx, .slice As T.starts.length cs, .bool true] 153 (0, 0)) := by rw [← hwf]; exact mx_set HB2.out _ (j := 1)
    rw [hwf]
    have hnx : (Value.slice Ax (T.order.length + 1) kx).ownBlock ≠ some b := mx_not HOX.out HB2.out (by decide)
    have hsf : Kept (fun g => g = b ∨ (Value.slice Ao T.order.length co).ownBlock = some g) ws wf := (HKG.out.mono (fun g _ h => .inr h)).trans hkf (fun i _ e => .inl e)
    have hwW : Kept (fun g => g = gv ∨ g = b ∨ (Value.slice Ao T.order.length co).ownBlock = some g) w wf := (HKW.out.mono (fun g _ h => .inl h)).trans hsf (fun i _ e => .inr e)
    have hsz := hwW.size
    go_ret
    rw [HE.out, HA.out]
    refine ⟨rfl, ⟨⟨?_, ?_, HK.out.starts, ?_⟩, gv, cv, .slice Ax (T.order.length + 1) kx, .slice As T.starts.length cs, ⟨?_, .inl HM.out.inb, .inl HM.out.invs, ?_, ?_, ?_, ?_, ?_, fun g hg => .inl (HM.out.startsb g hg)⟩⟩, hwW.mono (fun g hg e => ?_)⟩
    ·
     show 1 ≤ (T.vars.set m _).length ∧ (T.vars.set m _).length ≤ 1048577
     rw [List.length_set]
     exact HK.out.vars
    ·
     show (T.order ++ [l]).length ≤ 1048576
     rw [List.length_append, List.length_singleton]
     omega
    ·
     intro s' hs'
     rcases List.mem_or_eq_of_mem_set hs' with h1 | h1
     ·
      exact HK.out.each s' h1
     ·
      rw [h1]
      exact .inr HSA.out
    ·
     intro g hg
     rcases hg with hg | hg
     ·
      exact Nat.lt_of_lt_of_le (HM.out.own g hg) hsz
     ·
      exact hg.2
    ·
     show wf.heap[b]? = some (.cells #[.slice (some ⟨gv, 0, none⟩) (T.vars.set m _).length cv, .slice Ax (T.order.length + 1) kx, _, .bool true] 153 (0, 0))
     rw [List.length_set]
     exact hbf
    ·
     show wf.ownsRow 0 _ 4 (.slice (some ⟨gv, 0, none⟩) (T.vars.set m _).length cv) (T.vars.set m _).length _
     rw [List.length_set]
     refine own_kept HVR.out hsf (fun g hg e => ?_)
     obtain rfl : gv = g := Option.some.inj hg
     rcases e with e | e
     ·
      exact hnv e.symm
     ·
      exact mx_apart HRO.out HVR.out (by decide) e rfl
    ·
     have hx := own_kept HOX.out hkf (fun g hg e => by
      subst e
      exact hnx hg)
     show wf.ownsRow 0 32 1 (.slice Ax (T.order.length + 1) kx) (T.order ++ [_]).length ((T.order ++ [_]).map _)
     rw [List.length_append, List.map_append]
     exact hx
    ·
     intro g hg
     have h1 := (own_lt HOX.out g hg).2
     rcases Nat.lt_or_ge g w.heap.size with h2 | h2
     ·
      rcases HAT.out with h3 | h3
      ·
       exact .inl (HM.out.orderb g (h3 ▸ hg))
      ·
       rw [hg] at h3
       have := Option.some.inj h3
       omega
     ·
      exact .inr ⟨h2, Nat.lt_of_lt_of_le h1 hkf.size⟩
    ·
     refine own_kept HM.out.starts hwW (fun g hg e => ?_)
     rcases e with e | e | e
     ·
      subst e
      exact mx_apart HM.out.starts HM.out.vars (by decide) hg rfl
     ·
      subst e
      exact mx_not HM.out.starts HM.out.block (by decide) hg
     ·
      exact mx_apart HM.out.starts HM.out.order (by decide) hg e
    ·
     rcases e with e | e | e
     ·
      rw [e]
      exact HM.out.invs
     ·
      rw [e]
      exact HM.out.inb
     ·
      exact HM.out.orderb g e
   ·
    have q2 : (s.value != 0) = true := by simpa using hs0
    have hE : T.assignErr l r = 41 := by unfold Trl.assignErr; rw [hm, hat]; simp only []; rw [if_neg hr, if_pos (by simpa using hs0)]
    have HE := Lib.hid hE
    have HA := Lib.hid (show T.assigned l r = T from by unfold Trl.assigned; rw [if_neg (by rw [hE]; decide)])
    clear hst hat h hk hm hE hget hr hs0
    go_enter Tryz.func54, Tryz.ntmps54
    go_wp2_with fail
    refine HIS.out.mono ?_
    rintro e w' ⟨rfl, rfl⟩
    go_wp2_with fail
    refine HV.out.mono ?_
    rintro e w' ⟨rfl, rfl⟩
    go_wp2_with fail
    refine HST.out.mono ?_
    rintro e w' ⟨rfl, rfl⟩
    go_wp2_with fail
    go_ret
    exact ⟨by rw [HE.out]; rfl, by rw [HA.out]; exact TrNext.of_below HT.out (Below.refl _ _)⟩
end Go.Proofs.YtoojmhjagipmdaaGreat
