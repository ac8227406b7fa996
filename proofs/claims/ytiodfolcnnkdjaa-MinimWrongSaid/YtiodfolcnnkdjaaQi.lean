/- minim: hints. -/
import Derived.Test.YtiodfolcnnkdjaaQh
import Derived.Test.YtiodfolcnnkdjaaSt
namespace Go.Proofs.Ytiodfolcnnkdjaa
open Go.RowKit Go.Shelf Go.Maps
attribute [local go_sem] Oper.semAt_some

theorem hint_one (q : Nat) (v x : Int) (w : World) (hq : w.cell? ⟨q, 0, none⟩ = some (.int .i64 v)) :
    Calls Try.prog 45 #[.int .i64 x, .pointer (some ⟨q, 0, none⟩)] w fun e w' => e = .returned (.bool (decide ((litV x : Int) = v))) ∧ Below w.heap.size w w' := by
  have HV := Lib.hid (fun w => lit_var x w)
  have HQ := Lib.hid hq
  have hql := World.block_lt_of_cell? w _ hq
  obtain ⟨lv, hlv⟩ : ∃ z : Int, ((litV x : Nat) : Int) = z := ⟨_, rfl⟩
  rw [hlv] at HV ⊢
  clear hlv hq
  obtain ⟨z, hz⟩ : ∃ z, decide (lv = v) = z := ⟨_, rfl⟩
  have hz2 : (lv == v) = z := by rw [← hz]; rfl
  rw [hz]
  clear hz
  go_enter Try.func45, Try.ntmps45
  go_upto_region 1 with fail
  refine wp_region_held_drew (S := fun w' => Below w.heap.size w w') (by kernel_rfl) (mx_drew w) (fun hS => ?_)
  refine takeD 0 4 (v := ?_) rfl (by rfl) (by kernel_rfl) (by kernel_rfl) (by kernel_rfl) (fun _ _ _ h => h) (Or.inl ⟨by rfl, ?_⟩) (by assumption) ?_
  rotate_left
  · intro wq hSw
    clear hSw
    go_simp
    try with_reducible rfl
  simp only [Act.put, List.setIfInBounds_toArray, List.set_cons_zero, List.set_cons_succ]
  refine takeD 2 6 (v := ?_) rfl (by rfl) (by kernel_rfl) (by kernel_rfl) (by kernel_rfl) (fun _ _ _ h => h) (Or.inl ⟨by rfl, ?_⟩) (by assumption) ?_
  rotate_left
  · intro wq hSw
    have k0 := (hSw.cell (p := ⟨q, 0, none⟩) hql).trans HQ.out
    clear hSw
    go_simp
    try with_reducible rfl
  simp only [Act.put, List.setIfInBounds_toArray, List.set_cons_zero, List.set_cons_succ]
  refine wpAnyH_ready (rs := [1]) (by kernel_rfl) (by simp) ?_
  refine AllReadyH.cons rfl (fun K hK => ?_) AllReadyH.nil
  go_simp
  refine (HV.out _).mono ?_
  rintro e w' ⟨rfl, rfl⟩
  refine hK.out _ _ hS (fun _ => ?_)
  clear hK
  refine takeD 3 7 (v := ?_) rfl (by rfl) (by kernel_rfl) (by kernel_rfl) (by kernel_rfl) (fun _ _ _ h => h) (Or.inl ⟨by rfl, ?_⟩) (by assumption) ?_
  rotate_left
  · intro wq hSw
    clear hSw
    go_simp
    try with_reducible rfl
  simp only [Act.put, List.setIfInBounds_toArray, List.set_cons_zero, List.set_cons_succ]
  refine takeD 4 3 (v := ?_) rfl (by rfl) (by kernel_rfl) (by kernel_rfl) (by kernel_rfl) (fun _ _ _ h => h) (Or.inl ⟨by rfl, ?_⟩) (by assumption) ?_
  rotate_left
  · intro wq hSw
    clear hSw
    go_simp
    try with_reducible rfl
  simp only [Act.put, List.setIfInBounds_toArray, List.set_cons_zero, List.set_cons_succ]
  refine wpAnyH_done (by kernel_rfl) ?_ _
  go_wp2_with fail
  go_ret
  exact ⟨rfl, hS⟩
set_option maxRecDepth 100000 in
set_option maxHeartbeats 1000000 in
theorem index_hint {Oc : Nat → Prop} (q : Nat) (v : Int) (u : Value) (xs : List Int) (w : World) (hq : w.cell? ⟨q, 0, none⟩ = some (.int .i64 v)) (h1 : IntsIn Oc w u xs) (hs : xs.length ≤ 4194304) :
    Calls Try.prog 67 #[u, .func (.func 45) #[] #[.pointer (some ⟨q, 0, none⟩)]] w fun e w' => (∃ i : Int, e = .returned (.int .i64 i) ∧ FstAt xs (fun l => decide ((litV l : Int) = v)) i) ∧ Below w.heap.size w w' := by
  have HONE := Lib.hid (fun (W : World) (hb : Below w.heap.size w W) (x : Int) => hint_one q v x W ((hb.cell (p := ⟨q, 0, none⟩) (World.block_lt_of_cell? w _ hq)).trans hq))
  have HX := Lib.hid h1
  obtain ⟨A, c, rfl, hc, _, _⟩ := h1
  go_enter Try.func67, Try.ntmps67
  go_wp2
  go_loopw [8] (fun i wr => ∃ k : Nat, k ≤ xs.length ∧ i = .int .i64 k ∧ Hid (∀ j x, j < k → xs[j]? = some x → ((fun l => decide ((litV l : Int) = v))) x = false) ∧ Hid (Below w.heap.size w wr)) (fun i _ => xs.length - (intOf i).toNat)
  case atStart => exact ⟨0, Nat.zero_le _, rfl, Lib.hid (fun j x hj => by omega), Lib.hid (Below.refl _ _)⟩
  case round =>
    obtain ⟨k, hk, rfl, HE, HW⟩ := hrel
    by_cases hlt : k < xs.length
    · obtain ⟨x, hxk⟩ := getElem_of hlt
      obtain ⟨A', c', hAc, _, _, hxs⟩ := HX.out.below HW.out
      simp only [Value.slice.injEq, true_and] at hAc
      obtain ⟨rfl, rfl⟩ := hAc
      obtain ⟨g, o, rfl, hg, _, d1⟩ := hxs k x hxk
      have HXK := Lib.hid hxk
      have HC := Lib.hid (HONE.out wr HW.out x)
      clear hxk hxs
      obtain ⟨b, hb⟩ : ∃ b, ((fun l => decide ((litV l : Int) = v))) x = b := ⟨_, rfl⟩
      have HB := Lib.hid hb
      simp only [] at hb
      rw [hb] at HC
      clear hb
      cases b with
      | true =>
        go_wp2_with fail
        refine HC.out.mono ?_
        rintro e w' ⟨rfl, hbw⟩
        have HB2 := Lib.hid (HW.out.trans (hbw.mono HW.out.size))
        clear hbw d1
        go_wp2
        go_ret
        exact ⟨⟨_, rfl, .inr ⟨k, rfl, hlt, HE.out, x, HXK.out, HB.out⟩⟩, HB2.out⟩
      | false =>
        go_wp2_with fail
        refine HC.out.mono ?_
        rintro e w' ⟨rfl, hbw⟩
        have HB2 := Lib.hid (HW.out.trans (hbw.mono HW.out.size))
        clear hbw d1
        go_wp2
        go_roundw
        case rel => exact ⟨k + 1, by omega, by go_num, Lib.hid (fun j y hj hy => by
          rcases Nat.lt_or_ge j k with h | h
          · exact HE.out j y h hy
          · obtain rfl : j = k := by omega
            rw [HXK.out] at hy
            obtain rfl := Option.some.inj hy
            exact HB.out), HB2⟩
        case measure => simp [intOf]; omega
    · obtain rfl : k = xs.length := by omega
      go_wp2
      go_ret
      exact ⟨⟨_, rfl, .inl ⟨rfl, fun x hx => by
        obtain ⟨j, hj⟩ := List.getElem?_of_mem hx
        exact HE.out j x (List.getElem?_eq_some_iff.1 hj).1 hj⟩⟩, HW.out⟩
set_option maxHeartbeats 400000 in
theorem contains_hint {Oc : Nat → Prop} (q : Nat) (v : Int) (u : Value) (xs : List Int) (w : World) (hq : w.cell? ⟨q, 0, none⟩ = some (.int .i64 v)) (h1 : IntsIn Oc w u xs) (hs : xs.length ≤ 4194304) :
    Calls Try.prog 44 #[u, .func (.func 45) #[] #[.pointer (some ⟨q, 0, none⟩)]] w fun e w' => e = .returned (.bool (xs.any (fun l => decide ((litV l : Int) = v)))) ∧ Below w.heap.size w w' := by
  have H0 := index_hint q v u xs w hq h1 hs
  obtain ⟨z, hz⟩ : ∃ z, xs.any (fun l => decide ((litV l : Int) = v)) = z := ⟨_, rfl⟩
  rw [hz]
  have HZ := Lib.hid hz
  have H := Lib.hid H0
  clear H0 hz
  go_enter Try.func44, Try.ntmps44
  go_wp2_with fail
  refine H.out.mono ?_
  rintro e w' ⟨⟨i, rfl, hi⟩, hb⟩
  have HI := Lib.hid (show decide (0 ≤ i) = z from by rw [hi.any]; exact HZ.out)
  have HB := Lib.hid hb
  clear hi hb
  go_wp2_with fail
  go_ret
  exact ⟨ret_bool HI.out, HB.out⟩
/-- a clause has a literal of a variable -/
def inC (c : List Int) (v : Int) : Bool := c.any (fun l => decide ((litV l : Int) = v))
def rho (A : Arn) (T : Trl) (c : List Int) (v : Int) : List Int := if inC c v = true then [] else match why15 A T v with
  | some r => r.2
  | none => []
def hintV (A : Arn) (T : Trl) (c : List Int) (v : Int) : Option Int := if inC c v = true then none else (why15 A T v).map Prod.fst
def badV (A : Arn) (T : Trl) (c : List Int) (v : Int) : Bool := !inC c v && (why15 A T v).isNone
/-- the hints, and what is wrong -/
def hintP (A : Arn) (T : Trl) (c : List Int) (id : Int) : List Int × Nat := match A.get id with
  | none => ([], 30)
  | some f => if failE T f ≠ 0 then ([], failE T f) else if (mAll (rho A T c) f T.order).any (badV A T c) = true then ([], 150) else (((mAll (rho A T c) f T.order).filterMap (hintV A T c)).reverse ++ [id], 0)
theorem why15_get {A : Arn} {T : Trl} {v : Int} {r : Int × List Int} (h : why15 A T v = some r) : ∃ c, A.get (T.reason v) = some c ∧ r = (T.reason v, rest15 v c) := by
  unfold why15 at h
  split at h
  · split at h
    · rename_i c hc
      exact ⟨c, hc, (Option.some.inj h).symm⟩
    · cases h
  · cases h
theorem rho_len {O : Nat → Prop} {w : World} {a : Nat} {A : Arn} (h : ArAt O w a A) (T : Trl) (c : List Int) (v : Int) : (rho A T c v).length ≤ 4194304 := by
  unfold rho
  split
  · exact Nat.zero_le _
  · split
    · rename_i r hr
      obtain ⟨c0, hc0, rfl⟩ := why15_get hr
      exact Nat.le_trans (List.length_filter_le _ _) (Arn.get_len h.1 hc0)
    · exact Nat.zero_le _
/-- the boxes of hints -/
structure HnAt (a b mk : Nat) (Ac : Option Addr) (c : List Int) (cc : Nat) (w W : World) : Prop where
  below : Below w.heap.size w W
  size : w.heap.size + 3 ≤ W.heap.size
  wk : W.heap[w.heap.size]? = some (.cells #[.pointer (some ⟨a, 0, none⟩), .pointer (some ⟨b, 0, none⟩), .slice Ac c.length cc, .map (some mk)] 64 (0, 0))
  res : W.heap[w.heap.size + 1]? = some (.cells #[.slice none 0 0] 42 (0, 0))
  err : W.heap[w.heap.size + 1 + 1]? = some (.cells #[.int .i64 0] 37 (0, 0))
theorem HnAt.more {a b mk : Nat} {Ac : Option Addr} {c : List Int} {cc : Nat} {w W W' : World} (h : HnAt a b mk Ac c cc w W) (hb : Below W.heap.size W W') : HnAt a b mk Ac c cc w W' :=
  ⟨h.below.trans (hb.mono h.below.size), Nat.le_trans h.size hb.size, (hb.block _ (heap_lt h.wk)).trans h.wk, (hb.block _ (heap_lt h.res)).trans h.res, (hb.block _ (heap_lt h.err)).trans h.err⟩
theorem hn_start (a b mk : Nat) (Ac : Option Addr) (c : List Int) (cc : Nat) (w : World) : ∃ W, ((w.alloc (.cells #[.pointer (some ⟨a, 0, none⟩), .pointer (some ⟨b, 0, none⟩), .slice Ac c.length cc, .map (some mk)] 64)).alloc (.cells #[.slice none 0 0] 42)).alloc (.cells #[.int .i64 0] 37) = W ∧ HnAt a b mk Ac c cc w W := by
  obtain ⟨Wa, hWa⟩ : ∃ x, w.alloc (.cells #[.pointer (some ⟨a, 0, none⟩), .pointer (some ⟨b, 0, none⟩), .slice Ac c.length cc, .map (some mk)] 64) = x := ⟨_, rfl⟩
  obtain ⟨Wb, hWb⟩ : ∃ x, Wa.alloc (.cells #[.slice none 0 0] 42) = x := ⟨_, rfl⟩
  obtain ⟨Wc, hWc⟩ : ∃ x, Wb.alloc (.cells #[.int .i64 0] 37) = x := ⟨_, rfl⟩
  rw [hWa, hWb]
  have za : Wa.heap.size = w.heap.size + 1 := by rw [← hWa]; simp
  have zb : Wb.heap.size = w.heap.size + 1 + 1 := by rw [← hWb]; simp [za]
  have ba : Below w.heap.size w Wa := by rw [← hWa]; exact mx_al _ _
  have bb : Below Wa.heap.size Wa Wb := by rw [← hWb]; exact mx_al _ _
  have bc : Below Wb.heap.size Wb Wc := by rw [← hWc]; exact mx_al _ _
  have ha : Wa.heap[w.heap.size]? = some (.cells #[.pointer (some ⟨a, 0, none⟩), .pointer (some ⟨b, 0, none⟩), .slice Ac c.length cc, .map (some mk)] 64 (0, 0)) := by rw [← hWa]; exact World.alloc_heap_new _ _
  have hb : Wb.heap[w.heap.size + 1]? = some (.cells #[.slice none 0 0] 42 (0, 0)) := by rw [← hWb, ← za]; exact World.alloc_heap_new _ _
  have hc : Wc.heap[w.heap.size + 1 + 1]? = some (.cells #[.int .i64 0] 37 (0, 0)) := by rw [← hWc, ← zb]; exact World.alloc_heap_new _ _
  exact ⟨Wc, hWc, ba.trans ((bb.mono (by omega)).trans (bc.mono (by omega))), by rw [← hWc]; simp [zb], (bc.block _ (by omega)).trans ((bb.block _ (by omega)).trans ha), (bc.block _ (by omega)).trans hb, hc⟩
theorem cells1 {w : World} {b : Nat} {c0 : Value} {t : TypeId} (h : w.heap[b]? = some (.cells #[c0] t (0, 0))) : w.cell? ⟨b, 0, none⟩ = some c0 ∧ w.frozen? ⟨b, 0, none⟩ = false := ⟨mx_cell (j := 0) h, mx_free h⟩
theorem res_hints {fn : Func} (h : fn.results = #[.cell 4 42, .cell 5 37]) {w : World} {r q : Nat} {c0 v : Value} {t t' : TypeId} (h4 : w.heap[r]? = some (.cells #[c0] t (0, 0))) (h5 : w.heap[q]? = some (.cells #[v] t' (0, 0)))
    (tmps : Array Value) (t4 : tmps[4]?.getD undef = .pointer (some ⟨r, 0, none⟩)) (t5 : tmps[5]?.getD undef = .pointer (some ⟨q, 0, none⟩)) :
    (results fn tmps).run Try.prog w = .ok (.tuple #[c0, v]) w := by
  have p4 := (cells1 h4).1
  have p5 := (cells1 h5).1
  simp [results, h, go_sem, t4, t5, p4, p5]
/-- the end of a way that goes wrong -/
theorem hn_bad {a b mk : Nat} {Ac : Option Addr} {c : List Int} {cc : Nat} {w W : World} (h : HnAt a b mk Ac c cc w W) (e : Int) : ∃ Wf, (W.setCell ⟨w.heap.size + 1, 0, none⟩ (.slice none 0 0)).setCell ⟨w.heap.size + 1 + 1, 0, none⟩ (.int .i64 e) = Wf ∧ Below w.heap.size w Wf ∧ Wf.heap[w.heap.size + 1]? = some (.cells #[.slice none 0 0] 42 (0, 0)) ∧ Wf.heap[w.heap.size + 1 + 1]? = some (.cells #[.int .i64 e] 37 (0, 0)) := by
  refine ⟨_, rfl, (h.below.setCell (by simp only; omega) _).setCell (by simp only; omega) _, (Below.heap_setCell _ _ _ _ (by simp)).trans (mx_set (j := 0) h.res _), mx_set (j := 0) ((Below.heap_setCell _ _ _ _ (by simp)).trans h.err) _⟩
set_option maxRecDepth 100000 in
set_option maxHeartbeats 4000000 in
theorem hints_none {OA OT OC : Nat → Prop} (a b mk : Nat) (A : Arn) (T : Trl) (Ac : Option Addr) (cc : Nat) (c : List Int) (id : Int) (w : World) (ha : ArAt OA w a A) (ht : TrAt OT w b T) (hc : IntsIn OC w (.slice Ac c.length cc) c) (hg : A.get id = none) :
    Calls Try.prog 29 #[.agg #[.pointer (some ⟨a, 0, none⟩), .pointer (some ⟨b, 0, none⟩), .slice Ac c.length cc, .map (some mk)], .int .i64 id] w fun e w' => e = .returned (.tuple #[.slice none 0 0, .int .i64 30]) ∧ Below w.heap.size w w' := by
  have HA := Lib.hid ha
  have HT := Lib.hid ht
  have HC := Lib.hid hc
  obtain ⟨W0, hW0, hh0⟩ := hn_start a b mk Ac c cc w
  have HW0 := Lib.hid hW0
  have HH0 := Lib.hid hh0
  have HGT := Lib.hid (ar_get_none a A id W0 (ha.below hh0.below) hg)
  obtain ⟨⟨e0, e1, e2, e3⟩, _⟩ := cells4 hh0.wk
  clear ha ht hc hW0 hh0 hg
  refine (callsIn_wide (n := 10)).1 ?_
  refine callsIn_of_wp_marks Try.func29 rfl trivial ?_ rfl
  simp only [Try.ntmps29, List.size_toArray, List.length_cons, List.length_nil, Nat.reduceAdd, Nat.reduceSub, Array.replicate_succ, Array.replicate_zero, List.push_toArray, List.append_toArray, List.nil_append, List.cons_append]
  rw [← HW0.out] at e0 e1 e2 e3
  gi_wp2_with fail
  rw [HW0.out]
  rw [HW0.out] at e0 e1 e2 e3
  refine ⟨trivial, ?_⟩
  refine (callsIn_wide.2 HGT.out).mono ?_
  rintro e w1 ⟨rfl, hb1⟩
  have HX := Lib.hid (HH0.out.more hb1)
  clear hb1 e0 e1 e2 e3 HGT
  obtain ⟨k4, g4⟩ := cells1 HX.out.res
  obtain ⟨k5, g5⟩ := cells1 HX.out.err
  gi_wp2_with fail
  obtain ⟨Wf, hWf, hbf, r4, r5⟩ := hn_bad HX.out 30
  rw [hWf]
  clear hWf k4 g4 k5 g5
  exact ⟨_, res_hints rfl r4 r5 _ rfl rfl, rfl, hbf⟩
set_option maxRecDepth 100000 in
set_option maxHeartbeats 4000000 in
theorem hints_fail {OA OT OC : Nat → Prop} (a b mk : Nat) (A : Arn) (T : Trl) (Ac : Option Addr) (cc : Nat) (c : List Int) (id : Int) (f : List Int) (w : World) (ha : ArAt OA w a A) (ht : TrAt OT w b T) (hc : IntsIn OC w (.slice Ac c.length cc) c) (hg : A.get id = some f) (hf : failE T f ≠ 0) :
    Calls Try.prog 29 #[.agg #[.pointer (some ⟨a, 0, none⟩), .pointer (some ⟨b, 0, none⟩), .slice Ac c.length cc, .map (some mk)], .int .i64 id] w fun e w' => e = .returned (.tuple #[.slice none 0 0, .int .i64 (failE T f : Nat)]) ∧ Below w.heap.size w w' := by
  have HFA := Lib.hid (fun (W : World) (O : Nat → Prop) (u : Value) (h : TrAt OT W b T) (hu : IntsIn O W u f) => mn_failing b T u f W h hu (Arn.get_len ha.1 hg))
  obtain ⟨FE, hfe⟩ : ∃ z : Int, ((failE T f : Nat) : Int) = z := ⟨_, rfl⟩
  have q1 : (FE != 0) = true := by
    rw [← hfe]
    simp
    exact hf
  rw [hfe] at HFA ⊢
  have HA := Lib.hid ha
  have HT := Lib.hid ht
  have HC := Lib.hid hc
  obtain ⟨W0, hW0, hh0⟩ := hn_start a b mk Ac c cc w
  have HW0 := Lib.hid hW0
  have HH0 := Lib.hid hh0
  have HGT := Lib.hid (ar_get a A id f W0 (ha.below hh0.below) hg)
  obtain ⟨⟨e0, e1, e2, e3⟩, _⟩ := cells4 hh0.wk
  clear ha ht hc hW0 hh0 hg hf hfe
  refine (callsIn_wide (n := 10)).1 ?_
  refine callsIn_of_wp_marks Try.func29 rfl trivial ?_ rfl
  simp only [Try.ntmps29, List.size_toArray, List.length_cons, List.length_nil, Nat.reduceAdd, Nat.reduceSub, Array.replicate_succ, Array.replicate_zero, List.push_toArray, List.append_toArray, List.nil_append, List.cons_append]
  rw [← HW0.out] at e0 e1 e2 e3
  gi_wp2_with fail
  rw [HW0.out]
  rw [HW0.out] at e0 e1 e2 e3
  refine ⟨trivial, ?_⟩
  refine (callsIn_wide.2 HGT.out).mono ?_
  rintro e w1 ⟨uf, rfl, hof, hb1⟩
  have HX1 := Lib.hid (HH0.out.more hb1)
  have HFC := Lib.hid (HFA.out w1 _ uf (HT.out.below HX1.out.below) (IntsIn.of_own hof))
  clear hb1 e0 e1 e2 e3 HGT hof HFA
  obtain ⟨⟨e0, e1, e2, e3⟩, _⟩ := cells4 HX1.out.wk
  gi_wp2_with fail
  refine ⟨trivial, ?_⟩
  refine (callsIn_wide.2 HFC.out).mono ?_
  rintro e w2 ⟨rfl, hb2⟩
  have HX := Lib.hid (HX1.out.more hb2)
  clear hb2 e0 e1 e2 e3 HFC
  obtain ⟨k4, g4⟩ := cells1 HX.out.res
  obtain ⟨k5, g5⟩ := cells1 HX.out.err
  gi_wp2_with fail
  obtain ⟨Wf, hWf, hbf, r4, r5⟩ := hn_bad HX.out FE
  rw [hWf]
  clear hWf k4 g4 k5 g5
  exact ⟨_, res_hints rfl r4 r5 _ rfl rfl, rfl, hbf⟩
theorem HnAt.kept {O : Nat → Prop} {a b mk : Nat} {Ac : Option Addr} {c : List Int} {cc : Nat} {w W W' : World} (h : HnAt a b mk Ac c cc w W) (k : Kept O W W') (hO : ∀ g, O g → w.heap.size + 3 ≤ g) : HnAt a b mk Ac c cc w W' := by
  have ne : ∀ g, g < w.heap.size + 3 → ¬ O g := fun g hg ho => by
    have := hO g ho
    omega
  exact ⟨h.below.trans (k.below (fun i hi => by have := hO i hi; omega) h.below.size), Nat.le_trans h.size k.size, (k.block _ (heap_lt h.wk) (ne _ (by omega))).trans h.wk, (k.block _ (heap_lt h.res) (ne _ (by omega))).trans h.res, (k.block _ (heap_lt h.err) (ne _ (by omega))).trans h.err⟩
def houts (A : Arn) (T : Trl) (c : List Int) (pre : List MX) : List Int := (pre.map MX.v).filterMap (hintV A T c)
theorem houts_len (A : Arn) (T : Trl) (c : List Int) (pre : List MX) : (houts A T c pre).length ≤ pre.length :=
  Nat.le_trans (List.length_filterMap_le _ _) (by simp)
theorem houts_snoc (A : Arn) (T : Trl) (c : List Int) (pre : List MX) (x : MX) : houts A T c (pre ++ [x]) = houts A T c pre ++ (hintV A T c x.v).toList := by
  unfold houts
  rw [List.map_append, List.filterMap_append]
  cases h : hintV A T c x.v <;> simp [h]
/-- between two rounds of hints -/
structure HInv (A : Arn) (T : Trl) (a b mk : Nat) (Ac : Option Addr) (c : List Int) (cc : Nat) (w : World) (B ob : Nat) (ov : Value) (pre : List MX) (W : World) : Prop where
  hn : HnAt a b mk Ac c cc w W
  out : W.heap[ob]? = some (.cells #[ov] 42 (0, 0))
  row : W.ownsRow B 3 1 ov (houts A T c pre).length ((houts A T c pre).map (Value.int .i64))
  far : ∀ g, ov.ownBlock = some g → pre ≠ [] ∧ ∀ y ∈ pre, y.R ≤ g
  good : ∀ y ∈ pre, badV A T c y.v = false
  size : B ≤ W.heap.size
  lob : w.heap.size + 3 ≤ ob
  hob : ob < B
def HI (A : Arn) (T : Trl) (a b mk : Nat) (Ac : Option Addr) (c : List Int) (cc : Nat) (w : World) (B ob : Nat) (pre : List MX) (W : World) : Prop := ∃ ov, HInv A T a b mk Ac c cc w B ob ov pre W
theorem HInv.kept {O : Nat → Prop} {A : Arn} {T : Trl} {a b mk : Nat} {Ac : Option Addr} {c : List Int} {cc : Nat} {w : World} {B ob : Nat} {ov : Value} {pre : List MX} {W W' : World} (h : HInv A T a b mk Ac c cc w B ob ov pre W) (k : Kept O W W') (hO : ∀ g, O g → B ≤ g ∧ ov.ownBlock ≠ some g) : HInv A T a b mk Ac c cc w B ob ov pre W' := by
  have h1 := h.lob
  have h2 := h.hob
  exact ⟨h.hn.kept k (fun g hg => by have := (hO g hg).1; omega), (k.block _ (heap_lt h.out) (fun e => by have := (hO _ e).1; omega)).trans h.out, own_kept h.row k (fun g hg e => (hO g e).2 hg), h.far, h.good, Nat.le_trans h.size k.size, h1, h2⟩
theorem HInv.below {A : Arn} {T : Trl} {a b mk : Nat} {Ac : Option Addr} {c : List Int} {cc : Nat} {w : World} {B ob : Nat} {ov : Value} {pre : List MX} {W W' : World} (h : HInv A T a b mk Ac c cc w B ob ov pre W) (k : Below W.heap.size W W') : HInv A T a b mk Ac c cc w B ob ov pre W' := h.kept (O := fun _ => False) (Kept.of_below k) (fun _ e => e.elim)
theorem hi_own (A : Arn) (T : Trl) (a b mk : Nat) (Ac : Option Addr) (c : List Int) (cc : Nat) (w : World) (B ob : Nat) : OwnFrom B (HI A T a b mk Ac c cc w B ob) := by
  rintro pre W W' row ⟨ov, h⟩ hg hr
  exact ⟨ov, h.kept (Kept.grown hg) (fun g hg' => ⟨(hr g hg'.symm).1, fun e => by
    obtain ⟨o, ho, hc⟩ := (hr g hg'.symm).2
    obtain ⟨cc, hcc⟩ := own_type h.row g e
    rw [hcc] at ho
    cases ho
    cases hc⟩)⟩
/-- a round that passes over what it is told -/
theorem HInv.skip {A : Arn} {T : Trl} {a b mk : Nat} {Ac : Option Addr} {c : List Int} {cc : Nat} {w : World} {B ob : Nat} {ov : Value} {pre : List MX} {W : World} (h : HInv A T a b mk Ac c cc w B ob ov pre W) (x : MX) (hs : ∀ y ∈ pre, y.R = x.R) (hv : hintV A T c x.v = none) (hb : badV A T c x.v = false) : HInv A T a b mk Ac c cc w B ob ov (pre ++ [x]) W := by
  have e : houts A T c (pre ++ [x]) = houts A T c pre := by rw [houts_snoc, hv]; simp
  refine ⟨h.hn, h.out, by rw [e]; exact h.row, fun g hg => ⟨by simp, fun y hy => ?_⟩, fun y hy => ?_, h.size, h.lob, h.hob⟩
  · rcases List.mem_append.1 hy with hy | hy
    · exact (h.far g hg).2 y hy
    · rw [List.mem_singleton.1 hy]
      obtain ⟨z, hz⟩ := List.exists_mem_of_ne_nil _ (h.far g hg).1
      rw [← hs z hz]
      exact (h.far g hg).2 z hz
  · rcases List.mem_append.1 hy with hy | hy
    · exact h.good y hy
    · rw [List.mem_singleton.1 hy]
      exact hb
/-- a round that appends a hint -/
theorem HInv.push {A : Arn} {T : Trl} {a b mk : Nat} {Ac : Option Addr} {c : List Int} {cc : Nat} {w : World} {B ob : Nat} {ov v' : Value} {pre : List MX} {W W1 W2 : World} (h : HInv A T a b mk Ac c cc w B ob ov pre W) (x : MX) (r : Int) (hs : ∀ y ∈ pre, y.R = x.R) (hv : hintV A T c x.v = some r) (hbd : badV A T c x.v = false) (hR : x.R ≤ W.heap.size)
    (hb : Below W.heap.size W W1) (hg : W1.grownBy W2 ov.ownBlock) (hown : W2.ownsRow B 3 1 v' ((houts A T c pre).length + 1) ((houts A T c pre).map (Value.int .i64) ++ [.int .i64 r])) (hat : v'.ownBlock = ov.ownBlock ∨ v'.ownBlock = some W1.heap.size) :
    HInv A T a b mk Ac c cc w B ob v' (pre ++ [x]) (W2.setCell ⟨ob, 0, none⟩ v') ∧ Kept (fun g => g = ob ∨ some g = ov.ownBlock) W (W2.setCell ⟨ob, 0, none⟩ v') ∧ W2.heap[ob]? = some (.cells #[ov] 42 (0, 0)) := by
  have h1 := h.lob
  have h2 := h.hob
  have hge : ∀ g, some g = ov.ownBlock → B ≤ g := fun g hg => (own_lt h.row g hg.symm).1
  have k2 : Kept (fun g => some g = ov.ownBlock) W W2 := (Kept.of_below (O := fun g => some g = ov.ownBlock) hb).trans (Kept.grown hg) (fun _ _ h => h)
  have k3 : Kept (fun g => g = ob ∨ some g = ov.ownBlock) W (W2.setCell ⟨ob, 0, none⟩ v') := (k2.mono (O' := fun g => g = ob ∨ some g = ov.ownBlock) (fun g _ h => .inr h)).setCell ⟨ob, 0, none⟩ _ (.inl rfl)
  have ho2 := (k2.block ob (heap_lt h.out) (fun e => by have := hge ob e; omega)).trans h.out
  have e : houts A T c (pre ++ [x]) = houts A T c pre ++ [r] := by rw [houts_snoc, hv]; rfl
  refine ⟨⟨h.hn.kept k3 (fun g hg => hg.elim (fun e => by omega) (fun e => by have := hge g e; omega)), mx_set (j := 0) ho2 _, ?_, fun g hg => ⟨by simp, fun y hy => ?_⟩, fun y hy => ?_, Nat.le_trans h.size k3.size, h1, h2⟩, k3, ho2⟩
  · rw [e, List.length_append, List.map_append]
    exact own_kept (O := fun g => g = ob) hown ((Kept.refl (fun g => g = ob) W2).setCell ⟨ob, 0, none⟩ _ rfl) (fun g hg e => by have := (own_lt hown g hg).1; omega)
  · have hxg : x.R ≤ g := by
      rcases hat with e | e
      · rw [e] at hg
        obtain ⟨z, hz⟩ := List.exists_mem_of_ne_nil _ (h.far g hg).1
        rw [← hs z hz]
        exact (h.far g hg).2 z hz
      · rw [e] at hg
        cases hg
        exact Nat.le_trans hR hb.size
    rcases List.mem_append.1 hy with hy | hy
    · rw [hs y hy]
      exact hxg
    · rw [List.mem_singleton.1 hy]
      exact hxg
  · rcases List.mem_append.1 hy with hy | hy
    · exact h.good y hy
    · rw [List.mem_singleton.1 hy]
      exact hbd
/-- what a round keeps for the iterator -/
def RdK (x : MX) (ob : Nat) (A B : World) : Prop := KpC (fun g => g = x.mb ∨ x.R ≤ g ∨ g = ob) A B ∧ KeepsFrom x.R A B
theorem RdK.trans {x : MX} {ob : Nat} {A B C : World} (h : RdK x ob A B) (k : RdK x ob B C) : RdK x ob A C := ⟨h.1.trans k.1, h.2.trans k.2⟩
theorem RdK.below {x : MX} {ob : Nat} {A B : World} (h : Below A.heap.size A B) : RdK x ob A B := ⟨KpC.of_below h, h.size, fun k _ _ hk _ => (h.block k (heap_lt hk)).trans hk⟩
theorem RdK.kept {O : Nat → Prop} {x : MX} {ob : Nat} {A B : World} (k : Kept O A B) (h1 : ∀ g, O g → g = x.mb ∨ x.R ≤ g ∨ g = ob) (h2 : ∀ g o, O g → x.R ≤ g → A.heap[g]? = some o → o.isCells = true) : RdK x ob A B :=
  ⟨⟨k.os, k.tape, k.output, k.size, fun i _ hi hx _ => (k.block i (heap_lt hi) (fun e => hx (h1 i e))).trans hi⟩, k.size, fun i o hR hi ho => (k.block i (heap_lt hi) (fun e => by
    have := h2 i o e hR hi
    rw [ho] at this
    cases this)).trans hi⟩
theorem RdK.turn {x : MX} {ob : Nat} {A B : World} {l : Nat} {r r' : Loop} (h : RdK x ob A B) (hl : B.heap[l]? = some (.loop r)) (hR : l < x.R) : RdK x ob A (B.putObj l (.loop r')) :=
  ⟨h.1.trans ((KpC.putObj B l _ _ hl rfl rfl).mono (fun _ _ e => e.elim)), h.2.trans (KeepsFrom.of_grownBy (grownBy_putObj' B l (.loop r')) (fun j e => by cases e; exact hR))⟩
theorem MPre.kept {O : Nat → Prop} {n0 n : Nat} {pre : List MX} {x : MX} {W W' : World} (h : MPre n0 n pre x W) (k : Kept O W W') (hB : ¬ O x.B) (hm : ¬ O x.mb) : MPre n0 n pre x W' :=
  ⟨(k.block _ (heap_lt h.box) hB).trans h.box, h.map.kept k hm, h.kb, h.loB, h.lom, h.hiB, h.him, h.ne, h.lon, Nat.le_trans h.size k.size, h.len, h.same⟩
theorem MPre.turn {n0 n : Nat} {pre : List MX} {x : MX} {W : World} {l : Nat} {r r' : Loop} (h : MPre n0 n pre x W) (hl : W.heap[l]? = some (.loop r)) : MPre n0 n pre x (W.putObj l (.loop r')) := by
  refine h.kept (Kept.grown (grownBy_putObj' W l (.loop r'))) (fun e => ?_) (fun e => ?_)
  · cases e
    have := h.box
    rw [hl] at this
    cases this
  · cases e
    obtain ⟨D, ⟨es, cl, hb, _⟩, _⟩ := h.map
    rw [hl] at hb
    cases hb
theorem MPre.below {n0 n : Nat} {pre : List MX} {x : MX} {W W' : World} (h : MPre n0 n pre x W) (k : Below W.heap.size W W') : MPre n0 n pre x W' := h.kept (O := fun _ => False) (Kept.of_below k) (fun h => h) (fun h => h)
/-- behind the round's assignments -/
structure HMid (I : List MX → World → Prop) (B ob : Nat) (pre : List MX) (x : MX) (W : World) (Bx : Nat) (W' : World) : Prop where
  inv : I pre W'
  pre : MPre B (B + 2) pre x W'
  kp : RdK x ob W W'
  bx : W'.heap[Bx]? = some (.cells #[.int .i64 x.v] 3 (0, 0))
theorem HMid.turn {I : List MX → World → Prop} {B ob : Nat} (hI : OwnFrom B I) {pre : List MX} {x : MX} {W : World} {Bx : Nat} {W' : World} {l : Nat} {r r' : Loop} (h : HMid I B ob pre x W Bx W') (h1 : B ≤ l) (h2 : l < B + 2) (hl : W'.heap[l]? = some (.loop r)) : HMid I B ob pre x W Bx (W'.putObj l (.loop r')) := by
  have hg := grownBy_putObj' W' l (.loop r')
  refine ⟨hI.putObj _ h.inv h1 hl rfl, h.pre.turn hl, h.kp.turn hl (by have := h.pre.lon; omega), (hg.block _ (heap_lt h.bx) (fun e => ?_)).trans h.bx⟩
  cases e
  have := h.bx
  rw [hl] at this
  cases this
/-- what a round leaves that goes wrong -/
def HIx (A : Arn) (T : Trl) (c : List Int) (w : World) (pre : List MX) (W : World) : Prop := W.heap[w.heap.size + 1]? = some (.cells #[.slice none 0 0] 42 (0, 0)) ∧ W.heap[w.heap.size + 1 + 1]? = some (.cells #[.int .i64 150] 37 (0, 0)) ∧ Below w.heap.size w W ∧ ∃ y ∈ pre, badV A T c y.v = true
theorem hix_own (A : Arn) (T : Trl) (c : List Int) (w : World) {B : Nat} (hB : w.heap.size + 3 ≤ B) : OwnFrom B (HIx A T c w) := by
  rintro pre W W' row ⟨h1, h2, h3, h4⟩ hg hr
  have ne : ∀ g, g < B → some g ≠ row := fun g hg e => by
    have := (hr g e.symm).1
    omega
  exact ⟨(hg.block _ (heap_lt h1) (ne _ (by omega))).trans h1, (hg.block _ (heap_lt h2) (ne _ (by omega))).trans h2, h3.trans ((Kept.grown hg).below (B := w.heap.size) (fun i e => by have := (hr i e.symm).1; omega) h3.size), h4⟩
theorem mRun_len (ρ : Int → List Int) (ls : List Int) : ∀ s, (mRun ρ s ls).1.length ≤ s.1.length + ls.length := by
  induction ls with
  | nil => exact fun s => Nat.le_refl _
  | cons l ls ih =>
    intro s
    refine Nat.le_trans (ih (mStep ρ s l)) ?_
    unfold mStep
    split <;> simp <;> omega
theorem met_run (a b mk : Nat) (Ac : Option Addr) (cc : Nat) (c : List Int) (Af : Option Addr) (nf cf : Nat) (w : World) :
    Calls Try.prog 43 #[.agg #[.pointer (some ⟨a, 0, none⟩), .pointer (some ⟨b, 0, none⟩), .slice Ac c.length cc, .map (some mk)], .slice Af nf cf] w fun e w' => e = .returned (.func (.func 65) #[] #[.pointer (some ⟨w.heap.size + 1, 0, none⟩), .pointer (some ⟨w.heap.size, 0, none⟩)]) ∧ (w.alloc (.cells #[.pointer (some ⟨a, 0, none⟩), .pointer (some ⟨b, 0, none⟩), .slice Ac c.length cc, .map (some mk)] 64)).alloc (.cells #[.slice Af nf cf] 27) = w' := by
  go_enter Try.func43, Try.ntmps43
  go_wp2_with fail
  go_ret
  exact ⟨by simp, rfl⟩
end Go.Proofs.Ytiodfolcnnkdjaa
