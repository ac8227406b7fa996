/- The trail: Back. A range over a function that writes rows of its own between rounds, while its rounds write rows of theirs. -/
import Derived.Test.YtoojmhjagipmdaaGreatU017
import Derived.Test.YtoojmhjagipmdaaGreatU002
import Derived.Test.YtoojmhjagipmdaaGreatU012
import Derived.Laws.EntriesVeiled
import Derived.Test.YtoojmhjagipmdaaGreatU004
namespace Go.Proofs.YtoojmhjagipmdaaGreat
open Go.RowKit Go.Shelf Go.Maps
attribute [local go_sem] Oper.semAt_some

/-- variables that have no value any more -/
def clr : List TV → List Int → List TV
  | vs, [] => vs
  | vs, l :: r => clr (vs.set (litV l) ⟨0, 0, 0, 0⟩) r
theorem clr_len (vs : List TV) (ls : List Int) : (clr vs ls).length = vs.length := by
  induction ls generalizing vs with
  | nil => rfl
  | cons l ls ih => simp only [clr, ih, List.length_set]
theorem clr_snoc (vs : List TV) (ls : List Int) (l : Int) : clr vs (ls ++ [l]) = (clr vs ls).set (litV l) ⟨0, 0, 0, 0⟩ := by
  induction ls generalizing vs with
  | nil => rfl
  | cons x ls ih => simp only [List.cons_append, clr, ih]
theorem clr_mem {vs : List TV} {ls : List Int} {s : TV} (h : s ∈ clr vs ls) : s ∈ vs ∨ s = ⟨0, 0, 0, 0⟩ := by
  induction ls generalizing vs with
  | nil => exact .inl h
  | cons l ls ih =>
    rcases ih h with h | h
    · rcases List.mem_or_eq_of_mem_set h with h | h
      · exact .inl h
      · exact .inr h
    · exact .inr h
def Trl.clear (T : Trl) (ls : List Int) : Trl := ⟨clr T.vars ls, T.order, T.starts⟩
def Trl.back (T : Trl) (k e : Nat) : Trl := ⟨clr T.vars (T.order.drop e), T.order.take e, T.starts.take (k + 1)⟩
theorem Trl.Ok.clear {T : Trl} (h : T.Ok) (ls : List Int) : (T.clear ls).Ok :=
  ⟨by show 1 ≤ (clr T.vars ls).length ∧ (clr T.vars ls).length ≤ 1048577; rw [clr_len]; exact h.vars, h.order, h.starts, fun s hs => (clr_mem hs).elim (h.each s) (fun e => .inl (by rw [e]))⟩
theorem own_uniq {w : World} {base base' size n : Nat} {e e' : TypeId} {v : Value} {xs ys : List Value} (h : w.ownsRow base e size v n xs) (h' : w.ownsRow base' e' size v n ys) : xs = ys := by
  obtain ⟨h0, h1⟩ := h
  obtain ⟨k0, k1⟩ := h'
  rcases h1 with ⟨hv, hn⟩ | ⟨g, cap, cur, hv, _, hg, _, _, _, hx⟩
  · rcases k1 with ⟨_, hn'⟩ | ⟨g, cap, cur, hv', _⟩
    · subst hn
      rw [Nat.zero_mul] at h0 k0
      rw [List.eq_nil_of_length_eq_zero h0, List.eq_nil_of_length_eq_zero k0]
    · rw [hv] at hv'
      cases hv'
  · rcases k1 with ⟨hv', _⟩ | ⟨g', cap', cur', hv', _, hg', _, _, _, hx'⟩
    · rw [hv] at hv'
      cases hv'
    · rw [hv] at hv'
      cases hv'
      rw [hg] at hg'
      cases hg'
      rw [← hx, ← hx']
theorem own_take {w : World} {base n g c m : Nat} {e : TypeId} {xs : List Value} (h : w.ownsRow base e 1 (.slice (some ⟨g, 0, none⟩) n c) n xs) (hm : m ≤ n) : w.ownsRow base e 1 (.slice (some ⟨g, 0, none⟩) m c) m (xs.take m) := by
  obtain ⟨h0, h1⟩ := h
  rcases h1 with ⟨hv, _⟩ | ⟨g', cap, cur, hv, hb, hg, hle, hml, hs, hx⟩
  · cases hv
  · cases hv
    refine ⟨by rw [List.length_take]; omega, .inr ⟨g, c, cur, rfl, hb, hg, by omega, hml, hs, ?_⟩⟩
    rw [← hx, List.take_take]
    congr 1
    omega
theorem TrX.order {w : World} {b : Nat} {T T' : Trl} (h : TrX w b T) (h' : TrX w b T') : T.order = T'.order := by
  obtain ⟨O, _, gv, cv, ov, sv, h⟩ := h
  obtain ⟨O', _, gv', cv', ov', sv', h'⟩ := h'
  have hb := h.block.symm.trans h'.block
  simp only [Option.some.injEq, Obj.cells.injEq, Array.mk.injEq, List.cons.injEq] at hb
  obtain ⟨⟨_, ho, _⟩, _⟩ := hb
  subst ho
  have h1 := h.order
  have h2 := h'.order
  obtain ⟨A, c, e1, _⟩ := mx_slice h1
  obtain ⟨A', c', e2, _⟩ := mx_slice h2
  rw [e1] at e2
  simp only [Value.slice.injEq] at e2
  rw [e2.2.1] at h1
  have e3 := own_uniq h1 h2
  exact (List.map_inj_right (fun x y h => by cases h; rfl)).1 e3
theorem Trl.Ok.back {T : Trl} (h : T.Ok) {k : Nat} (e : Nat) (hk : k < T.starts.length) : (T.back k e).Ok := by
  refine ⟨?_, ?_, ⟨?_, ?_⟩, fun s hs => (clr_mem hs).elim (h.each s) (fun e => .inl (by rw [e]))⟩
  · show 1 ≤ (clr T.vars (T.order.drop e)).length ∧ (clr T.vars (T.order.drop e)).length ≤ 1048577
    rw [clr_len]
    exact h.vars
  · show (T.order.take e).length ≤ _
    have := h.order
    rw [List.length_take]
    omega
  · show 1 ≤ (T.starts.take (k + 1)).length
    rw [List.length_take]
    omega
  · show (T.starts.take (k + 1)).length ≤ _
    have := h.starts
    rw [List.length_take]
    omega
theorem tr_backed {O O' : Nat → Prop} {w W wH : World} {b k e D gv cv gs cs : Nat} {T : Trl} {ov vo : Value} (hok : T.Ok) (hk : k + 1 < T.starts.length) (hel : e ≤ T.order.length) (hm : TrMem O' W b (T.clear (T.order.drop e)) gv cv ov (.slice (some ⟨gs, 0, none⟩) T.starts.length cs)) (hO : ∀ g, O' g → O g) (hOw : ∀ g, O g → g < w.heap.size)
    (hwW : Kept O w W) (hkH : Kept (fun g => g = b) W wH) (hbH : wH.heap[b]? = some (.cells #[.slice (some ⟨gv, 0, none⟩) T.vars.length cv, vo, .slice (some ⟨gs, 0, none⟩) (k + 1) cs, .bool true] 153 (0, 0)))
    (hvo : wH.ownsRow 0 32 1 vo e ((T.order.take e).map (Value.int .i64))) (hvb : ∀ g, vo.ownBlock = some g → O' g) (hD : w.heap.size ≤ D) (hDf : wH.heap[D]? = some (.deferred (some []))) :
    TrNext O w (wH.putObj D (.deferred none)) b (T.back k e) := by
  have hkD : Kept (fun g => g = D) wH (wH.putObj D (.deferred none)) := ⟨rfl, rfl, rfl, by simp [World.putObj], fun i _ hn => World.putObj_heap_other hn⟩
  have hlt := heap_lt hDf
  have hcell : ∀ {base size n : Nat} {t : TypeId} {v : Value} {xs : List Value}, wH.ownsRow base t size v n xs → (wH.putObj D (.deferred none)).ownsRow base t size v n xs := fun h => own_kept h hkD (fun g hg e => by
    obtain ⟨c, hc⟩ := own_type h g hg
    rw [e, hDf] at hc
    cases hc)
  have hvl : (clr T.vars (T.order.drop e)).length = T.vars.length := clr_len _ _
  have hte : (T.order.take e).length = e := by rw [List.length_take]; omega
  have htk : (T.starts.take (k + 1)).length = k + 1 := by rw [List.length_take]; omega
  have hbD : b ≠ D := fun e => by
    rw [e, hDf] at hbH
    cases hbH
  have hz1 := hwW.size
  have hz2 := hkH.size
  have hz3 := hkD.size
  refine ⟨⟨hok.back e (by omega), gv, cv, vo, .slice (some ⟨gs, 0, none⟩) (k + 1) cs, ⟨fun g hg => ?_, .inl (hO _ hm.inb), .inl (hO _ hm.invs), ?_, ?_, ?_, fun g hg => .inl (hO _ (hvb g hg)), ?_, fun g hg => .inl (hO _ (hm.startsb g hg))⟩⟩, ?_⟩
  · rcases hg with hg | hg
    · have := hOw g hg
      omega
    · exact hg.2
  · show _ = some (Obj.cells #[.slice (some ⟨gv, 0, none⟩) (clr T.vars (T.order.drop e)).length cv, vo, _, _] _ _)
    rw [hvl]
    exact (hkD.block b (heap_lt hbH) hbD).trans hbH
  · exact hcell (own_kept hm.vars hkH (fun g hg e => by
      rw [e] at hg
      exact mx_not hm.vars hm.block (by decide) hg))
  · show World.ownsRow _ 0 _ 1 vo (T.order.take e).length _
    rw [hte]
    exact hcell hvo
  · show World.ownsRow _ 0 _ 1 _ (T.starts.take (k + 1)).length _
    rw [htk]
    show World.ownsRow _ 0 _ 1 _ _ ((T.starts.take (k + 1)).map _)
    rw [List.map_take]
    exact hcell (own_take (own_kept hm.starts hkH (fun g hg e => by
      rw [e] at hg
      exact mx_not hm.starts hm.block (by decide) hg)) (by omega))
  · exact (hwW.trans hkH (fun i _ e => by rw [e]; exact hO _ hm.inb)).trans hkD (fun i hi e => by omega)
set_option maxRecDepth 100000 in
set_option maxHeartbeats 8000000 in
theorem tr_back {O : Nat → Prop} (b k e : Nat) (T : Trl) (w : World) (h : TrAt O w b T) (hk : k + 1 < T.starts.length) (he : T.starts[k + 1]? = some (e : Int)) (hel : e ≤ T.order.length) (hfit : ∀ l ∈ T.order, litV l < T.vars.length) :
    Calls Tryz.prog 131 #[.pointer (some ⟨b, 0, none⟩), .int .i64 (k : Int)] w fun r w' => r = .returned (.int .i64 0) ∧ TrNext O w w' b (T.back k e) := by
  obtain ⟨WA, hWA⟩ : ∃ x, w.alloc (.cells #[.pointer (some ⟨b, 0, none⟩)] 38) = x := ⟨_, rfl⟩
  have hbA : Below w.heap.size w WA := by rw [← hWA]; exact mx_al _ _
  have hcA : WA.heap[w.heap.size]? = some (.cells #[.pointer (some ⟨b, 0, none⟩)] 38 (0, 0)) := by rw [← hWA]; exact World.alloc_heap_new _ _
  have hzA : WA.heap.size = w.heap.size + 1 := by rw [← hWA]; simp
  have c0 := mx_cell (j := 0) hcA
  have hTA := h.below hbA
  have HIS := Lib.hid (tr_is b T WA hTA)
  have HNOW := Lib.hid (tr_now b T WA hTA)
  have HTA := Lib.hid hTA
  have HT := Lib.hid h
  have HWA := Lib.hid hWA
  have HBA := Lib.hid hbA
  have HCA := Lib.hid hcA
  have HFIT := Lib.hid hfit
  obtain ⟨hok, gv, cv, ov, sv, hm⟩ := hTA
  have hlen := hok.starts
  have hlo := hok.order
  obtain ⟨gs, cs, cur, hsv, _, _, hgs, _⟩ := mx_some hm.starts (by omega)
  obtain ⟨cs', rfl⟩ : ∃ cs, sv = .slice (some ⟨gs, 0, none⟩) T.starts.length cs := ⟨_, hsv⟩
  have c2 : WA.cell? ⟨b, 2, none⟩ = some (.slice (some ⟨gs, 0, none⟩) T.starts.length cs') := mx_cell (j := 2) hm.block
  have c3 : WA.cell? ⟨gs, k + 1, none⟩ = some (.int .i64 (e : Int)) := mx_at hm.starts (by rw [List.getElem?_map, he]; rfl)
  have q0 : decide ((k : Int) < 0) = false := by simp
  have q1 : decide ((T.starts.length : Int) ≤ (k : Int)) = false := by simp; omega
  have q2 : ((k : Int) == (T.starts.length : Int) - 1) = false := by simp; omega
  have v1 : IntKind.i64.wrap ((k : Int) + 1) = ((k + 1 : Nat) : Int) := (IntWalk.i64_in _ (by omega)).trans (by omega)
  have v2 : ((k + 1 : Nat) : Int) < (T.starts.length : Int) := by omega
  have v3 : (k + 1 < T.starts.length) = True := by simp; omega
  clear h hbA hcA hWA hfit hsv hm hok he hgs
  refine (callsIn_wide (n := 9)).1 ?_
  refine callsIn_of_wp_marks Tryz.func131 rfl trivial ?_ rfl
  simp only [Tryz.ntmps131, List.size_toArray, List.length_cons, List.length_nil, Nat.reduceAdd, Nat.reduceSub, Array.replicate_succ, Array.replicate_zero, List.push_toArray, List.append_toArray, List.nil_append, List.cons_append]
  gi_wp2_with fail
  rw [HWA.out]
  refine ⟨trivial, (callsIn_wide.2 HIS.out).mono ?_⟩
  rintro e' w' ⟨rfl, rfl⟩
  gi_wp2_with fail
  refine ⟨trivial, (callsIn_wide.2 HNOW.out).mono ?_⟩
  rintro e' w' ⟨rfl, rfl⟩
  gi_wp2_with (refine ⟨trivial, ?_⟩; gi_at_call 174; refine (lits_in b (e : Int) _).mono ?_; rintro e' w' ⟨rfl, rfl⟩)
  obtain ⟨WR, hWR⟩ : ∃ x, (WA.alloc (.cells #[.pointer (some ⟨b, 0, none⟩)] 38)).alloc (.cells #[.int .i64 (e : Int)] 3) = x := ⟨_, rfl⟩
  have hbR : Below WA.heap.size WA WR := by rw [← hWR]; exact ((mx_al _ _).alloc (by simp) _)
  have hzR : WR.heap.size = w.heap.size + 3 := by rw [← hWR]; simp; omega
  have hcF : WR.heap[w.heap.size + 1 + 1]? = some (.cells #[.int .i64 (e : Int)] 3 (0, 0)) := by
    rw [← hWR]
    have := World.alloc_heap_new (WA.alloc (.cells #[.pointer (some ⟨b, 0, none⟩)] 38)) (.cells #[.int .i64 (e : Int)] 3)
    rwa [World.size_alloc, hzA] at this
  have hcB : WR.heap[w.heap.size + 1]? = some (.cells #[.pointer (some ⟨b, 0, none⟩)] 38 (0, 0)) := by
    rw [← hWR, Below.heap_alloc _ _ _ (by simp; omega)]
    have := World.alloc_heap_new WA (.cells #[.pointer (some ⟨b, 0, none⟩)] 38)
    rwa [hzA] at this
  have hcT : WR.heap[w.heap.size]? = some (.cells #[.pointer (some ⟨b, 0, none⟩)] 38 (0, 0)) := (hbR.block _ (by omega)).trans HCA.out
  have hOw : ∀ g, O g → g < w.heap.size := by
    obtain ⟨_, gv, cv', ov, sv, hm⟩ := HT.out
    exact hm.own
  rw [hWR]
  have hTR := HTA.out.below hbR
  have HOW := Lib.hid hOw
  have HTR := Lib.hid hTR
  have HCT := Lib.hid hcT
  have HBR := Lib.hid (HBA.out.trans (hbR.mono (by omega)))
  have HST := Lib.hid (lits_stops (X := fun g => O g ∨ WR.heap.size ≤ g) (w.heap.size + 1 + 1) (w.heap.size + 1) b e T WR (mx_cell (j := 0) hcF) (mx_cell (j := 0) hcB) (fun h => by
    rcases h with h | h
    · have := hOw _ h
      omega
    · omega) ⟨O, hTR⟩ hel)
  clear hWR hbR hcF hcB hcT hOw hTR c0 c2 c3 q0 q1 q2
  refine wpIn_rangeFunc_ownG rfl (by omega) (gf := 191) (lb := #[.pointer (some ⟨w.heap.size + 1 + 1, 0, none⟩), .pointer (some ⟨w.heap.size + 1, 0, none⟩)]) rfl trivial (enters_of Tryz.func191 (by kernel_rfl) rfl)
    HST.out (fun h k => h.trans k) (fun W l o o' _ h hc hw => KpB.putObj W l o o' h hc hw) (Below.refl _ _) (fun _ => rfl)
    (fun pre W => (∃ O' : Nat → Prop, TrAt O' W b (T.clear (pre.map (fun x => x.1.2))) ∧ ∀ g, O' g → O g) ∧ Kept O WR W) (fun _ _ _ => False) ?own ?ownx ⟨⟨O, HTR.out, fun _ h => h⟩, Kept.refl _ _⟩
    ?frame ?assign ?body ?done ?stop
  case own =>
    rintro pre W W' row ⟨⟨O', hT, hO⟩, hK⟩ hg hr
    refine ⟨⟨_, hT.cells.kept (Kept.grown hg) (fun g h e => ?_), fun g h => hO g h.1⟩, hK.trans (Kept.grown hg) (fun i hi e => ?_)⟩
    · obtain ⟨_, c, t, f, hc⟩ := h
      obtain ⟨_, o, ho, hn⟩ := hr g e.symm
      rw [ho] at hc
      cases hc
      cases hn
    · have := (hr i e.symm).1
      omega
  case ownx => exact fun c pre W W' row h _ _ => h
  case assign =>
    intro l x W K hK
    dsimp only [dvS]
    gi_wp2
    exact hK
  case body =>
    rintro l pre x W ⟨⟨O', hT, hO⟩, hKW⟩ hlt
    have hx := HFIT.out _ x.2
    have HTX := Lib.hid (show TrX W b (T.clear (pre.map (fun x => x.1.2))) from ⟨O', hT⟩)
    obtain ⟨hok', gv', cv', ov', sv', hm⟩ := hT
    have hvl : (T.clear (pre.map (fun x => x.1.2))).vars.length = T.vars.length := clr_len _ _
    have HCE := Lib.hid (show (T.clear (pre.map (fun x => x.1.2))).vars.set (litV x.1.2) ⟨0, 0, 0, 0⟩ = (T.clear ((pre ++ [x]).map (fun x => x.1.2))).vars from by
      rw [List.map_append]
      exact (clr_snoc _ _ _).symm)
    have HOK := Lib.hid (show (T.clear ((pre ++ [x]).map (fun x => x.1.2))).Ok from HTR.out.1.clear _)
    obtain ⟨u, hu⟩ : ∃ u, x.1.2 = u := ⟨_, rfl⟩
    rw [hu] at hx HCE ⊢
    obtain ⟨s, hs⟩ := getElem_of (show litV u < (T.clear (pre.map (fun x => x.1.2))).vars.length by rw [hvl]; exact hx)
    obtain ⟨e0, e1, e2, e3⟩ := hm.var hs
    obtain ⟨n, hn⟩ : ∃ n, (T.clear (pre.map (fun x => x.1.2))).vars.length = n := ⟨_, rfl⟩
    have hxi : ((litV u : Nat) : Int) < (n : Int) := by omega
    have hxn : litV u < n := by omega
    have t0 : W.cell? ⟨w.heap.size, 0, none⟩ = some (.pointer (some ⟨b, 0, none⟩)) := (hKW.cell (p := ⟨w.heap.size, 0, none⟩) (by show w.heap.size < WR.heap.size; omega) (fun h => by have := HOW.out _ h; simp at this)).trans (mx_cell (j := 0) HCT.out)
    have t1 : W.cell? ⟨b, 0, none⟩ = some (.slice (some ⟨gv', 0, none⟩) n cv') := (mx_cell (j := 0) hm.block).trans (by rw [← hn]; rfl)
    have htl := World.block_lt_of_cell? W _ t0
    have hbl := heap_lt hm.block
    have hgl := (own_lt hm.vars gv' rfl).2
    obtain ⟨cur', hcur⟩ := own_type hm.vars gv' rfl
    have HM := Lib.hid hm
    have HO := Lib.hid hO
    have HKW := Lib.hid hKW
    have HN := Lib.hid hn
    have T0 := Lib.hid t0
    have T1 := Lib.hid t1
    have HV := Lib.hid (fun W => lit_var u W)
    clear hvl hm hO hKW hs hok' t0 t1 hn hu
    gi_wp2
    refine wpIn_round_sink (fun w' => Below W.heap.size W w') (by kernel_rfl) rfl (by kernel_rfl) (by kernel_rfl) (fun ⟨_, _, h⟩ => h) (mx_drew W) (fun hS => ?_)
    simp only [List.dropLast]
    obtain ⟨wD, hwD⟩ : ∃ y, W.drew = y := ⟨_, rfl⟩
    rw [hwD] at hS ⊢
    clear hwD
    refine takeF 0 42 (fun wq hSw => (hSw.cell (p := ⟨w.heap.size, 0, none⟩) htl).trans T0.out) ?_
    refine takeE 1 43 ?_
    refine takeE 2 44 ?_
    refine takeF 3 45 (fun wq hSw => (hSw.cell (p := ⟨b, 0, none⟩) hbl).trans T1.out) ?_
    refine takeE 4 46 ?_
    refine takeE 6 48 ?_
    refine ready1 5 (fun K hK => ?_)
    go_simp
    refine (HV.out wD).mono ?_
    rintro e' w' ⟨rfl, rfl⟩
    refine hK.out _ _ hS (fun _ => ?_)
    clear hK
    refine takeE 7 49 ?_
    refine wpAnyH_done (by kernel_rfl) ?_ _
    refine lastPost_normal ?_
    have e0 := (hS.cell (p := ⟨gv', litV u * 4, none⟩) hgl).trans e0
    have e1 := (hS.cell (p := ⟨gv', litV u * 4 + 1, none⟩) hgl).trans e1
    have e2 := (hS.cell (p := ⟨gv', litV u * 4 + 2, none⟩) hgl).trans e2
    have e3 := (hS.cell (p := ⟨gv', litV u * 4 + 3, none⟩) hgl).trans e3
    have hcur := (hS.block gv' hgl).trans hcur
    have f0 := mx_free (j := litV u * 4) hcur
    have f1 := mx_free (j := litV u * 4 + 1) hcur
    have f2 := mx_free (j := litV u * 4 + 2) hcur
    have f3 := mx_free (j := litV u * 4 + 3) hcur
    refine wpOp_step rfl (fun K hK => ?_)
    go_simp
    refine hK _ _ ?_
    have hmv := own_below HM.out.vars hS
    rw [HN.out] at hmv
    have hvr := vars_set hmv HN.out hxn ⟨0, 0, 0, 0⟩
    have hks : Kept (fun g => g = gv') wD ((((wD.setCell ⟨gv', litV u * 4, none⟩ (.int .i64 0)).setCell ⟨gv', litV u * 4 + 1, none⟩ (.int .i64 0)).setCell ⟨gv', litV u * 4 + 2, none⟩ (.int .i64 0)).setCell ⟨gv', litV u * 4 + 3, none⟩ (.int .i64 0)) := ((((Kept.refl (fun g => g = gv') wD).setCell _ _ rfl).setCell _ _ rfl).setCell _ _ rfl).setCell _ _ rfl
    obtain ⟨Ws, hWs⟩ : ∃ y, ((((wD.setCell ⟨gv', litV u * 4, none⟩ (.int .i64 0)).setCell ⟨gv', litV u * 4 + 1, none⟩ (.int .i64 0)).setCell ⟨gv', litV u * 4 + 2, none⟩ (.int .i64 0)).setCell ⟨gv', litV u * 4 + 3, none⟩ (.int .i64 0)) = y := ⟨_, rfl⟩
    have hvr' : Ws.ownsRow 0 150 4 (.slice (some ⟨gv', 0, none⟩) n cv') n (((T.clear (pre.map (fun x => x.1.2))).vars.set (litV u) ⟨0, 0, 0, 0⟩).flatMap TV.cells) := by rw [← hWs]; exact hvr
    rw [hWs] at hks ⊢
    have hkW : Kept (fun g => g = gv') W Ws := (Kept.of_below (O := fun g => g = gv') hS).trans hks (fun i _ h => h)
    have hnv : b ≠ gv' := fun e => mx_not HM.out.vars HM.out.block (by decide) (by rw [e]; rfl)
    have hn2 : (T.clear ((pre ++ [x]).map (fun x => x.1.2))).vars.length = n := by
      rw [← HN.out]
      exact (clr_len _ _).trans (clr_len _ _).symm
    have hOg : O gv' := HO.out _ HM.out.invs
    have hgw := HOW.out _ hOg
    have hT' : TrAt O' Ws b (T.clear ((pre ++ [x]).map (fun x => x.1.2))) := by
      rw [HCE.out] at hvr'
      refine ⟨HOK.out, gv', cv', ov', sv', ⟨fun g hg => Nat.lt_of_lt_of_le (HM.out.own g hg) hkW.size, HM.out.inb, HM.out.invs, ?_, ?_, own_kept HM.out.order hkW (fun g hg e => by
        rw [e] at hg
        exact mx_apart HM.out.order HM.out.vars (by decide) hg rfl), HM.out.orderb, own_kept HM.out.starts hkW (fun g hg e => by
        rw [e] at hg
        exact mx_apart HM.out.starts HM.out.vars (by decide) hg rfl), HM.out.startsb⟩⟩
      · rw [hn2]
        have h1 := (hkW.block b hbl hnv).trans HM.out.block
        rw [HN.out] at h1
        exact h1
      · rw [hn2]
        exact hvr'
    clear hK e0 e1 e2 e3 f0 f1 f2 f3 hcur
    try gi_wp2
    refine ⟨⟨hkW.size, fun i o hi ho _ => (hkW.block i (heap_lt ho) (fun e => by omega)).trans ho⟩, ⟨⟨hkW.os, hkW.tape, hkW.output, hkW.size, fun i o ho hX _ => (hkW.block i (heap_lt ho) (fun e => hX (.inl (by rw [e]; exact hOg)))).trans ho⟩, fun T0 h0 => ⟨_, ⟨O', hT'⟩, HTX.out.order h0⟩⟩, ⟨O', hT', HO.out⟩, HKW.out.trans hkW (fun i _ e => by rw [e]; exact hOg)⟩
  case done =>
    rintro D ys W hD rfl ⟨⟨O', hT, hO⟩, hKW⟩ hDf
    rw [upS_map T.order e _ (by omega)] at hT
    obtain ⟨hok', gv', cv', ov', sv', hm⟩ := hT
    have hvl : (T.clear (T.order.drop e)).vars.length = T.vars.length := clr_len _ _
    obtain ⟨gs', cs2, cur', hsv', hle2, _, hgs', _⟩ := mx_some hm.starts (by show 0 < T.starts.length; omega)
    have hle2 : T.starts.length ≤ cs2 := hle2
    subst hsv'
    obtain ⟨Ao, co, rfl, hco⟩ := mx_slice hm.order
    have t0 : W.cell? ⟨w.heap.size, 0, none⟩ = some (.pointer (some ⟨b, 0, none⟩)) := (hKW.cell (p := ⟨w.heap.size, 0, none⟩) (by show w.heap.size < WR.heap.size; omega) (fun h => by have := HOW.out _ h; simp at this)).trans (mx_cell (j := 0) HCT.out)
    have t1 : W.cell? ⟨b, 1, none⟩ = some (.slice Ao T.order.length co) := mx_cell (j := 1) hm.block
    have t2 : W.cell? ⟨b, 2, none⟩ = some (.slice (some ⟨gs', 0, none⟩) T.starts.length cs2) := mx_cell (j := 2) hm.block
    have hbl := heap_lt hm.block
    have htl := World.block_lt_of_cell? W _ t0
    have HM := Lib.hid hm
    have HO := Lib.hid hO
    have HKW := Lib.hid hKW
    have HD := Lib.hid hDf
    clear hm hO hKW hDf hok' hgs'
    have hcap : k + 1 ≤ cs2 := by omega
    have T0 := Lib.hid t0
    have T1 := Lib.hid t1
    have T2 := Lib.hid t2
    clear t0 t1 t2
    gi_wp2
    refine wpIn_wide.2 (wp_region_noPanic ?_)
    rcases Ao with _ | ⟨go, oo, so⟩
    · have h0 : T.order.length = 0 ∧ co = 0 := by
        obtain ⟨_, h1⟩ := HM.out.order
        rcases h1 with ⟨h1, _⟩ | ⟨g', cap, cur, h1, _⟩
        · simp only [Value.slice.injEq] at h1
          exact ⟨h1.2.1, h1.2.2⟩
        · cases h1
      obtain ⟨h0, rfl⟩ := h0
      obtain rfl : e = 0 := by omega
      rw [h0] at T1
      refine wp_region_sink_at (fun w' => w'.cell? ⟨w.heap.size, 0, none⟩ = some (.pointer (some ⟨b, 0, none⟩)) ∧ w'.cell? ⟨b, 2, none⟩ = some (.slice (some ⟨gs', 0, none⟩) T.starts.length cs2)) (by kernel_rfl) rfl (by kernel_rfl) ⟨T0.out, T2.out⟩ (fun hS => ?_)
      simp only [List.dropLast]
      have hbD := mx_drew W
      obtain ⟨wD, hwD⟩ : ∃ y, W.drew = y := ⟨_, rfl⟩
      rw [hwD] at hS hbD ⊢
      clear hwD
      have t1 := (hbD.cell (p := ⟨b, 1, none⟩) hbl).trans T1.out
      refine takeF 0 50 (fun wq hSw => hSw.1) ?_
      refine takeF 1 51 (fun wq hSw => hSw.1) ?_
      refine takeF 2 52 (fun wq hSw => hSw.1) ?_
      refine takeE 3 53 ?_
      refine takeE 4 54 ?_
      refine takeE 6 56 ?_
      refine takeF 8 58 (fun wq hSw => hSw.1) ?_
      refine takeE 9 59 ?_
      refine takeE 10 60 ?_
      refine takeF 11 61 (fun wq hSw => hSw.2) ?_
      refine takeE 12 62 ?_
      refine takeE 13 63 ?_
      refine takeD 14 64 (v := ?_) rfl (by rfl) (by kernel_rfl) (by kernel_rfl) (by kernel_rfl) (fun _ _ _ h => h) (Or.inl ⟨by rfl, ?_⟩) (by assumption) ?_
      rotate_left
      · intro wq hSw
        clear hSw
        go_simp
        rw [if_pos (by omega)]
      simp only [Act.put, List.setIfInBounds_toArray, List.set_cons_zero, List.set_cons_succ]
      refine ready1 5 (fun K hK => ?_)
      go_simp
      refine hK.out _ _ hS (fun _ => ?_)
      clear hK
      refine takeE 7 57 ?_
      refine takeE 15 65 ?_
      refine takeE 16 66 ?_
      have hbk := (hbD.block b hbl).trans HM.out.block
      have fp1 := mx_free (j := 1) hbk
      have hkD := Kept.of_below (O := fun g => g = b) hbD
      have hbO : b < w.heap.size := HOW.out _ (HO.out _ HM.out.inb)
      have HBK := Lib.hid hbk
      have HKD := Lib.hid hkD
      clear hbk hkD
      refine ready1 17 (fun K hK => ?_)
      go_simp
      have hkG : Kept (fun g => g = b) wD (wD.setCell ⟨b, 1, none⟩ (.slice none 0 0)) := (Kept.refl _ _).setCell _ _ rfl
      have hbG := mx_set (j := 1) HBK.out (.slice none 0 0)
      obtain ⟨wG, hwG⟩ : ∃ y, wD.setCell ⟨b, 1, none⟩ (.slice none 0 0) = y := ⟨_, rfl⟩
      rw [hwG] at hkG hbG ⊢
      have hSG : wG.cell? ⟨w.heap.size, 0, none⟩ = some (.pointer (some ⟨b, 0, none⟩)) ∧ wG.cell? ⟨b, 2, none⟩ = some (.slice (some ⟨gs', 0, none⟩) T.starts.length cs2) := ⟨(hkG.cell (p := ⟨w.heap.size, 0, none⟩) (by have := hbD.size; show w.heap.size < wD.heap.size; exact Nat.lt_of_lt_of_le htl this) (fun h => by simp at h; omega)).trans hS.1, mx_cell (j := 2) hbG⟩
      refine hK.out _ _ hSG (fun _ => ?_)
      clear hK hS t1 fp1
      have HKG := Lib.hid (HKD.out.trans hkG (fun i _ h => h))
      have HBG := Lib.hid hbG
      clear hkG hbG hwG
      refine takeE 18 67 ?_
      refine takeE 19 68 ?_
      refine wpAnyH_done (by kernel_rfl) ?_ _
      refine lastPost_normal ?_
      have p2 := mx_cell (j := 2) HBG.out
      have fp2 := mx_free (j := 2) HBG.out
      refine wpOp_step rfl (fun K hK => ?_)
      go_simp
      refine hK _ _ ?_
      clear hK p2 fp2
      refine NoPanic.normal ?_
      have hkH : Kept (fun g => g = b) wG (wG.setCell ⟨b, 2, none⟩ (.slice (some ⟨gs', 0, none⟩) (k + 1) cs2)) := (Kept.refl _ _).setCell _ _ rfl
      have hbH := mx_set (j := 2) HBG.out (.slice (some ⟨gs', 0, none⟩) (k + 1) cs2)
      obtain ⟨wH, hwH⟩ : ∃ y, wG.setCell ⟨b, 2, none⟩ (.slice (some ⟨gs', 0, none⟩) (k + 1) cs2) = y := ⟨_, rfl⟩
      rw [hwH] at hkH hbH ⊢
      have HKH := Lib.hid (HKG.out.trans hkH (fun i _ h => h))
      have HBH := Lib.hid hbH
      clear hkH hbH hwH hSG
      have hdf := (HKH.out.block D (heap_lt HD.out) (fun h => by omega)).trans HD.out
      have hvo := (World.ownsRow_nil _ _ _ _ : wH.ownsRow 0 32 1 (.slice none 0 0) 0 ((T.order.take 0).map (Value.int .i64)))
      have hbf : wH.heap[b]? = some (.cells #[.slice (some ⟨gv', 0, none⟩) T.vars.length cv', .slice none 0 0, .slice (some ⟨gs', 0, none⟩) (k + 1) cs2, .bool true] 153 (0, 0)) := by rw [← hvl]; exact HBH.out
      gi_wp2
      refine ⟨by simp, .inl ⟨_, _, rfl, run_takeDeferred hdf, ?_⟩⟩
      refine ⟨.int .i64 0, by simp [results, Tryz.results131, go_sem], rfl, ?_⟩
      exact tr_backed HTR.out.1 hk hel HM.out HO.out HOW.out ((Kept.of_below HBR.out).trans HKW.out (fun _ _ h => h)) HKH.out hbf hvo (fun g hg => by cases hg) (by omega) hdf

    · obtain ⟨rfl, rfl⟩ : oo = 0 ∧ so = none := by
        obtain ⟨_, h1⟩ := HM.out.order
        rcases h1 with ⟨h1, _⟩ | ⟨g', cap, cur, h1, _⟩
        · cases h1
        · simp only [Value.slice.injEq, Option.some.injEq, Addr.mk.injEq] at h1
          exact ⟨h1.1.2.1, h1.1.2.2⟩
      have hcoe : e ≤ co := by have : T.order.length ≤ co := hco; omega
      refine wp_region_sink_at (fun w' => w'.cell? ⟨w.heap.size, 0, none⟩ = some (.pointer (some ⟨b, 0, none⟩)) ∧ w'.cell? ⟨b, 2, none⟩ = some (.slice (some ⟨gs', 0, none⟩) T.starts.length cs2)) (by kernel_rfl) rfl (by kernel_rfl) ⟨T0.out, T2.out⟩ (fun hS => ?_)
      simp only [List.dropLast]
      have hbD := mx_drew W
      obtain ⟨wD, hwD⟩ : ∃ y, W.drew = y := ⟨_, rfl⟩
      rw [hwD] at hS hbD ⊢
      clear hwD
      have t1 := (hbD.cell (p := ⟨b, 1, none⟩) hbl).trans T1.out
      refine takeF 0 50 (fun wq hSw => hSw.1) ?_
      refine takeF 1 51 (fun wq hSw => hSw.1) ?_
      refine takeF 2 52 (fun wq hSw => hSw.1) ?_
      refine takeE 3 53 ?_
      refine takeE 4 54 ?_
      refine takeE 6 56 ?_
      refine takeF 8 58 (fun wq hSw => hSw.1) ?_
      refine takeE 9 59 ?_
      refine takeE 10 60 ?_
      refine takeF 11 61 (fun wq hSw => hSw.2) ?_
      refine takeE 12 62 ?_
      refine takeE 13 63 ?_
      refine takeD 14 64 (v := ?_) rfl (by rfl) (by kernel_rfl) (by kernel_rfl) (by kernel_rfl) (fun _ _ _ h => h) (Or.inl ⟨by rfl, ?_⟩) (by assumption) ?_
      rotate_left
      · intro wq hSw
        clear hSw
        go_simp
        rw [if_pos (by omega)]
      simp only [Act.put, List.setIfInBounds_toArray, List.set_cons_zero, List.set_cons_succ]
      refine ready1 5 (fun K hK => ?_)
      go_simp
      refine hK.out _ _ hS (fun _ => ?_)
      clear hK
      refine takeE 7 57 ?_
      refine takeE 15 65 ?_
      refine takeE 16 66 ?_
      have hbk := (hbD.block b hbl).trans HM.out.block
      have fp1 := mx_free (j := 1) hbk
      have hkD := Kept.of_below (O := fun g => g = b) hbD
      have hbO : b < w.heap.size := HOW.out _ (HO.out _ HM.out.inb)
      have HBK := Lib.hid hbk
      have HKD := Lib.hid hkD
      clear hbk hkD
      refine ready1 17 (fun K hK => ?_)
      go_simp
      have hkG : Kept (fun g => g = b) wD (wD.setCell ⟨b, 1, none⟩ (.slice (some ⟨go, 0, none⟩) e co)) := (Kept.refl _ _).setCell _ _ rfl
      have hbG := mx_set (j := 1) HBK.out (.slice (some ⟨go, 0, none⟩) e co)
      obtain ⟨wG, hwG⟩ : ∃ y, wD.setCell ⟨b, 1, none⟩ (.slice (some ⟨go, 0, none⟩) e co) = y := ⟨_, rfl⟩
      rw [hwG] at hkG hbG ⊢
      have hSG : wG.cell? ⟨w.heap.size, 0, none⟩ = some (.pointer (some ⟨b, 0, none⟩)) ∧ wG.cell? ⟨b, 2, none⟩ = some (.slice (some ⟨gs', 0, none⟩) T.starts.length cs2) := ⟨(hkG.cell (p := ⟨w.heap.size, 0, none⟩) (by have := hbD.size; show w.heap.size < wD.heap.size; exact Nat.lt_of_lt_of_le htl this) (fun h => by simp at h; omega)).trans hS.1, mx_cell (j := 2) hbG⟩
      refine hK.out _ _ hSG (fun _ => ?_)
      clear hK hS t1 fp1
      have HKG := Lib.hid (HKD.out.trans hkG (fun i _ h => h))
      have HBG := Lib.hid hbG
      clear hkG hbG hwG
      refine takeE 18 67 ?_
      refine takeE 19 68 ?_
      refine wpAnyH_done (by kernel_rfl) ?_ _
      refine lastPost_normal ?_
      have p2 := mx_cell (j := 2) HBG.out
      have fp2 := mx_free (j := 2) HBG.out
      refine wpOp_step rfl (fun K hK => ?_)
      go_simp
      refine hK _ _ ?_
      clear hK p2 fp2
      refine NoPanic.normal ?_
      have hkH : Kept (fun g => g = b) wG (wG.setCell ⟨b, 2, none⟩ (.slice (some ⟨gs', 0, none⟩) (k + 1) cs2)) := (Kept.refl _ _).setCell _ _ rfl
      have hbH := mx_set (j := 2) HBG.out (.slice (some ⟨gs', 0, none⟩) (k + 1) cs2)
      obtain ⟨wH, hwH⟩ : ∃ y, wG.setCell ⟨b, 2, none⟩ (.slice (some ⟨gs', 0, none⟩) (k + 1) cs2) = y := ⟨_, rfl⟩
      rw [hwH] at hkH hbH ⊢
      have HKH := Lib.hid (HKG.out.trans hkH (fun i _ h => h))
      have HBH := Lib.hid hbH
      clear hkH hbH hwH hSG
      have hdf := (HKH.out.block D (heap_lt HD.out) (fun h => by omega)).trans HD.out
      have hvo := (List.map_take ▸ own_take (own_kept HM.out.order HKH.out (fun g hg e => by rw [e] at hg; exact mx_not HM.out.order HM.out.block (by decide) hg)) hel : wH.ownsRow 0 32 1 (.slice (some ⟨go, 0, none⟩) e co) e ((T.order.take e).map (Value.int .i64)))
      have hbf : wH.heap[b]? = some (.cells #[.slice (some ⟨gv', 0, none⟩) T.vars.length cv', .slice (some ⟨go, 0, none⟩) e co, .slice (some ⟨gs', 0, none⟩) (k + 1) cs2, .bool true] 153 (0, 0)) := by rw [← hvl]; exact HBH.out
      gi_wp2
      refine ⟨by simp, .inl ⟨_, _, rfl, run_takeDeferred hdf, ?_⟩⟩
      refine ⟨.int .i64 0, by simp [results, Tryz.results131, go_sem], rfl, ?_⟩
      exact tr_backed HTR.out.1 hk hel HM.out HO.out HOW.out ((Kept.of_below HBR.out).trans HKW.out (fun _ _ h => h)) HKH.out hbf hvo (fun g hg => HM.out.orderb g hg) (by omega) hdf
  case stop =>
    rintro D c pre W hD _ h _
    exact h.elim
end Go.Proofs.YtoojmhjagipmdaaGreat
namespace Go.Proofs.YtoojmhjagipmdaaGreat
open Go.RowKit Go.Shelf

/-- the blocks that a round has laid, beside those of earlier rounds -/
def addB (B : Nat → Prop) (W W' : World) (g : Nat) : Prop := B g ∨ W.heap.size ≤ g ∧ g < W'.heap.size
/-- what depends on blocks before N and on those of B alone -/
def OwnB {α : Type} (N : Nat) (J : List α → (Nat → Prop) → World → Prop) : Prop :=
  ∀ pre B W W' row, J pre B W → W.grownBy W' row → (∀ r, row = some r → N ≤ r ∧ ¬ B r) → J pre B W'
/-- an iterator's contract -/
def SeqB {α : Type} (P : Program) (g : Nat) (lb : Array Value) (encs : α → Array Value) (X0 : Nat → Prop) (S Sp : List α → Prop) (w : World) : Prop :=
  ∀ (l : Nat) (J Jx : List α → (Nat → Prop) → World → Prop) (W : World), Below w.heap.size w W → OwnB W.heap.size J → OwnB W.heap.size Jx →
    (∀ pre B x W1, J pre B W1 → W.heap.size ≤ W1.heap.size → (∀ g, B g → W.heap.size ≤ g ∧ g < W1.heap.size) → YieldAt Fence.wide 7 P l (encs x) W1 fun e W' =>
      ((e = .returned (.bool true) ∧ J (pre ++ [x]) (addB B W1 W') W') ∨ (e = .returned (.bool false) ∧ Jx (pre ++ [x]) (addB B W1 W') W')) ∧ KpC (fun g => X0 g ∨ B g) W1 W') →
    J [] (fun _ => False) W →
    CallsIn Fence.wide 9 P g (#[.func (.yield l) #[] #[]] ++ lb) W fun e W' => (∃ v, e = .returned v) ∧ ((∃ xs B, S xs ∧ J xs B W') ∨ (∃ pre B, Sp pre ∧ Jx pre B W'))
/-- how a round's body may be left: on, or by an exit -/
def bPost {α : Type} (k : Nat) (X0 : Nat → Prop) (I Ix : List α → (Nat → Prop) → World → Prop) (pre : List α) (B : Nat → Prop) (x : α) (W W' : World) : Exit → Act → World → Prop
  | .normal, _, W3 => KeepsRec W' W3 ∧ KpC (fun g => X0 g ∨ B g) W' W3 ∧ I (pre ++ [x]) (addB B W W3) W3
  | .exit n, _, W3 => n = k ∧ KeepsRec W' W3 ∧ KpC (fun g => X0 g ∨ B g) W' W3 ∧ Ix (pre ++ [x]) (addB B W W3) W3
  | .ret, _, _ => False
  | .goto _, _, _ => False
  | .panic _, _, _ => False
  | .outgrown, _, _ => False
theorem OwnB.putObj {α : Type} {N : Nat} {J : List α → (Nat → Prop) → World → Prop} (h : OwnB N J) {pre : List α} {B : Nat → Prop} {W : World} {l : Nat} (o' : Obj) (hs : J pre B W) (hl : N ≤ l) (hB : ¬ B l) : J pre B (W.putObj l o') :=
  h pre B W _ (some l) hs (grownBy_putObj' W l o') (fun r e => by cases e; exact ⟨hl, hB⟩)
theorem OwnB.alloc {α : Type} {N : Nat} {J : List α → (Nat → Prop) → World → Prop} (h : OwnB N J) {pre : List α} {B : Nat → Prop} {W : World} (o : Obj) (hs : J pre B W) : J pre B (W.alloc o) :=
  h pre B W _ none hs (World.grownBy_alloc W o none) (fun r e => by cases e)
theorem addB_putObj {B : Nat → Prop} {W W3 : World} (l : Nat) (o : Obj) : addB B W (W3.putObj l o) = addB B W W3 := by
  funext g
  unfold addB
  rw [show (W3.putObj l o).heap.size = W3.heap.size by simp]
set_option maxHeartbeats 1000000 in
theorem wpIn_range_B {α : Type} {P : Program} {g : Operand} {ps : Array Tmp} {assign body : Code} {Q : Exit → Act → World → Prop} {a : Act} {w : World} {gf : Nat} {lb : Array Value}
    (hg : a.eval g = .func (.func gf) #[] lb) (eg : ∀ args w, (callFunc gf args).run P w = .ok (.enter gf args) w)
    {encs : α → Array Value} {X0 : Nat → Prop} {S Sp : List α → Prop} {w0 : World} (k : Nat) (hseq : SeqB P gf lb encs X0 S Sp w0) (hb0 : Below w0.heap.size w0 w) (hps : ∀ x, (encs x).size = ps.size)
    (I Ix : List α → (Nat → Prop) → World → Prop) (hI : OwnB w.heap.size I) (hIx : OwnB w.heap.size Ix) (h0 : I [] (fun _ => False) w)
    (Fr : α → Act)
    (hassign : ∀ (l : Nat) (x : α) (W : World) (K : Act → World → Prop), K (Fr x) W →
      assign.wpIn (Fence.wide.inRound l) 7 P (Exit.then K (fun _ _ _ => False)) { tmps := (ps.zip (encs x)).foldl (fun t (p, v) => t.setIfInBounds p v) a.tmps, defers := [] } W)
    (hbody : ∀ (l : Nat) (pre : List α) (B : Nat → Prop) (x : α) (W W' : World), I pre B W → (∀ g, B g → w.heap.size ≤ g ∧ g < W.heap.size) → w.heap.size ≤ W.heap.size → (∀ j, j < w.heap.size → W.heap[j]? = W'.heap[j]?) → (∀ j, B j → W.heap[j]? = W'.heap[j]?) → W'.heap.size = W.heap.size → I pre B W' → body.wpIn (Fence.wide.inRound l) 7 P (bPost k X0 I Ix pre B x W W') (Fr x) W')
    (hdone : ∀ (D : Nat) (xs : List α) (B : Nat → Prop) (W : World), w.heap.size ≤ D → S xs → I xs B W → W.heap[D]? = some (.deferred (some [])) → Q .normal { a with defers := { target := .collected D, args := #[] } :: a.defers } W)
    (hstop : ∀ (D : Nat) (pre : List α) (B : Nat → Prop) (W : World), w.heap.size ≤ D → Sp pre → Ix pre B W → W.heap[D]? = some (.deferred (some [])) → (Code.exit k).wpIn Fence.wide 10 P Q { a with defers := { target := .collected D, args := #[] } :: a.defers } W) :
    (Code.rangeFunc g ps assign body).wpIn Fence.wide 10 P Q a w := by
  refine wpIn_rangeFunc (fun fn hfn => ?_)
  obtain ⟨rec, hrec⟩ : ∃ rec : LoopState → Option Code → Loop, rec = fun st pe => { state := st, pending := pe, fn, tmps := a.tmps, params := ps, assign, body, defers := w.heap.size } := ⟨_, rfl⟩
  obtain ⟨W1, hW1⟩ : ∃ W1, (w.alloc (.deferred (some []))).alloc (.loop (rec .ready none)) = W1 := ⟨_, rfl⟩
  have hz1 : W1.heap.size = w.heap.size + 2 := by rw [← hW1]; simp
  have hL1 : W1.heap[w.heap.size + 1]? = some (.loop (rec .ready none)) := by
    have := World.alloc_heap_new (w.alloc (.deferred (some []))) (.loop (rec .ready none))
    rwa [hW1, World.size_alloc] at this
  have hD1 : W1.heap[w.heap.size]? = some (.deferred (some [])) := by
    rw [← hW1, Below.heap_alloc _ _ _ (by simp)]
    exact World.alloc_heap_new w _
  have hb1 : Below w.heap.size w W1 := by rw [← hW1]; exact (mx_al w _).alloc (by simp) _
  have hI1 : I [] (fun _ => False) W1 := by rw [← hW1]; exact hI.alloc _ (hI.alloc _ h0)
  have turn : ∀ (W3 : World) (r r' : Loop), W3.heap[w.heap.size + 1]? = some (.loop r) → W3.heap[w.heap.size]? = some (.deferred (some [])) → (W3.putObj (w.heap.size + 1) (.loop r')).heap[w.heap.size + 1]? = some (.loop r') ∧ (W3.putObj (w.heap.size + 1) (.loop r')).heap[w.heap.size]? = some (.deferred (some [])) := fun W3 r r' h1 h2 =>
    ⟨World.putObj_heap_same (heap_lt h1), (World.putObj_heap_other (by omega)).trans h2⟩
  have own : ∀ {I : List α → (Nat → Prop) → World → Prop}, OwnB w.heap.size I → ∀ st pe, OwnB W1.heap.size (fun pre B W => I pre B W ∧ W.heap[w.heap.size + 1]? = some (.loop (rec st pe)) ∧ W.heap[w.heap.size]? = some (.deferred (some [])) ∧ ∀ j, B j → W1.heap.size ≤ j) := fun {I} hI st pe pre B W W' row h hg hr => by
    obtain ⟨h1, h2, h3, h4⟩ := h
    refine ⟨hI pre B W W' row h1 hg (fun r e => ⟨by have := (hr r e).1; omega, (hr r e).2⟩), (hg.block _ (heap_lt h2) (fun e => ?_)).trans h2, (hg.block _ (heap_lt h3) (fun e => ?_)).trans h3, h4⟩
    · have := (hr _ e.symm).1
      omega
    · have := (hr _ e.symm).1
      omega
  refine ⟨w.heap.size + 1, [{ target := .collected w.heap.size, args := #[] }], W1, { target := .fn (.func gf) lb, args := #[.func (.yield (w.heap.size + 1)) #[] #[]] }, W1, gf, #[.func (.yield (w.heap.size + 1)) #[] #[]] ++ lb, W1, ?_, ?_, fun _ _ => trivial, ?_, fun h => (by cases h), ?_⟩
  · rw [← hW1, hrec]
    exact run_enterLoop_outer _ _ _ _ _
  · simp only [resolve, hg]
    simp [go_sem]
  · simp [invoke, go_sem, eg]
  refine (hseq (w.heap.size + 1) _ _ W1 (hb0.trans (hb1.mono hb0.size)) (own hI .ready none) (own hIx .done (some (.exit k))) ?_ ⟨hI1, hL1, hD1, fun j h => h.elim⟩).mono ?_
  · rintro pre B x W ⟨hi, hl, hd, hB⟩ hbW hBl
    have hy := run_yield (P := P) (args := encs x) hl (by rw [hrec]; exact hps x)
    rw [hrec] at hy
    refine ⟨fn, _, assign, body, hy, roundIn_of_wpIn hfn (hassign _ x W _ ?_)⟩
    refine ⟨_, run_beginRound hl (by rw [hrec]), ?_⟩
    obtain ⟨hl2, hd2⟩ := turn W _ { rec .ready none with state := .busy } hl hd
    have hnB : ¬ B (w.heap.size + 1) := fun h => by have := hB _ h; omega
    have hk2 := KpC.putObj W (w.heap.size + 1) _ (.loop { rec .ready none with state := .busy }) hl rfl rfl
    refine wpIn_mono (hbody _ pre B x W _ hi (fun j h => ⟨by have := hB j h; omega, (hBl j h).2⟩) (by omega) (fun j hj => (World.putObj_heap_other (by omega)).symm) (fun j hj => (World.putObj_heap_other (by intro e; exact hnB (by first | exact e ▸ hj | exact e.symm ▸ hj))).symm) (by simp) (hI.putObj _ hi (by omega) hnB)) ?_
    rintro e a3 W3 hq
    have hBW : ∀ (W3 : World), (W.putObj (w.heap.size + 1) (.loop { rec .ready none with state := .busy })).heap.size ≤ W3.heap.size → ¬ addB B W W3 (w.heap.size + 1) ∧ ∀ j, addB B W W3 j → W1.heap.size ≤ j := fun W3 _ => ⟨fun h => h.elim hnB (fun h => by have := heap_lt hl; omega), fun j h => h.elim (hB j) (fun h => by omega)⟩
    cases e with
    | normal =>
      obtain ⟨hk3, hkp, hi3⟩ := hq
      have hl3 := hk3 _ _ hl2 rfl rfl
      have hd3 := hk3 _ _ hd2 rfl rfl
      have he := run_endRound (P := P) none hl3
      obtain ⟨hl4, hd4⟩ := turn W3 _ (rec .ready none) hl3 hd3
      have hk4 := KpC.putObj W3 (w.heap.size + 1) _ (.loop (rec .ready none)) hl3 rfl rfl
      obtain ⟨hn3, hb3⟩ := hBW W3 hkp.size
      refine ⟨_, _, he, ?_⟩
      rw [hrec] at hl3 hl4 hd4 hk4 hk2 hkp ⊢
      refine ⟨.inl ⟨rfl, ?_, hl4, hd4, fun j h => hb3 j (by rwa [addB_putObj] at h)⟩, ((hk2.mono (fun j _ h => h.elim)).trans hkp).trans (hk4.mono (fun j _ h => h.elim))⟩
      rw [addB_putObj]
      exact hI.putObj _ hi3 (by omega) hn3
    | exit n =>
      obtain ⟨rfl, hk3, hkp, hi3⟩ := hq
      have hl3 := hk3 _ _ hl2 rfl rfl
      have hd3 := hk3 _ _ hd2 rfl rfl
      have he := run_endRound (P := P) (some (.exit n)) hl3
      obtain ⟨hl4, hd4⟩ := turn W3 _ (rec .done (some (.exit n))) hl3 hd3
      have hk4 := KpC.putObj W3 (w.heap.size + 1) _ (.loop (rec .done (some (.exit n)))) hl3 rfl rfl
      obtain ⟨hn3, hb3⟩ := hBW W3 hkp.size
      refine ⟨_, _, he, ?_⟩
      rw [hrec] at hl3 hl4 hd4 hk4 hk2 hkp ⊢
      refine ⟨.inr ⟨rfl, ?_, hl4, hd4, fun j h => hb3 j (by rwa [addB_putObj] at h)⟩, ((hk2.mono (fun j _ h => h.elim)).trans hkp).trans (hk4.mono (fun j _ h => h.elim))⟩
      rw [addB_putObj]
      exact hIx.putObj _ hi3 (by omega) hn3
    | ret => exact hq.elim
    | goto t => exact hq.elim
    | panic c => exact hq.elim
    | outgrown => exact hq.elim
  · rintro e W2 ⟨⟨v, rfl⟩, ⟨xs, B, hS, hi, hl, hd, hB⟩ | ⟨pre, B, hS, hi, hl, hd, hB⟩⟩
    · have he := run_endLoop (P := P) hl (by rw [hrec]; simp)
      obtain ⟨_, hd4⟩ := turn W2 _ { rec .ready none with state := .exhausted } hl hd
      refine ⟨none, _, ?_, hdone _ xs B _ (Nat.le_refl _) hS (hI.putObj _ hi (by omega) (fun h => by have := hB _ h; omega)) hd4⟩
      rw [hrec] at he ⊢
      exact he
    · have he := run_endLoop (P := P) hl (by rw [hrec]; simp)
      obtain ⟨_, hd4⟩ := turn W2 _ { rec .done (some (.exit k)) with state := .exhausted } hl hd
      refine ⟨some (.exit k), _, ?_, hstop _ pre B _ (Nat.le_refl _) hS (hIx.putObj _ hi (by omega) (fun h => by have := hB _ h; omega)) hd4⟩
      rw [hrec] at he ⊢
      exact he
/-- the same where a round's exit leads to what comes behind -/
theorem wpIn_range_BE {α : Type} {P : Program} {g : Operand} {ps : Array Tmp} {assign body : Code} {Q : Exit → Act → World → Prop} {a : Act} {w : World} {gf : Nat} {lb : Array Value}
    (hg : a.eval g = .func (.func gf) #[] lb) (eg : ∀ args w, (callFunc gf args).run P w = .ok (.enter gf args) w)
    {encs : α → Array Value} {X0 : Nat → Prop} {S Sp : List α → Prop} {w0 : World} (k : Nat) (hseq : SeqB P gf lb encs X0 S Sp w0) (hb0 : Below w0.heap.size w0 w) (hps : ∀ x, (encs x).size = ps.size)
    (I Ix : List α → (Nat → Prop) → World → Prop) (hI : OwnB w.heap.size I) (hIx : OwnB w.heap.size Ix) (h0 : I [] (fun _ => False) w)
    (Fr : α → Act)
    (hassign : ∀ (l : Nat) (x : α) (W : World) (K : Act → World → Prop), K (Fr x) W →
      assign.wpIn (Fence.wide.inRound l) 7 P (Exit.then K (fun _ _ _ => False)) { tmps := (ps.zip (encs x)).foldl (fun t (p, v) => t.setIfInBounds p v) a.tmps, defers := [] } W)
    (hbody : ∀ (l : Nat) (pre : List α) (B : Nat → Prop) (x : α) (W W' : World), I pre B W → (∀ g, B g → w.heap.size ≤ g ∧ g < W.heap.size) → w.heap.size ≤ W.heap.size → (∀ j, j < w.heap.size → W.heap[j]? = W'.heap[j]?) → (∀ j, B j → W.heap[j]? = W'.heap[j]?) → W'.heap.size = W.heap.size → I pre B W' → body.wpIn (Fence.wide.inRound l) 7 P (bPost k X0 I Ix pre B x W W') (Fr x) W')
    (Fin : List α → World → Prop) (hf1 : ∀ xs B W, S xs → I xs B W → Fin xs W) (hf2 : ∀ pre B W, Sp pre → Ix pre B W → Fin pre W)
    (hexit : ∀ a W, Q .normal a W → (Code.exit k).wpIn Fence.wide 10 P Q a W)
    (hend : ∀ (D : Nat) (xs : List α) (W : World), w.heap.size ≤ D → Fin xs W → W.heap[D]? = some (.deferred (some [])) → Q .normal { a with defers := { target := .collected D, args := #[] } :: a.defers } W) :
    (Code.rangeFunc g ps assign body).wpIn Fence.wide 10 P Q a w :=
  wpIn_range_B hg eg k hseq hb0 hps I Ix hI hIx h0 Fr hassign hbody (fun D xs B W h1 h2 h3 h4 => hend D xs W h1 (hf1 xs B W h2 h3) h4) (fun D pre B W h1 h2 h3 h4 => hexit _ _ (hend D pre W h1 (hf2 pre B W h2 h3) h4))
end Go.Proofs.YtoojmhjagipmdaaGreat
