/- The walk of Scan. -/
import Derived.Test.YtihigfpikiaaiaaDoorWf
import Derived.Sort.QuietIn
namespace Go.Proofs.YtihigfpikiaaiaaDoor
open Go.RowKit Go.Shelf
attribute [local go_sem] Oper.semAt_some

theorem wpListIn_append_own_at {F : Fence} {n : Nat} {P : Program} (w : World) {ops : Array Oper} {rest : List Oper} {o : Oper} {a : Act} {Q : Exit → Act → World → Prop}
    (hg : o.guard = none) (s x : Operand) (t : TypeId) (hop : o.op = Op.call { callee := Callee.builtin Builtin.append, args := #[s, x], argTypes := #[t, t] })
    (base : Nat) (e : TypeId) (i : TypeInfo) (z : Value) (size bytes : Nat) (h1 : P.underlying t = some (.slice e)) (h2 : P.info? e = some i) (h3 : i.zero = some z) (h4 : i.size = size) (h5 : i.bytes = bytes) (h6 : z.cells.size = size) (h7 : 0 < size)
    (v : Value) (k : Nat) (xs : List Value) (hs : a.eval s = v) (hown : w.ownsRow base e size v k xs) (ad : Addr) (m c : Nat) (news : List Value) (hx : a.eval x = .slice (some ad) m c) (hn : news.length = m * size)
    (hc : ∀ j u, news[j]? = some u → w.cell? (ad.add j) = some u) (h1c : ∀ u ∈ news, u.oneCell' = true) (b1 : k + m ≤ maxLen) (b2 : (k + m) * bytes ≤ 140737488355328) (b3 : base ≤ w.heap.size)
    (hK : ∀ v' w', w'.ownsRow base e size v' (k + m) (xs ++ news) → w.grownBy w' v.ownBlock → (v' = .slice none 0 0 ↔ v = .slice none 0 0 ∧ m = 0) → (v'.ownBlock = v.ownBlock ∨ v'.ownBlock = some w.heap.size) → wpListIn F n P ops Q rest (a.put o.dst v') w') :
    wpListIn F n P ops Q (o :: rest) a w := by
  refine wpListIn_plain hg fun K hK' => ?_
  obtain ⟨v', w', hrun, r1, r2, r3, r4⟩ := run_append_own_at (P := P) w base t o.type e i z size bytes h1 h2 h3 h4 h5 h6 h7 v k xs hown ad m c news hn hc h1c b1 b2 b3
  unfold Oper.wpIn
  refine ⟨?_, ?_⟩
  · simp [Oper.about, hop, resolve, Target.leads, Sem.run_pure]
  · rw [Oper.semAt_plain F _ _ (by rw [hop]; intro c hc'; cases hc')]
    simp [execOp, hop, resolve, invoke, builtin, hs, hx, hrun, Result.andThen]
    exact hK' _ _ (hK v' w' r1 r2 r3 r4)

theorem cells3_new (W : World) (t : TypeId) (a b c : Value) : ∀ j u, [a, b, c][j]? = some u → (W.alloc (.cells #[a, b, c] t)).cell? ((⟨W.heap.size, 0, none⟩ : Addr).add j) = some u := by
  intro j u h
  have hn := World.alloc_heap_new W (.cells #[a, b, c] t)
  have e : (⟨W.heap.size, 0, none⟩ : Addr).add j = ⟨W.heap.size, j, none⟩ := by unfold Addr.add; split <;> simp_all
  rw [e, cell_of_row _ _ j _ _ _ hn]
  simpa using h

/-! ### the places -/
theorem places_form (s : ByteArray) (f a : Nat) (ha : a ≤ s.size) (hf : s.size < f + a) : ∃ q z, places s f a = q ++ [z] ∧ (∀ x ∈ q, tkKind s x ≠ 0) ∧ tkKind s z = 0 ∧ z ≤ s.size := by
  induction f generalizing a with
  | zero => omega
  | succ f ih =>
    simp only [places]
    have hp := skipTo_le s a ha
    by_cases hz : tkKind s (skipTo s a) = 0
    · exact ⟨[], skipTo s a, by simp [hz], by simp, hz, hp⟩
    · have hgt := (tkEnd_gt s (skipTo s a)).1 (by omega)
      have hge := skipTo_ge s a
      obtain ⟨q, z, e, h1, h2, h3⟩ := ih (tkEnd s (skipTo s a)) (tkEnd_le s _ hp) (by omega)
      refine ⟨skipTo s a :: q, z, by simp [hz, e], ?_, h2, h3⟩
      intro x hx
      rcases List.mem_cons.1 hx with rfl | hx
      · exact hz
      · exact h1 x hx
/-- the place where scanning stops -/
def stopAt (s : ByteArray) : Nat := ((places s (s.size + 1) 0).getLast?).getD 0
/-- the places of the tokens -/
def tokensOf (s : ByteArray) : List Nat := (places s (s.size + 1) 0).filter fun x => decide (tkKind s x ≠ 0)
def scanL (s : ByteArray) : List Nat := if stopAt s < s.size then [] else tokensOf s
def scanErr (s : ByteArray) : Nat := if stopAt s < s.size then 280 else 0
theorem places_eq (s : ByteArray) : places s (s.size + 1) 0 = tokensOf s ++ [stopAt s] ∧ (∀ x ∈ tokensOf s, tkKind s x ≠ 0) ∧ tkKind s (stopAt s) = 0 ∧ stopAt s ≤ s.size := by
  obtain ⟨q, z, e, h1, h2, h3⟩ := places_form s (s.size + 1) 0 (by omega) (by omega)
  have e1 : stopAt s = z := by unfold stopAt; rw [e]; simp
  have e2 : tokensOf s = q := by
    unfold tokensOf
    rw [e, List.filter_append]
    have : q.filter (fun x => decide (tkKind s x ≠ 0)) = q := List.filter_eq_self.2 (fun x hx => by simpa using h1 x hx)
    rw [this]
    simp [h2]
  rw [e1, e2]
  exact ⟨e, h1, h2, h3⟩
theorem places_len (s : ByteArray) (f a : Nat) : (places s f a).length ≤ f := by
  induction f generalizing a with
  | zero => simp [places]
  | succ f ih =>
    simp only [places]
    split
    · simp
    · have := ih (tkEnd s (skipTo s a))
      simp
      exact this
theorem tokensOf_len (s : ByteArray) : (tokensOf s).length ≤ s.size := by
  have h := places_len s (s.size + 1) 0
  rw [(places_eq s).1] at h
  simpa using h
/-- the cells of tokens at places -/
def tcells (s : ByteArray) (l : List Nat) : List Value := l.flatMap fun p => [.int .u8 (tkKind s p : Nat), .int .i64 (p : Int), .int .i64 (tkEnd s p : Nat)]
theorem tcells_len (s : ByteArray) (l : List Nat) : (tcells s l).length = l.length * 3 := by
  unfold tcells
  induction l with
  | nil => rfl
  | cons p l ih => simp only [List.flatMap_cons, List.length_append, ih, List.length_cons, List.length_nil]; omega
theorem tcells_snoc (s : ByteArray) (l : List Nat) (p : Nat) : tcells s (l ++ [p]) = tcells s l ++ [.int .u8 (tkKind s p : Nat), .int .i64 (p : Int), .int .i64 (tkEnd s p : Nat)] := by simp [tcells]
theorem tcells_one (s : ByteArray) (l : List Nat) : ∀ u ∈ tcells s l, u.oneCell' = true := by
  intro u hu
  simp only [tcells, List.mem_flatMap] at hu
  obtain ⟨p, _, hu⟩ := hu
  simp at hu
  rcases hu with rfl | rfl | rfl <;> rfl
/-- those of some places that are tokens -/
def flt (s : ByteArray) (l : List Nat) : List Nat := l.filter fun x => decide (tkKind s x ≠ 0)

theorem info29 : (Tryd.prog.info? 29).map (fun i => (i.zero, i.size, i.bytes)) = some (some (.agg #[.int .u8 0, .int .i64 0, .int .i64 0]), 3, 24) := by kernel_rfl

theorem all_in (s : ByteArray) (w : World) :
    CallsIn Fence.wide 8 Tryd.prog 32 #[.string s] w fun e w' => e = .returned (.func (.func 53) #[] #[.pointer (some ⟨w.heap.size, 0, none⟩)]) ∧ w.alloc (.cells #[.string s] 9) = w' := by
  refine callsIn_of_wp Tryd.func32 rfl trivial ?_ rfl
  simp only [Tryd.ntmps32, List.size_toArray, List.length_cons, List.length_nil, Nat.reduceAdd, Nat.reduceSub, Array.replicate_succ, Array.replicate_zero, List.push_toArray, List.append_toArray, List.nil_append, List.cons_append]
  gi_wp2
  go_ret
  exact ⟨rfl, rfl⟩

theorem KpS.appended {b : Nat} {W w1 : World} {tmp : Obj} {v v' : Value} {n₀ m : Nat} {ys : List Value} (hv : Boxed W b 23 v) (hv1 : Boxed w1 b 23 v) (hg : (W.alloc tmp).grownBy w1 v.ownBlock) (hr : w1.ownsRow n₀ 29 3 v' m ys)
    (hv' : v'.ownBlock = v.ownBlock ∨ v'.ownBlock = some (W.alloc tmp).heap.size) : KpS b W (w1.setCell ⟨b, 0, none⟩ v') := by
  have hs : W.heap.size + 1 ≤ w1.heap.size := by have := hg.size; simpa using this
  have hsz : (w1.setCell ⟨b, 0, none⟩ v').heap.size = w1.heap.size := by simp [World.setCell]
  have hbox := hv1.set v'
  have hown : ∀ k, Owned b (w1.setCell ⟨b, 0, none⟩ v') k → v'.ownBlock = some k := by
    rintro k ⟨u, hu, ho⟩
    have := (show _ = _ from hu).symm.trans hbox
    simp at this
    rw [← this]; exact ho
  refine ⟨by omega, fun hW k hk => ?_, fun k hk hl => ?_, fun k cs t m hc h1 _ h3 => ?_⟩
  · have h := hown k hk
    rcases hr.2 with ⟨rfl, _⟩ | ⟨g, cap, cur, rfl, _, hgb, _⟩
    · cases h
    · have : g = k := by simpa [Value.ownBlock] using h
      subst this
      have := heap_lt hgb
      omega
  · have h := hown k hk
    rcases hv' with e | e
    · exact ⟨v, hv, by rw [← e]; exact h⟩
    · rw [e] at h
      simp at h
      omega
  · have e1 : (W.alloc tmp).heap[k]? = W.heap[k]? := Below.heap_alloc W tmp k (heap_lt hc)
    have e2 : w1.heap[k]? = (W.alloc tmp).heap[k]? := hg.block k (by have := heap_lt hc; simp; omega) (fun e => h3 ⟨v, hv, e.symm⟩)
    have e3 : (w1.setCell ⟨b, 0, none⟩ v').heap[k]? = w1.heap[k]? := Below.heap_setCell _ _ _ k (by simpa using h1)
    rw [e3, e2, e1]
theorem KpS.setWrong {b : Nat} {W : World} (u : Value) : KpS b W (W.setCell ⟨b + 1, 0, none⟩ u) := by
  have hsz : (W.setCell ⟨b + 1, 0, none⟩ u).heap.size = W.heap.size := by simp [World.setCell]
  have e : ∀ k, k ≠ b + 1 → (W.setCell ⟨b + 1, 0, none⟩ u).heap[k]? = W.heap[k]? := fun k hk => Below.heap_setCell _ _ _ k (by simpa using hk)
  refine ⟨by omega, fun hW k hk => ?_, fun k hk _ => owned_of_eq (e b (by omega)) hk, fun k cs t m hc _ h2 _ => e k h2⟩
  have := hW k (owned_of_eq (e b (by omega)) hk)
  omega
theorem all_stops (s : ByteArray) (hs : s.size ≤ 140737488355328) (b : Nat) (w : World) (hb : b + 2 < w.heap.size) (hBn : Boxed w (b + 2) 9 (.string s)) (h0 : Boxed w b 23 (.slice none 0 0)) :
    SeqStopsK Fence.wide 8 Tryd.prog 53 #[.pointer (some ⟨b + 2, 0, none⟩)] (yv s) (KpS b) (fun ys => ys = places s (s.size + 1) 0) (fun pre => pre <+: places s (s.size + 1) 0) (s.size + 1) w := fun l J Jx W hW hJ _ hY hj => by
  have e1 := hW.block (b + 2) hb
  have e2 := hW.block b (by omega)
  have hsz := hW.size
  have hno : ∀ k, ¬ Owned b W k := by
    intro k hk
    obtain ⟨v, hv, ho⟩ := owned_of_eq e2 hk
    have := (show _ = _ from hv).symm.trans h0
    simp at this
    subst this
    cases ho
  exact all1_in l (b + 2) b s hs J Jx W hJ hY (e1.trans hBn) (by omega) (by omega) (by omega) (hno _) (fun k hk => absurd hk (hno k)) hj

set_option maxRecDepth 100000 in
set_option maxHeartbeats 1000000 in
theorem scan_in (s : ByteArray) (hs : s.size ≤ 65536) (w : World) :
    CallsIn Fence.wide 9 Tryd.prog 11 #[.string s] w fun e W' => ∃ v, e = .returned (.tuple #[v, .int .i64 (stopAt s : Nat), .int .i64 (scanErr s : Nat)]) ∧
      W'.ownsRow w.heap.size 29 3 v (scanL s).length (tcells s (scanL s)) ∧ (v = .slice none 0 0 ↔ scanL s = []) ∧ Below w.heap.size w W' := by
  obtain ⟨i0, hi, hz0, hz1, hz2⟩ := info_parts info29
  have hdec : decide ((65536 : Int) < (s.size : Int)) = false := by simp; omega
  refine callsIn_of_wp_marks Tryd.func11 rfl trivial ?_ rfl
  simp only [Tryd.ntmps11, List.size_toArray, List.length_cons, List.length_nil, Nat.reduceAdd, Nat.reduceSub, Array.replicate_succ, Array.replicate_zero, List.push_toArray, List.append_toArray, List.nil_append, List.cons_append]
  gi_wp2
  refine wpIn_wide.2 (wp_scope_straight ((wpIn_wide (n := 9)).1 ?_))
  gi_wp2
  refine wpIn_label ?_
  gi_wp2_with (refine ⟨trivial, ?_⟩; gi_at_call 32; refine (all_in s _).mono ?_; rintro e w' ⟨rfl, rfl⟩)
  have bO : Boxed (((w.alloc (.cells #[.slice none 0 0] 23)).alloc (.cells #[.int .i64 (-1)] 3)).alloc (.cells #[.string s] 9)) w.heap.size 23 (.slice none 0 0) := ((Boxed.new w 23 (.slice none 0 0)).alloc _).alloc _
  have bW : Boxed (((w.alloc (.cells #[.slice none 0 0] 23)).alloc (.cells #[.int .i64 (-1)] 3)).alloc (.cells #[.string s] 9)) (w.heap.size + 1) 3 (.int .i64 (-1)) := by
    have h := (Boxed.new (w.alloc (.cells #[.slice none 0 0] 23)) 3 (.int .i64 (-1))).alloc (.cells #[.string s] 9)
    rwa [World.size_alloc] at h
  have bN : Boxed (((w.alloc (.cells #[.slice none 0 0] 23)).alloc (.cells #[.int .i64 (-1)] 3)).alloc (.cells #[.string s] 9)) (w.heap.size + 2) 9 (.string s) := by
    have h := Boxed.new ((w.alloc (.cells #[.slice none 0 0] 23)).alloc (.cells #[.int .i64 (-1)] 3)) 9 (.string s)
    rwa [World.size_alloc, World.size_alloc] at h
  have hB0 : Below w.heap.size w (((w.alloc (.cells #[.slice none 0 0] 23)).alloc (.cells #[.int .i64 (-1)] 3)).alloc (.cells #[.string s] 9)) := (((Below.refl _ w).alloc (Nat.le_refl _) _).alloc (by simp) _).alloc (by simp; omega) _
  refine wpIn_rangeFunc_ownH rfl (by omega) (gf := 53) (lb := #[.pointer (some ⟨w.heap.size + 1 + 1, 0, none⟩)]) rfl trivial (enters_of Tryd.func53 (by kernel_rfl) rfl)
    (all_stops s (by omega) w.heap.size _ (by simp) bN bO) (fun h k => h.trans k) (KpS.putObj (by simp; omega)) (Below.refl _ _) (fun _ => rfl)
    (fun pre W => (∃ v, Boxed W w.heap.size 23 v ∧ W.ownsRow w.heap.size 29 3 v (flt s pre).length (tcells s (flt s pre)) ∧ (v = .slice none 0 0 ↔ flt s pre = [])) ∧ Boxed W (w.heap.size + 1) 3 (.int .i64 (-1)) ∧ Below w.heap.size w W ∧ ∀ x ∈ pre, nxErr s x = 0)
    (fun c pre W => c = .exit 0 ∧ ∃ q x, pre = q ++ [x] ∧ nxErr s x ≠ 0 ∧ Boxed W (w.heap.size + 1) 3 (.int .i64 (x : Int)) ∧ Below w.heap.size w W)
    (OwnFrom.and (Own.from (holdsRow_own w.heap.size w.heap.size 23 29 3 (fun pre => (flt s pre).length) (fun pre => tcells s (flt s pre)) (fun pre v => v = .slice none 0 0 ↔ flt s pre = [])) _)
      (OwnFrom.and (Own.from (boxed_own _ _ _) _) (OwnFrom.and (ownFrom_below (Nat.le_refl _) (by simp; omega)) (ownFrom_pure _ _))))
    (fun c pre X Y row hS hg hr => by
      obtain ⟨hc, q, x, hq, hx, hb, hB⟩ := hS
      exact ⟨hc, q, x, hq, hx, Own.from (boxed_own (β := Unit) (w.heap.size + 1) 3 (fun _ => .int .i64 (x : Int))) (((w.alloc (.cells #[.slice none 0 0] 23)).alloc (.cells #[.int .i64 (-1)] 3)).alloc (.cells #[.string s] 9)).heap.size () X Y row hb hg hr,
        ownFrom_below (β := Unit) (Nat.le_refl _) (by simp; omega) () X Y row hB hg hr⟩)
    ⟨⟨_, bO, World.ownsRow_nil _ _ _ _, by simp [flt]⟩, bW, hB0, by simp⟩
    (fun x a' W => ∃ g, w.heap.size + 2 ≤ g ∧ W.heap[g]? = some (.cells #[.int .u8 (tkKind s x : Nat), .int .i64 (x : Int), .int .i64 (tkEnd s x : Nat)] 29 (0, 0)) ∧
      a' = { tmps := #[.string s, undef, .slice none 0 0, .int .i64 0, .int .i64 0, .pointer (some ⟨w.heap.size, 0, none⟩), .pointer (some ⟨w.heap.size + 1, 0, none⟩), .pointer (some ⟨g, 0, none⟩), .int .i64 (nxErr s x : Nat), .string s, .int .i64 s.size, .bool false, .string s, .func (.func 53) #[] #[.pointer (some ⟨w.heap.size + 1 + 1, 0, none⟩)], .agg #[.int .u8 (tkKind s x : Nat), .int .i64 (x : Int), .int .i64 (tkEnd s x : Nat)], .int .i64 (nxErr s x : Nat), undef, undef, undef, undef, undef, undef, undef, undef, undef, undef, undef, undef, undef, undef, undef, undef, undef], defers := [] })
    (fun x a' => by
      rintro _ X Y row ⟨g, hg0, hgb, ha⟩ hg hr
      refine ⟨g, hg0, ?_, ha⟩
      rw [hg.block g (heap_lt hgb) (fun e => ?_)]
      · exact hgb
      · obtain ⟨_, o, ho, hn⟩ := hr g e.symm
        rw [hgb] at ho; cases ho; cases hn) ?assign ?body ?done ?stop
  case assign =>
    rintro l pre x W K ⟨⟨v, hv, hrow, hnil⟩, hw, hB, hx⟩ hK
    dsimp only [yv]
    have hsz := hB.size
    gi_wp2
    refine hK _ _ ((KeepsOthers.alloc _ _).from _) (KpS.below hv.lt ((Below.refl _ _).alloc (Nat.le_refl _) _)) ⟨⟨_, hv.alloc _, hrow.alloc _, hnil⟩, hw.alloc _, hB.alloc hsz _, hx⟩ ⟨W.heap.size, ?_, World.alloc_heap_new W _, rfl⟩
    have := hw.lt
    omega
  case body =>
    rintro l pre x a' W hl ⟨r, hr⟩ ⟨⟨v, hv, hrow, hnil⟩, hw, hB, hx⟩ ⟨g, hg0, hgb, rfl⟩ hlt
    have c0 : W.cell? ⟨g, 0, none⟩ = some (.int .u8 (tkKind s x : Nat)) := by simp [World.cell?, hgb]
    have c1 : W.cell? ⟨g, 1, none⟩ = some (.int .i64 (x : Int)) := by simp [World.cell?, hgb]
    have c2 : W.cell? ⟨g, 2, none⟩ = some (.int .i64 (tkEnd s x : Nat)) := by simp [World.cell?, hgb]
    have hc := hv.cell
    have hcw := hw.cell
    have hfw := hw.frozen
    have hkl := tkKind_le s x
    have HX := Lib.hid hx
    have HN := Lib.hid hnil
    have HGB := Lib.hid hgb
    clear hx hnil hgb
    by_cases hE : nxErr s x = 0
    · have eE : ((nxErr s x : Int) == 0) = true := by rw [hE]; rfl
      have eE' : ((nxErr s x : Int) != 0) = false := by rw [hE]; rfl
      have HE := Lib.hid hE
      clear hE
      by_cases hz0 : tkKind s x = 0
      · have ek : ((tkKind s x : Int) == 0) = true := by rw [hz0]; rfl
        have ek' : ((tkKind s x : Int) != 0) = false := by rw [hz0]; rfl
        have HZ := Lib.hid hz0
        clear hz0
        gi_wp2
        have ef : flt s (pre ++ [x]) = flt s pre := by unfold flt; rw [List.filter_append]; simp [HZ.out]
        refine ⟨KeepsFrom.refl _ _, KpS.below hv.lt (Below.refl _ _), ⟨v, hv, by rw [ef]; exact hrow, by rw [ef]; exact HN.out⟩, hw, hB, ?_⟩
        intro y hy
        rcases List.mem_append.1 hy with h | h
        · exact HX.out y h
        · obtain rfl : y = x := by simpa using h
          exact HE.out
      · have ek : ((tkKind s x : Int) == 0) = false := by simpa using hz0
        have ek' : ((tkKind s x : Int) != 0) = true := by simpa using hz0
        have HZ := Lib.hid hz0
        clear hz0
        have hpl : (flt s pre).length ≤ pre.length := List.length_filter_le _ _
        gi_wp2_with (gi_at_builtin; refine wpListIn_append_own_at _ rfl _ _ 23 rfl w.heap.size 29 i0 (.agg #[.int .u8 0, .int .i64 0, .int .i64 0]) 3 24 Tryd.underlying23 hi hz0 hz1 hz2 rfl (by decide) _ _ _ rfl (hrow.alloc _) ⟨W.heap.size, 0, none⟩ 1 1 [.int .u8 (tkKind s x : Nat), .int .i64 (x : Int), .int .i64 (tkEnd s x : Nat)] rfl rfl (cells3_new _ _ _ _ _) (by simp [Value.oneCell']) (by unfold maxLen; omega) (by omega) (by have := hB.size; simp; omega) ?_; intro v' w1 hown' hgrow hnl hat; obtain ⟨g', cap', rfl⟩ := ownsRow_succ hown'; obtain ⟨hv1, hv2, hr2, hk2, hb2⟩ := hv.appended (by decide) hrow hB.size (Nat.le_refl _) hown' hgrow; have hcc1 := hv1.cell; have hff1 := hv1.frozen)
        have ef : flt s (pre ++ [x]) = flt s pre ++ [x] := by unfold flt; rw [List.filter_append]; simp [HZ.out]
        refine ⟨hk2.from _, KpS.appended hv hv1 hgrow hown' hat, ⟨_, hv2, by rw [ef, tcells_snoc]; simpa using hr2, by rw [ef]; simp⟩, ?_, hB.trans hb2, ?_⟩
        · have h1 : Boxed w1 (w.heap.size + 1) 3 (.int .i64 (-1)) := (hw.alloc _).kept hgrow (hw.not_row (by decide) hrow)
          exact h1.other (by omega) _
        · intro y hy
          rcases List.mem_append.1 hy with h | h
          · exact HX.out y h
          · obtain rfl : y = x := by simpa using h
            exact HE.out
    · have eE : ((nxErr s x : Int) == 0) = false := by simpa using hE
      have eE' : ((nxErr s x : Int) != 0) = true := by simpa using hE
      have HE := Lib.hid hE
      clear hE
      gi_wp2
      exact ⟨(KeepsOthers.setCell _ _ _).from _, rfl, pre, x, rfl, HE.out, hw.set _, hB.setCell (p := ⟨w.heap.size + 1, 0, none⟩) (by simp) _⟩
  case done =>
    rintro D ys W hD rfl ⟨⟨v, hv, hrow, hnil⟩, hw, hB, hx⟩ hK
    have hc := hv.cell
    have hcw := hw.cell
    have HX := Lib.hid hx
    have HN := Lib.hid hnil
    clear hx hnil
    gi_wp2
    rw [Exit.noGoto_ret]
    obtain ⟨p1, p2, p3, p4⟩ := places_eq s
    have hst : stopAt s = s.size := by
      have h := HX.out (stopAt s) (by rw [p1]; simp)
      unfold nxErr at h
      by_cases hlt : stopAt s < s.size
      · rw [if_pos ⟨p3, hlt⟩] at h
        omega
      · omega
    have efl : flt s (places s (s.size + 1) 0) = scanL s := by unfold scanL; rw [if_neg (by omega)]; rfl
    have eer : scanErr s = 0 := by unfold scanErr; rw [if_neg (by omega)]
    rw [efl] at hrow
    refine ⟨by simp, .inl ⟨_, _, rfl, run_takeDeferred hK, ?_⟩⟩
    refine ⟨_, results_tmp3 rfl _ _ _, v, by rw [hst, eer]; rfl, ownsRow_putObj hrow _ hK rfl, by rw [← efl]; exact HN.out, hB.trans (belowK_b (w := w) (Nat.le_refl _) W D _ _ (by simp at hD; omega) hK rfl rfl)⟩
  case stop =>
    rintro D c pre W hD hpre ⟨rfl, q, x, rfl, hx, hw, hB⟩ hK
    have hcw := hw.cell
    gi_wp2
    gi_quiet (fail)
    gi_wp2
    rw [Exit.noGoto_ret]
    obtain ⟨p1, p2, p3, p4⟩ := places_eq s
    have hmem : x ∈ places s (s.size + 1) 0 := hpre.subset (by simp)
    have hk0 : tkKind s x = 0 ∧ x < s.size := by
      unfold nxErr at hx
      by_cases h : tkKind s x = 0 ∧ x < s.size
      · exact h
      · rw [if_neg h] at hx; exact absurd rfl hx
    have hst : stopAt s = x := by
      rw [p1] at hmem
      rcases List.mem_append.1 hmem with h | h
      · exact absurd hk0.1 (p2 x h)
      · exact (List.mem_singleton.1 h).symm
    have hlt : stopAt s < s.size := by rw [hst]; exact hk0.2
    have efl : scanL s = [] := by unfold scanL; rw [if_pos hlt]
    have eer : scanErr s = 280 := by unfold scanErr; rw [if_pos hlt]
    have hK2 : (W.drewN nq).heap[D]? = some (.deferred (some [])) := hK
    have hB2 : Below w.heap.size w (W.drewN nq) := ⟨hB.os, hB.tape, hB.output, hB.size, hB.block⟩
    refine ⟨by simp, .inl ⟨_, _, rfl, run_takeDeferred hK2, ?_⟩⟩
    refine ⟨_, results_tmp3 rfl _ _ _, .slice none 0 0, by rw [hst, eer]; rfl, by rw [efl]; exact World.ownsRow_nil _ _ _ _, by rw [efl]; simp, hB2.trans (belowK_b (w := w) (Nat.le_refl _) _ D _ _ (by simp at hD; omega) hK2 rfl rfl)⟩

theorem scan_any (s : ByteArray) (hs : s.size ≤ 65536) (w : World) :
    Calls Tryd.prog 11 #[.string s] w fun e W' => ∃ v, e = .returned (.tuple #[v, .int .i64 (stopAt s : Nat), .int .i64 (scanErr s : Nat)]) ∧
      W'.ownsRow w.heap.size 29 3 v (scanL s).length (tcells s (scanL s)) ∧ (v = .slice none 0 0 ↔ scanL s = []) ∧ Below w.heap.size w W' := callsIn_wide.1 (scan_in s hs w)

set_option maxRecDepth 100000 in
set_option maxHeartbeats 1000000 in
theorem scan_long (s : ByteArray) (hs : 65536 < s.size) (w : World) :
    Calls Tryd.prog 11 #[.string s] w fun e W' => e = .returned (.tuple #[.slice none 0 0, .int .i64 0, .int .i64 3]) ∧ w = W' := by
  have hdec : decide ((65536 : Int) < (s.size : Int)) = true := by simp; omega
  refine (callsIn_wide (n := 9)).1 ?_
  refine callsIn_of_wp_marks Tryd.func11 rfl trivial ?_ rfl
  simp only [Tryd.ntmps11, List.size_toArray, List.length_cons, List.length_nil, Nat.reduceAdd, Nat.reduceSub, Array.replicate_succ, Array.replicate_zero, List.push_toArray, List.append_toArray, List.nil_append, List.cons_append]
  gi_wp2
  refine wpIn_wide.2 (wp_scope_straight ((wpIn_wide (n := 9)).1 ?_))
  gi_wp2
  rw [Exit.noGoto_ret]
  exact ⟨_, results_tmp3 rfl _ _ _, rfl, rfl⟩
end Go.Proofs.YtihigfpikiaaiaaDoor
