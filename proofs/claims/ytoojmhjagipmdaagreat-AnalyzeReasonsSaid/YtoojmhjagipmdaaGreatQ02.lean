/- A region that draws its order and ends in one operation that waits for all others: that one may be met behind them. The trail: Value, Level, Reason, Place, Now, Len, At. -/
import Derived.Test.YtoojmhjagipmdaaGreatQ00
import Derived.Deep.RegionHeld3
import Derived.Test.YtoojmhjagipmdaaGreatQ01
namespace Go.Proofs.YtoojmhjagipmdaaGreat
open Go.RowKit

section
variable {P : Program}
/-- the last operation waits for all others, and none waits for a later one -/
def sinkOk (md : Region.Mode) (ops0 : Array Oper) (o : Oper) : Bool :=
  ((List.range ops0.size).all fun i => match ops0[i]? with
    | some x => (x.after.all fun e => !Region.binds md e || decide (e.on < i)) && (match x.guard with | some (g, _) => decide (g < ops0.size) | none => true)
    | none => true) &&
  ((List.range ops0.size).all fun i => o.after.any fun e => Region.binds md e && (decide (e.on = i) || match ops0[e.on]? with
    | some x => x.after.any fun e' => Region.binds md e' && (decide (e'.on = i) || match ops0[e'.on]? with
      | some y => y.after.any fun e'' => Region.binds md e'' && decide (e''.on = i)
      | none => false)
    | none => false)) &&
  (o.after.all fun e => !Region.binds md e || decide (e.on < ops0.size))
/-- what is to be shown behind all but the last -/
def lastPost (P : Program) (ops0 : Array Oper) (o : Oper) (Q : Exit → Act → World → Prop) : Exit → Act → World → Prop
  | .normal, a, w => wpOp P (ops0.push o) Q ops0.size (Q .normal) a w
  | e, a, w => Q e a w
structure Sink (md : Region.Mode) (ops0 : Array Oper) (o : Oper) : Prop where
  before : ∀ (i : Nat) (x : Oper), ops0[i]? = some x → ∀ e ∈ x.after, Region.binds md e = true → e.on < i
  guard : ∀ (i : Nat) (x : Oper), ops0[i]? = some x → ∀ g b, x.guard = some (g, b) → g < ops0.size
  waits : ∀ i, i < ops0.size → ∃ e ∈ o.after, Region.binds md e = true ∧ (e.on = i ∨ ∃ x, ops0[e.on]? = some x ∧ ∃ e' ∈ x.after, Region.binds md e' = true ∧ (e'.on = i ∨ ∃ y, ops0[e'.on]? = some y ∧ ∃ e'' ∈ y.after, Region.binds md e'' = true ∧ e''.on = i))
  low : ∀ e ∈ o.after, Region.binds md e = true → e.on < ops0.size
theorem sink_of {md : Region.Mode} {ops0 : Array Oper} {o : Oper} (h : sinkOk md ops0 o = true) : Sink md ops0 o := by
  simp only [sinkOk, Bool.and_eq_true, List.all_eq_true, List.mem_range] at h
  obtain ⟨⟨h1, h2⟩, h3⟩ := h
  refine ⟨fun i x hx e he hb => ?_, fun i x hx g b hg => ?_, fun i hi => ?_, fun e he hb => ?_⟩
  · have := h1 i (Array.getElem?_eq_some_iff.1 hx).1
    rw [hx] at this
    simp only [Bool.and_eq_true] at this
    have h4 := Array.all_eq_true'.1 this.1 e he
    rw [hb] at h4
    simpa using h4
  · have := h1 i (Array.getElem?_eq_some_iff.1 hx).1
    rw [hx] at this
    simp only [Bool.and_eq_true, hg] at this
    simpa using this.2
  · have := h2 i hi
    obtain ⟨e, he, h4⟩ := Array.any_eq_true'.1 this
    simp only [Bool.and_eq_true, Bool.or_eq_true, decide_eq_true_eq] at h4
    refine ⟨e, he, h4.1, ?_⟩
    rcases h4.2 with h5 | h5
    · exact .inl h5
    · cases hx : ops0[e.on]? with
      | none => rw [hx] at h5; cases h5
      | some x =>
        rw [hx] at h5
        obtain ⟨e', he', h6⟩ := Array.any_eq_true'.1 h5
        simp only [Bool.and_eq_true, Bool.or_eq_true, decide_eq_true_eq] at h6
        refine .inr ⟨x, rfl, e', he', h6.1, ?_⟩
        rcases h6.2 with h7 | h7
        · exact .inl h7
        · cases hy : ops0[e'.on]? with
          | none => rw [hy] at h7; cases h7
          | some y =>
            rw [hy] at h7
            obtain ⟨e2, he2, h8⟩ := Array.any_eq_true'.1 h7
            simp only [Bool.and_eq_true, decide_eq_true_eq] at h8
            exact .inr ⟨y, rfl, e2, he2, h8.1, h8.2⟩
  · have := Array.all_eq_true'.1 h3 e he
    rw [hb] at this
    simpa using this
theorem wpOp_last {ops0 : Array Oper} {o : Oper} {md : Region.Mode} (hk : Sink md ops0 o) {Q : Exit → Act → World → Prop} {K K' : Act → World → Prop} (hK : ∀ a w, K a w → K' a w) (i : Nat) (hi : i < ops0.size) (a : Act) (w : World)
    (h : wpOp P ops0 (lastPost P ops0 o Q) i K a w) : wpOp P (ops0.push o) Q i K' a w := by
  unfold wpOp at *
  have e : (ops0.push o)[i]? = ops0[i]? := by rw [Array.getElem?_push_lt hi, Array.getElem?_eq_getElem hi]
  rw [e]
  have hx : ops0[i]? = some ops0[i] := Array.getElem?_eq_getElem hi
  rw [hx] at h ⊢
  simp only at h ⊢
  have hw : Region.wanted ops0[i] (yielded (ops0.push o) a.tmps) = Region.wanted ops0[i] (yielded ops0 a.tmps) := by
    unfold Region.wanted
    split
    · rfl
    · rename_i j b hg
      have hj := hk.guard i _ hx j b hg
      unfold yielded
      rw [Array.getElem?_push_lt hj, Array.getElem?_eq_getElem hj]
  rw [hw]
  have hlets : LetsOut (lastPost P ops0 o Q) → LetsOut Q := fun ⟨a', w', h'⟩ => ⟨a', w', h'⟩
  split
  · rename_i hw2
    rw [if_pos hw2] at h
    rcases h with h | ⟨h1, h2⟩
    · refine .inl ?_
      unfold Oper.wp at *
      generalize (execOp a.eval ops0[i]).run P w = r at *
      cases r with
      | ok n w' =>
        cases n <;> simp only [Oper.upon] at h ⊢
        case value u => exact hK _ _ h
        case skip => exact hK _ _ h
        case defer d => exact hK _ _ h
        case enter f args =>
          refine Calls.mono h fun e w'' he => ?_
          cases e with
          | returned u => exact hK _ _ he
          | panicked c => exact he
          | outgrown => exact hlets he
        case row row args => exact Rows.mono h fun u w'' he => hK _ _ he
      | halt x w' =>
        cases x <;> simp only [Oper.upon] at h ⊢
        case panic u => exact h
    · exact .inr ⟨h1, hlets h2⟩
  · rename_i hw2
    rw [if_neg hw2] at h
    exact hK _ _ h
theorem getD_push_lt {l : Array Bool} {i : Nat} {d : Bool} (h : i < l.size) : (l.push d).getD i true = l.getD i true := by
  simp only [Array.getD_eq_getD_getElem?]
  rw [Array.getElem?_push_lt h, Array.getElem?_eq_getElem h]
theorem getD_push_lt' {l : Array Bool} {i : Nat} {d : Bool} (h : i < l.size) : (l.push d).getD i false = l.getD i false := by
  simp only [Array.getD_eq_getD_getElem?]
  rw [Array.getElem?_push_lt h, Array.getElem?_eq_getElem h]
theorem least_open (l : Array Bool) (h : ∃ i, i < l.size ∧ l.getD i true = false) : ∃ i, i < l.size ∧ l.getD i true = false ∧ ∀ j, j < i → l.getD j false = true := by
  obtain ⟨i, h1, h2⟩ := h
  induction i using Nat.strongRecOn with
  | _ i ih =>
    by_cases hall : ∀ j, j < i → l.getD j false = true
    · exact ⟨i, h1, h2, hall⟩
    · simp only [Classical.not_forall] at hall
      obtain ⟨j, hj, hn⟩ := hall
      refine ih j hj (by omega) ?_
      have hjl : j < l.size := by omega
      simp only [Array.getD_eq_getD_getElem?, Array.getElem?_eq_getElem hjl, Option.getD_some] at hn ⊢
      simpa using hn
/-- what has come up had its own come up before -/
def Closed (md : Region.Mode) (ops0 : Array Oper) (l : Array Bool) : Prop := ∀ j x, ops0[j]? = some x → l.getD j false = true → ∀ e ∈ x.after, Region.binds md e = true → l.getD e.on false = true
theorem Closed.set {md : Region.Mode} {ops0 : Array Oper} {l : Array Bool} (h : Closed md ops0 l) {i : Nat} (hi : i ∈ Region.ready md ops0 l) : Closed md ops0 (l.setIfInBounds i true) := by
  intro j x hx hj e he hb
  by_cases hji : i = j
  · subst hji
    obtain ⟨_, y, hy, h2⟩ := mem_ready.1 hi
    obtain rfl := Option.some.inj (hx.symm.trans hy)
    exact getD_set_true (h2 e he hb)
  · rw [getD_set_ne _ hji] at hj
    exact getD_set_true (h j x hx hj e he hb)
theorem wpAny_sink {ops0 : Array Oper} {o : Oper} {md : Region.Mode} (hk : Sink md ops0 o) {Q : Exit → Act → World → Prop} : ∀ (fuel : Nat) (l : Array Bool) (a : Act) (w : World), l.size = ops0.size → Closed md ops0 l →
    wpAny P md ops0 (lastPost P ops0 o Q) fuel l a w → wpAny P md (ops0.push o) Q (fuel + 1) (l.push false) a w := by
  intro fuel
  -- what may come up, with the last and without
  have hr : ∀ (l : Array Bool) (i : Nat), l.size = ops0.size → i < ops0.size → i ∈ Region.ready md (ops0.push o) (l.push false) → i ∈ Region.ready md ops0 l := by
    intro l i hl hi hm
    obtain ⟨h1, x, hx, h2⟩ := mem_ready.1 hm
    rw [Array.getElem?_push_lt hi] at hx
    have hx' : ops0[i]? = some x := by rw [Array.getElem?_eq_getElem hi]; exact hx
    refine mem_ready.2 ⟨by rwa [getD_push_lt (by omega)] at h1, x, hx', fun e he hb => ?_⟩
    have hlt := hk.before i x hx' e he hb
    have := h2 e he hb
    rwa [getD_push_lt' (by omega)] at this
  have hr' : ∀ (l : Array Bool) (i : Nat), l.size = ops0.size → i ∈ Region.ready md ops0 l → i ∈ Region.ready md (ops0.push o) (l.push false) := by
    intro l i hl hm
    obtain ⟨h1, x, hx, h2⟩ := mem_ready.1 hm
    have hi := (Array.getElem?_eq_some_iff.1 hx).1
    refine mem_ready.2 ⟨by rwa [getD_push_lt (by omega)], x, by rw [Array.getElem?_push_lt hi, ← Array.getElem?_eq_getElem hi]; exact hx, fun e he hb => ?_⟩
    have hlt := hk.before i x hx e he hb
    rw [getD_push_lt' (by omega)]
    exact h2 e he hb
  have hle : ∀ (l : Array Bool) (i : Nat), l.size = ops0.size → i ∈ Region.ready md (ops0.push o) (l.push false) → i ≤ ops0.size := by
    intro l i hl hm
    obtain ⟨_, x, hx, _⟩ := mem_ready.1 hm
    have := (Array.getElem?_eq_some_iff.1 hx).1
    simp at this
    omega
  have hall : ∀ (l : Array Bool), l.size = ops0.size → Closed md ops0 l → ops0.size ∈ Region.ready md (ops0.push o) (l.push false) → Region.ready md ops0 l = [] := by
    intro l hl hcl hm
    obtain ⟨_, x, hx, h2⟩ := mem_ready.1 hm
    rw [Array.getElem?_push_size] at hx
    obtain rfl := Option.some.inj hx
    apply List.eq_nil_iff_forall_not_mem.2
    intro i hi
    obtain ⟨h1, y, hy, _⟩ := mem_ready.1 hi
    have hi2 := (Array.getElem?_eq_some_iff.1 hy).1
    obtain ⟨e, he, hb, hor⟩ := hk.waits i hi2
    have hlow := hk.low e he hb
    have h3 := h2 e he hb
    rw [getD_push_lt' (by omega)] at h3
    have this : l.getD i false = true := by
      rcases hor with rfl | ⟨x, hx, e', he', hb', rfl | ⟨x2, hx2, e2, he2, hb2, rfl⟩⟩
      · exact h3
      · exact hcl _ x hx h3 e' he' hb'
      · exact hcl _ x2 hx2 (hcl _ x hx h3 e' he' hb') e2 he2 hb2
    have hil : i < l.size := by omega
    simp only [Array.getD_eq_getD_getElem?, Array.getElem?_eq_getElem hil, Option.getD_some] at this h1
    rw [this] at h1
    cases h1
  have hend : ∀ (l : Array Bool), l.size = ops0.size → Region.ready md ops0 l = [] → ops0.size ∈ Region.ready md (ops0.push o) (l.push false) := by
    intro l hl h0
    have hdone : ∀ i, i < l.size → l.getD i false = true := by
      intro i hi
      apply Classical.byContradiction
      intro hn
      obtain ⟨j, hj, hj2, hj3⟩ := least_open l ⟨i, hi, by
        simp only [Array.getD_eq_getD_getElem?, Array.getElem?_eq_getElem hi, Option.getD_some] at hn ⊢
        simpa using hn⟩
      have hjo : j < ops0.size := by omega
      have : j ∈ Region.ready md ops0 l := mem_ready.2 ⟨hj2, ops0[j], Array.getElem?_eq_getElem hjo, fun e he hb => hj3 _ (hk.before j _ (Array.getElem?_eq_getElem hjo) e he hb)⟩
      rw [h0] at this
      cases this
    refine mem_ready.2 ⟨?_, o, Array.getElem?_push_size, fun e he hb => ?_⟩
    · simp only [Array.getD_eq_getD_getElem?]
      rw [← hl, Array.getElem?_push_size]
      rfl
    · have := hk.low e he hb
      rw [getD_push_lt' (by omega)]
      exact hdone _ (by omega)
  have hlast : ∀ (fuel : Nat) (l : Array Bool) (a : Act) (w : World), l.size = ops0.size → Region.ready md ops0 l = [] → lastPost P ops0 o Q .normal a w → wpAny P md (ops0.push o) Q (fuel + 1) (l.push false) a w := by
    intro fuel l a w hl h0 h
    refine ⟨fun h1 => (by have := hend l hl h0; rw [h1] at this; cases this), fun i hi => ?_⟩
    have hin : i = ops0.size := by
      rcases Nat.lt_or_ge i ops0.size with hlt | hge
      · have := hr l i hl hlt hi
        rw [h0] at this
        cases this
      · have := hle l i hl hi
        omega
    subst hin
    refine wpOp_mono (fun a' w' h' => ?_) h
    have hdone : Region.ready md (ops0.push o) ((l.push false).setIfInBounds ops0.size true) = [] := by
      apply List.eq_nil_iff_forall_not_mem.2
      intro j hj
      obtain ⟨h1, x, hx, h2⟩ := mem_ready.1 hj
      have hjl := (Array.getElem?_eq_some_iff.1 hx).1
      simp only [Array.size_push] at hjl
      by_cases hjn : j = ops0.size
      · subst hjn
        simp only [Array.getD_eq_getD_getElem?] at h1
        rw [Array.getElem?_setIfInBounds_self_of_lt (by simp; omega)] at h1
        cases h1
      · rw [getD_set_ne _ (Ne.symm hjn), getD_push_lt (by omega)] at h1
        have hj2 : j < ops0.size := by omega
        rw [Array.getElem?_push_lt hj2] at hx
        have hx' : ops0[j]? = some x := by rw [Array.getElem?_eq_getElem hj2]; exact hx
        have : j ∈ Region.ready md ops0 l := mem_ready.2 ⟨h1, x, hx', fun e he hb => by
          have hlt := hk.before j x hx' e he hb
          have := h2 e he hb
          rw [getD_set_ne _ (by omega), getD_push_lt' (by omega)] at this
          exact this⟩
        rw [h0] at this
        cases this
    cases fuel with
    | zero => exact ⟨hdone, h'⟩
    | succ fuel => exact ⟨fun _ => h', by rw [hdone]; simp⟩
  induction fuel with
  | zero => exact fun l a w hl _ ⟨h0, h⟩ => hlast 0 l a w hl h0 h
  | succ fuel ih =>
    intro l a w hl hcl ⟨h0, h1⟩
    by_cases hz : Region.ready md ops0 l = []
    · exact hlast (fuel + 1) l a w hl hz (h0 hz)
    · refine ⟨fun h => ?_, fun i hi => ?_⟩
      · obtain ⟨i, hi⟩ := List.exists_mem_of_ne_nil _ hz
        have := hr' l i hl hi
        rw [h] at this
        cases this
      · have hin : i < ops0.size := by
          rcases Nat.lt_or_ge i ops0.size with hlt | hge
          · exact hlt
          · have : i = ops0.size := by have := hle l i hl hi; omega
            subst this
            exact absurd (hall l hl hcl hi) hz
        have e : (l.push false).setIfInBounds i true = (l.setIfInBounds i true).push false := by
          apply Array.ext_getElem?
          intro j
          by_cases hji : i = j
          · subst hji
            rw [Array.getElem?_setIfInBounds_self_of_lt (by simp; omega), Array.getElem?_push_lt (by simp; omega)]
            simp
          · rw [Array.getElem?_setIfInBounds_ne hji]
            rcases Nat.lt_trichotomy j l.size with h | h | h
            · have h2 : j < (l.setIfInBounds i true).size := by simpa using h
              rw [Array.getElem?_push_lt h, Array.getElem?_push_lt h2, ← Array.getElem?_eq_getElem h, ← Array.getElem?_eq_getElem h2, Array.getElem?_setIfInBounds_ne hji]
            · subst h
              rw [Array.getElem?_push_size]
              have : (l.setIfInBounds i true).size = l.size := by simp
              rw [← this, Array.getElem?_push_size]
            · rw [Array.getElem?_eq_none (by simp; omega), Array.getElem?_eq_none (by simp; omega)]
        rw [e]
        exact wpOp_last hk (fun a' w' h' => ih _ a' w' (by simpa using hl) (hcl.set (hr l i hl hin hi)) h') i hin a w (h1 i (hr l i hl hin hi))
/-- a region that draws its order, its last operation met behind all others -/
theorem wp_region_sink {id : Nat} {ops0 : Array Oper} {o : Oper} {S : World → Prop} {Q : Exit → Act → World → Prop} {a : Act} {w : World} (hm : P.follows .mixedOrders = true) (hk : sinkOk .any ops0 o = true) (hS : S w.drew)
    (h : S w.drew → wpAnyH P .any ops0 (lastPost P ops0 o Q) S ops0.size (Array.replicate ops0.size false) a w.drew) : (Code.region id (ops0.push o) true).wp P Q a w := by
  refine wp_region_any hm ?_
  have := wpAny_sink (P := P) (sink_of hk) ops0.size (Array.replicate ops0.size false) a w.drew (by simp) (fun j x _ hj => by
    have : (Array.replicate ops0.size false).getD j false = false := by
      simp only [Array.getD_eq_getD_getElem?, Array.getElem?_replicate]
      split <;> rfl
    rw [this] at hj
    cases hj) (wpAny_of_held _ _ _ _ (h hS))
  rw [Array.size_push, show Array.replicate (ops0.size + 1) false = (Array.replicate ops0.size false).push false by rw [Array.replicate_succ]]
  exact this
/-- the same over a region that is written out -/
theorem wp_region_sink_at {id : Nat} {l : List Oper} {o : Oper} (S : World → Prop) {Q : Exit → Act → World → Prop} {a : Act} {w : World} (hm : P.follows .mixedOrders = true) (hl : l = l.dropLast ++ [o]) (hk : sinkOk .any l.dropLast.toArray o = true) (hS : S w.drew)
    (h : S w.drew → wpAnyH P .any l.dropLast.toArray (lastPost P l.dropLast.toArray o Q) S l.dropLast.toArray.size (Array.replicate l.dropLast.toArray.size false) a w.drew) : (Code.region id l.toArray true).wp P Q a w := by
  have e : l.toArray = l.dropLast.toArray.push o := by
    rw [List.push_toArray, ← hl]
  rw [e]
  exact wp_region_sink hm hk hS h
/-- an operation that yields its value wherever S holds is taken first; its slot is given -/
theorem takeD {md : Region.Mode} {ops : Array Oper} {Q : Exit → Act → World → Prop} {S : World → Prop} (i d : Nat) {oi : Oper} {v : Value} {fuel : Nat} {listed : Array Bool} {a : Act} {w : World} (hi : ops[i]? = some oi) (hd : oi.dst = some d)
    (hs : Region.noSelect ops = true) (hf : Region.free md ops listed i = true) (hr : (Region.ready md ops listed).contains i = true)
    (hQ : ∀ c (a : Act) w, Q (.panic c) (a.put oi.dst v) w → Q (.panic c) a w) (hy : YieldsIf P ops S oi v a) (hS : S w)
    (h : wpAnyH P md ops Q S fuel (listed.setIfInBounds i true) (a.put (some d) v) w) : wpAnyH P md ops Q S (fuel + 1) listed a w :=
  wpAnyH_take hi hs hf hr hQ hy hS (by rw [hd]; exact h)
/-- append to a row that is owned, at an operation of a region that draws -/
theorem wp_append_at (d : Nat) {w : World} {o : Oper} {a : Act} {K : Act → World → Prop} {Q : Exit → Act → World → Prop} (hd : o.dst = some d) (s x : Operand) (t : TypeId) (ho : o.op = .call { callee := .builtin .append, args := #[s, x], argTypes := #[t, t] })
    (base : Nat) (e : TypeId) (i : TypeInfo) (z : Value) (size bytes : Nat) (ht : P.underlying t = some (.slice e)) (hi : P.info? e = some i) (hz : i.zero = some z) (hsize : i.size = size) (hby : i.bytes = bytes) (hzs : z.cells.size = size) (hsz : 0 < size)
    (v : Value) (n : Nat) (xs : List Value) (hs : a.eval s = v) (hown : w.ownsRow base e size v n xs)
    (ad : Addr) (m c : Nat) (news : List Value) (hx : a.eval x = .slice (some ad) m c) (hl : news.length = m * size) (hnews : ∀ j u, news[j]? = some u → w.cell? (ad.add j) = some u) (h1 : ∀ u ∈ news, u.oneCell' = true)
    (h63 : n + m ≤ maxLen) (hbytes : (n + m) * bytes ≤ 140737488355328) (hbase : base ≤ w.heap.size)
    (h : ∀ v' w', w'.ownsRow base e size v' (n + m) (xs ++ news) → w.grownBy w' v.ownBlock → (v'.ownBlock = v.ownBlock ∨ v'.ownBlock = some w.heap.size) → K (a.put (some d) v') w') : Oper.wp P o a w K Q := by
  obtain ⟨v', w', hr, h2, h3, _, h5⟩ := run_append_own_at (P := P) w base t o.type e i z size bytes ht hi hz hsize hby hzs hsz v n xs hown ad m c news hl hnews h1 h63 hbytes hbase
  unfold Oper.wp execOp
  simp only [ho, resolve, invoke, builtin, Sem.run_bind, Sem.run_pure, Result.andThen_ok, List.map_toArray, List.map_cons, List.map_nil, hs, hx, hr]
  show K (a.put o.dst v') w'
  rw [hd]
  exact h v' w' h2 h3 h5
theorem lastPost_normal {ops0 : Array Oper} {o : Oper} {Q : Exit → Act → World → Prop} {a : Act} {w : World} (h : wpOp P (ops0.push o) Q ops0.size (Q .normal) a w) : lastPost P ops0 o Q .normal a w := h
end
/-! moves of a region that draws, in short -/
section
variable {P : Program}
/-- an operation that yields its value wherever S holds is taken first -/
theorem takeE {md : Region.Mode} {ops : Array Oper} {Q : Exit → Act → World → Prop} {S : World → Prop} (i d : Nat) {oi : Oper} {v : Value} {fuel : Nat} {listed : Array Bool} {a a' : Act} {w : World}
    (h : wpAnyH P md ops Q S fuel (listed.setIfInBounds i true) a' w)
    (hi : ops[i]? = some oi := by rfl) (hd : oi.dst = some d := by rfl) (hs : Region.noSelect ops = true := by kernel_rfl) (hf : Region.free md ops listed i = true := by kernel_rfl) (hr : (Region.ready md ops listed).contains i = true := by kernel_rfl)
    (hQ : ∀ c (a : Act) w, Q (.panic c) (a.put oi.dst v) w → Q (.panic c) a w := by exact fun _ _ _ h => h) (hw : Region.wanted oi (yielded ops a.tmps) = true := by rfl)
    (hy : ∀ w, S w → (execOp a.eval oi).run P w = .ok (.value v) w := by (intro wq hSw; clear hSw; go_simp; try with_reducible rfl)) (hS : S w := by assumption)
    (ha : a.put (some d) v = a' := by (conv => lhs; simp only [Act.put, List.setIfInBounds_toArray, List.set_cons_zero, List.set_cons_succ])) : wpAnyH P md ops Q S (fuel + 1) listed a w :=
  takeD i d hi hd hs hf hr hQ (Or.inl ⟨hw, hy⟩) hS (ha ▸ h)
/-- the same, with facts of S -/
theorem takeF {md : Region.Mode} {ops : Array Oper} {Q : Exit → Act → World → Prop} {S : World → Prop} (i d : Nat) {oi : Oper} {v : Value} {fuel : Nat} {listed : Array Bool} {a a' : Act} {w : World} {F : World → Prop}
    (hF : ∀ w, S w → F w) (h : wpAnyH P md ops Q S fuel (listed.setIfInBounds i true) a' w)
    (hi : ops[i]? = some oi := by rfl) (hd : oi.dst = some d := by rfl) (hs : Region.noSelect ops = true := by kernel_rfl) (hf : Region.free md ops listed i = true := by kernel_rfl) (hr : (Region.ready md ops listed).contains i = true := by kernel_rfl)
    (hQ : ∀ c (a : Act) w, Q (.panic c) (a.put oi.dst v) w → Q (.panic c) a w := by exact fun _ _ _ h => h) (hw : Region.wanted oi (yielded ops a.tmps) = true := by rfl)
    (hy : ∀ w, F w → (execOp a.eval oi).run P w = .ok (.value v) w := by (intro wq hSw; go_simp; try with_reducible rfl)) (hS : S w := by assumption)
    (ha : a.put (some d) v = a' := by (conv => lhs; simp only [Act.put, List.setIfInBounds_toArray, List.set_cons_zero, List.set_cons_succ])) : wpAnyH P md ops Q S (fuel + 1) listed a w :=
  takeD i d hi hd hs hf hr hQ (Or.inl ⟨hw, fun w h => hy w (hF w h)⟩) hS (ha ▸ h)
/-- the same, with S itself as the facts -/
theorem takeS {md : Region.Mode} {ops : Array Oper} {Q : Exit → Act → World → Prop} {S : World → Prop} (i d : Nat) {oi : Oper} {v : Value} {fuel : Nat} {listed : Array Bool} {a a' : Act} {w : World}
    (h : wpAnyH P md ops Q S fuel (listed.setIfInBounds i true) a' w)
    (hi : ops[i]? = some oi := by rfl) (hd : oi.dst = some d := by rfl) (hs : Region.noSelect ops = true := by kernel_rfl) (hf : Region.free md ops listed i = true := by kernel_rfl) (hr : (Region.ready md ops listed).contains i = true := by kernel_rfl)
    (hQ : ∀ c (a : Act) w, Q (.panic c) (a.put oi.dst v) w → Q (.panic c) a w := by exact fun _ _ _ h => h) (hw : Region.wanted oi (yielded ops a.tmps) = true := by rfl)
    (hy : ∀ w, S w → (execOp a.eval oi).run P w = .ok (.value v) w := by (intro wq hSw; go_simp; try with_reducible rfl)) (hS : S w := by assumption)
    (ha : a.put (some d) v = a' := by (conv => lhs; simp only [Act.put, List.setIfInBounds_toArray, List.set_cons_zero, List.set_cons_succ])) : wpAnyH P md ops Q S (fuel + 1) listed a w :=
  takeD i d hi hd hs hf hr hQ (Or.inl ⟨hw, hy⟩) hS (ha ▸ h)
/-- an operation that is passed over -/
theorem takeU {md : Region.Mode} {ops : Array Oper} {Q : Exit → Act → World → Prop} {S : World → Prop} (i d : Nat) {oi : Oper} {fuel : Nat} {listed : Array Bool} {a a' : Act} {w : World}
    (h : wpAnyH P md ops Q S fuel (listed.setIfInBounds i true) a' w)
    (hi : ops[i]? = some oi := by rfl) (hd : oi.dst = some d := by rfl) (hs : Region.noSelect ops = true := by kernel_rfl) (hf : Region.free md ops listed i = true := by kernel_rfl) (hr : (Region.ready md ops listed).contains i = true := by kernel_rfl)
    (hQ : ∀ c (a : Act) w, Q (.panic c) (a.put oi.dst undef) w → Q (.panic c) a w := by exact fun _ _ _ h => h) (hw : Region.wanted oi (yielded ops a.tmps) = false := by rfl) (hS : S w := by assumption)
    (ha : a.put (some d) undef = a' := by (conv => lhs; simp only [Act.put, List.setIfInBounds_toArray, List.set_cons_zero, List.set_cons_succ])) : wpAnyH P md ops Q S (fuel + 1) listed a w :=
  takeD i d hi hd hs hf hr hQ (Or.inr ⟨hw, rfl⟩) hS (ha ▸ h)
/-- the one operation that is ready -/
theorem ready1 {md : Region.Mode} {ops : Array Oper} {Q : Exit → Act → World → Prop} {S : World → Prop} (i : Nat) {o : Oper} {fuel : Nat} {listed : Array Bool} {a : Act} {w : World}
    (h : ∀ K' : Act → World → Prop, Shut (∀ a w, S w → (S w → wpAnyH P md ops Q S fuel (listed.setIfInBounds i true) a w) → K' a w) → if Region.wanted o (yielded ops a.tmps) = true then Oper.wp P o a w K' Q else K' (a.put o.dst undef) w)
    (ho : ops[i]? = some o := by rfl) (hr : Region.ready md ops listed = [i] := by kernel_rfl) : wpAnyH P md ops Q S (fuel + 1) listed a w :=
  wpAnyH_ready hr (by simp) (AllReadyH.cons ho h AllReadyH.nil)
end
end Go.Proofs.YtoojmhjagipmdaaGreat
namespace Go.Proofs.YtoojmhjagipmdaaGreat
open Go.RowKit

def Trl.level (T : Trl) (v : Int) : Int := match T.why v with
  | some s => s.level
  | none => 0
def Trl.reason (T : Trl) (v : Int) : Int := match T.why v with
  | some s => s.reason
  | none => 0
def Trl.place (T : Trl) (v : Int) : Int := match T.why v with
  | some s => s.place
  | none => 0
theorem Trl.at_get {T : Trl} {v : Int} {s : TV} (h : T.at v = some s) : T.vars[v.toNat]? = some s := by
  unfold Trl.at at h
  split at h
  · exact h
  · cases h
set_option maxHeartbeats 1000000 in
theorem tr_value {O : Nat → Prop} (b : Nat) (T : Trl) (l : Int) (w : World) (h : TrAt O w b T) :
    Calls Tryz.prog 35 #[.pointer (some ⟨b, 0, none⟩), .int .i64 l] w fun e w' => e = .returned (.int .i64 (T.val l)) ∧ Below w.heap.size w w' := by
  obtain ⟨hk, gv, cv, ov, sv, h⟩ := h
  have hst := tr_state b T gv cv ov sv (litV l) w hk h
  have HV := Lib.hid (lit_var l w)
  have HSG := Lib.hid (fun W => tr_sign l W)
  obtain ⟨m, hm⟩ : ∃ m, litV l = m := ⟨_, rfl⟩
  obtain ⟨g, hg⟩ : ∃ g, litS l = g := ⟨_, rfl⟩
  have hgv := litS_abs l
  unfold Trl.val
  rw [hm] at hst HV ⊢
  rw [hg] at hgv HSG ⊢
  rcases hat : T.at (m : Int) with _ | s
  · rw [hat, stateVal_none] at hst
    have HST := Lib.hid hst
    clear hst hat h hk hm hg
    go_enter Tryz.func35, Tryz.ntmps35
    go_wp2_with fail
    refine HV.out.mono ?_
    rintro e w' ⟨rfl, rfl⟩
    go_wp2_with fail
    refine HST.out.mono ?_
    rintro e w' ⟨rfl, rfl⟩
    go_wp2_with fail
    go_ret
    exact ⟨rfl, Below.refl _ _⟩
  · rw [hat, stateVal_some] at hst
    have hget := Trl.at_get hat
    rw [Int.toNat_natCast] at hget hst
    obtain ⟨_, _, _, c3⟩ := h.var hget
    have hval := hk.each s (List.mem_of_getElem? hget)
    have hwr : IntKind.i64.wrap (s.value * g) = s.value * g := IntWalk.i64_in _ (by rcases hval with e | e | e <;> rcases hgv with f | f <;> rw [e, f] <;> omega)
    have HST := Lib.hid hst
    clear hst hat hget h hk hm hg hval hgv
    go_enter Tryz.func35, Tryz.ntmps35
    go_wp2_with fail
    refine HV.out.mono ?_
    rintro e w' ⟨rfl, rfl⟩
    go_wp2_with fail
    refine HST.out.mono ?_
    rintro e w' ⟨rfl, rfl⟩
    go_wp2_with fail
    refine wp_region_held_drew (S := fun w' => w'.cell? ⟨gv, m * 4 + 3, none⟩ = some (.int .i64 s.value)) (by kernel_rfl) c3 (fun hHeld => ?_)
    have hbD := mx_drew w
    obtain ⟨wD, hwD⟩ : ∃ x, w.drew = x := ⟨_, rfl⟩
    rw [hwD] at hHeld hbD ⊢
    clear hwD c3
    refine takeF 0 16 (fun w hSw => hSw) ?_
    refine takeF 1 17 (fun w hSw => hSw) ?_
    refine takeF 2 18 (fun w hSw => hSw) ?_
    refine takeF 3 19 (fun w hSw => hSw) ?_
    refine takeF 4 20 (fun w hSw => hSw) ?_
    refine ready1 5 (fun K hK => ?_)
    go_simp
    refine (HSG.out wD).mono ?_
    rintro e w' ⟨rfl, rfl⟩
    refine hK.out _ _ hHeld (fun hHeld1 => ?_)
    clear hK hHeld1
    refine takeF 6 22 (fun w hSw => hSw) ?_
    refine takeF 7 4 (fun w hSw => hSw) ?_
    refine wpAnyH_done (by kernel_rfl) ?_ _
    go_wp2_with fail
    go_ret
    exact ⟨rfl, hbD⟩
theorem mx_free {w : World} {b j : Nat} {cs : Array Value} {t : TypeId} (h : w.heap[b]? = some (.cells cs t (0, 0))) : w.frozen? ⟨b, j, none⟩ = false := by
  simp [World.frozen?, h]
theorem set3_below {b : Nat} {w W : World} (h : Below b w W) {g : Nat} (hg : b ≤ g) (v0 v1 v2 : Value) : Below b w (((W.setCell ⟨g, 0, none⟩ v0).setCell ⟨g, 1, none⟩ v1).setCell ⟨g, 2, none⟩ v2) :=
  ((h.setCell (p := ⟨g, 0, none⟩) hg v0).setCell (p := ⟨g, 1, none⟩) hg v1).setCell (p := ⟨g, 2, none⟩) hg v2
/-- what why returns -/
def whyVal : Option TV → Value
  | some s => .tuple #[.agg #[.int .i64 s.level, .int .i64 s.reason, .int .i64 s.place], .bool true]
  | none => .tuple #[.agg #[.int .i64 0, .int .i64 0, .int .i64 0], .bool false]
set_option maxHeartbeats 1000000 in
theorem tr_why {O : Nat → Prop} (b : Nat) (T : Trl) (v : Int) (w : World) (h : TrAt O w b T) :
    Calls Tryz.prog 57 #[.pointer (some ⟨b, 0, none⟩), .int .i64 v] w fun e w' => e = .returned (whyVal (T.why v)) ∧ Below w.heap.size w w' := by
  obtain ⟨wa, hwa⟩ : ∃ x, w.alloc (.cells #[.int .i64 0, .int .i64 0, .int .i64 0] 103) = x := ⟨_, rfl⟩
  have hba : Below w.heap.size w wa := by rw [← hwa]; exact mx_al _ _
  have hbn : wa.heap[w.heap.size]? = some (.cells #[.int .i64 0, .int .i64 0, .int .i64 0] 103 (0, 0)) := by rw [← hwa]; exact World.alloc_heap_new _ _
  have h := h.below hba
  obtain ⟨hk, gv, cv, ov, sv, h⟩ := h
  have hst := tr_state b T gv cv ov sv v wa hk h
  have e0 : wa.cell? ⟨w.heap.size, 0, none⟩ = some (.int .i64 0) := mx_cell (j := 0) hbn
  have e1 : wa.cell? ⟨w.heap.size, 1, none⟩ = some (.int .i64 0) := mx_cell (j := 1) hbn
  have e2 : wa.cell? ⟨w.heap.size, 2, none⟩ = some (.int .i64 0) := mx_cell (j := 2) hbn
  have f0 := mx_free (j := 0) hbn
  have f1 := mx_free (j := 1) hbn
  have f2 := mx_free (j := 2) hbn
  have HWA := Lib.hid hwa
  have HBA := Lib.hid hba
  clear hwa hba hbn
  unfold Trl.why
  rcases hat : T.at v with _ | s
  · rw [hat, stateVal_none] at hst
    have HST := Lib.hid hst
    clear hst hat h hk
    go_enter Tryz.func57, Tryz.ntmps57
    go_wp2_with fail
    rw [HWA.out]
    refine HST.out.mono ?_
    rintro e w' ⟨rfl, rfl⟩
    go_wp2_with fail
    refine bodyPost_ret (v := .tuple #[.agg #[.int .i64 0, .int .i64 0, .int .i64 0], .bool false]) (by simp [results, Tryz.results57, go_sem, e0, e1, e2]) rfl ⟨rfl, set3_below HBA.out (Nat.le_refl _) _ _ _⟩
  · rw [hat, stateVal_some] at hst
    have hget := Trl.at_get hat
    obtain ⟨c0, c1, c2, c3⟩ := h.var hget
    obtain ⟨n, hn⟩ : ∃ n, v.toNat = n := ⟨_, rfl⟩
    rw [hn] at hst c0 c1 c2 c3
    have HST := Lib.hid hst
    clear hst hat hget h hk hn
    by_cases hz : s.value = 0
    · have q0 : (s.value == 0) = true := by simpa using hz
      have HZ := Lib.hid hz
      simp only [hz, if_true]
      clear hz
      go_enter Tryz.func57, Tryz.ntmps57
      go_wp2_with fail
      rw [HWA.out]
      refine HST.out.mono ?_
      rintro e w' ⟨rfl, rfl⟩
      go_wp2_with fail
      refine bodyPost_ret (v := .tuple #[.agg #[.int .i64 0, .int .i64 0, .int .i64 0], .bool false]) (by simp [results, Tryz.results57, go_sem, e0, e1, e2]) rfl ⟨rfl, set3_below HBA.out (Nat.le_refl _) _ _ _⟩
    · have q0 : (s.value == 0) = false := by simpa using hz
      simp only [hz, if_false]
      have HZ := Lib.hid hz
      clear hz
      go_enter Tryz.func57, Tryz.ntmps57
      go_wp2_with fail
      rw [HWA.out]
      refine HST.out.mono ?_
      rintro e w' ⟨rfl, rfl⟩
      go_wp2_with fail
      refine bodyPost_ret (v := .tuple #[.agg #[.int .i64 s.level, .int .i64 s.reason, .int .i64 s.place], .bool true]) (by simp [results, Tryz.results57, go_sem, e0, e1, e2]) rfl ⟨rfl, set3_below HBA.out (Nat.le_refl _) _ _ _⟩
theorem tr_level {O : Nat → Prop} (b : Nat) (T : Trl) (v : Int) (w : World) (h : TrAt O w b T) :
    Calls Tryz.prog 89 #[.pointer (some ⟨b, 0, none⟩), .int .i64 v] w fun e w' => e = .returned (.tuple #[.int .i64 (T.level v), .bool (T.why v).isSome]) ∧ Below w.heap.size w w' := by
  have hc := tr_why b T v w h
  unfold Trl.level
  rcases hw : T.why v with _ | s
  · rw [hw, show whyVal none = .tuple #[.agg #[.int .i64 0, .int .i64 0, .int .i64 0], .bool false] from rfl] at hc
    have HC := Lib.hid hc
    clear hc hw
    go_enter Tryz.func89, Tryz.ntmps89
    go_wp2_with fail
    refine HC.out.mono ?_
    rintro e w' ⟨rfl, hb'⟩
    have HB' := Lib.hid hb'
    clear hb'
    go_wp2_with fail
    go_ret2
    exact ⟨rfl, HB'.out.trans ((mx_al w' _).mono HB'.out.size)⟩
  · rw [hw, show whyVal (some s) = .tuple #[.agg #[.int .i64 s.level, .int .i64 s.reason, .int .i64 s.place], .bool true] from rfl] at hc
    have HC := Lib.hid hc
    clear hc hw
    go_enter Tryz.func89, Tryz.ntmps89
    go_wp2_with fail
    refine HC.out.mono ?_
    rintro e w' ⟨rfl, hb'⟩
    have HB' := Lib.hid hb'
    clear hb'
    go_wp2_with fail
    go_ret2
    exact ⟨rfl, HB'.out.trans ((mx_al w' _).mono HB'.out.size)⟩
theorem tr_reason {O : Nat → Prop} (b : Nat) (T : Trl) (v : Int) (w : World) (h : TrAt O w b T) :
    Calls Tryz.prog 16 #[.pointer (some ⟨b, 0, none⟩), .int .i64 v] w fun e w' => e = .returned (.tuple #[.int .i64 (T.reason v), .bool (T.why v).isSome]) ∧ Below w.heap.size w w' := by
  have hc := tr_why b T v w h
  unfold Trl.reason
  rcases hw : T.why v with _ | s
  · rw [hw, show whyVal none = .tuple #[.agg #[.int .i64 0, .int .i64 0, .int .i64 0], .bool false] from rfl] at hc
    have HC := Lib.hid hc
    clear hc hw
    go_enter Tryz.func16, Tryz.ntmps16
    go_wp2_with fail
    refine HC.out.mono ?_
    rintro e w' ⟨rfl, hb'⟩
    have HB' := Lib.hid hb'
    clear hb'
    go_wp2_with fail
    go_ret2
    exact ⟨rfl, HB'.out.trans ((mx_al w' _).mono HB'.out.size)⟩
  · rw [hw, show whyVal (some s) = .tuple #[.agg #[.int .i64 s.level, .int .i64 s.reason, .int .i64 s.place], .bool true] from rfl] at hc
    have HC := Lib.hid hc
    clear hc hw
    go_enter Tryz.func16, Tryz.ntmps16
    go_wp2_with fail
    refine HC.out.mono ?_
    rintro e w' ⟨rfl, hb'⟩
    have HB' := Lib.hid hb'
    clear hb'
    go_wp2_with fail
    go_ret2
    exact ⟨rfl, HB'.out.trans ((mx_al w' _).mono HB'.out.size)⟩
theorem tr_place {O : Nat → Prop} (b : Nat) (T : Trl) (v : Int) (w : World) (h : TrAt O w b T) :
    Calls Tryz.prog 90 #[.pointer (some ⟨b, 0, none⟩), .int .i64 v] w fun e w' => e = .returned (.tuple #[.int .i64 (T.place v), .bool (T.why v).isSome]) ∧ Below w.heap.size w w' := by
  have hc := tr_why b T v w h
  unfold Trl.place
  rcases hw : T.why v with _ | s
  · rw [hw, show whyVal none = .tuple #[.agg #[.int .i64 0, .int .i64 0, .int .i64 0], .bool false] from rfl] at hc
    have HC := Lib.hid hc
    clear hc hw
    go_enter Tryz.func90, Tryz.ntmps90
    go_wp2_with fail
    refine HC.out.mono ?_
    rintro e w' ⟨rfl, hb'⟩
    have HB' := Lib.hid hb'
    clear hb'
    go_wp2_with fail
    go_ret2
    exact ⟨rfl, HB'.out.trans ((mx_al w' _).mono HB'.out.size)⟩
  · rw [hw, show whyVal (some s) = .tuple #[.agg #[.int .i64 s.level, .int .i64 s.reason, .int .i64 s.place], .bool true] from rfl] at hc
    have HC := Lib.hid hc
    clear hc hw
    go_enter Tryz.func90, Tryz.ntmps90
    go_wp2_with fail
    refine HC.out.mono ?_
    rintro e w' ⟨rfl, hb'⟩
    have HB' := Lib.hid hb'
    clear hb'
    go_wp2_with fail
    go_ret2
    exact ⟨rfl, HB'.out.trans ((mx_al w' _).mono HB'.out.size)⟩
theorem tr_now {O : Nat → Prop} (b : Nat) (T : Trl) (w : World) (h : TrAt O w b T) :
    Calls Tryz.prog 36 #[.pointer (some ⟨b, 0, none⟩)] w fun e w' => e = .returned (.int .i64 ((T.starts.length : Int) - 1)) ∧ w = w' := by
  have HIS := Lib.hid (tr_is b T w h)
  obtain ⟨hk, gv, cv, ov, sv, h⟩ := h
  obtain ⟨Ao, co, rfl, _⟩ := mx_slice h.order
  obtain ⟨As, cs, rfl, _⟩ := mx_slice h.starts
  have c1 : w.cell? ⟨b, 2, none⟩ = some (.slice As T.starts.length cs) := mx_cell (j := 2) h.block
  have hs := hk.starts
  have ho := hk.order
  clear h hk
  go_enter Tryz.func36, Tryz.ntmps36
  go_wp2_with fail
  refine HIS.out.mono ?_
  rintro e w' ⟨rfl, rfl⟩
  go_wp2_with fail
  go_ret
  exact ⟨rfl, rfl⟩
theorem tr_len {O : Nat → Prop} (b : Nat) (T : Trl) (w : World) (h : TrAt O w b T) :
    Calls Tryz.prog 55 #[.pointer (some ⟨b, 0, none⟩)] w fun e w' => e = .returned (.int .i64 (T.order.length : Int)) ∧ w = w' := by
  have HIS := Lib.hid (tr_is b T w h)
  obtain ⟨hk, gv, cv, ov, sv, h⟩ := h
  obtain ⟨Ao, co, rfl, _⟩ := mx_slice h.order
  obtain ⟨As, cs, rfl, _⟩ := mx_slice h.starts
  have c1 : w.cell? ⟨b, 1, none⟩ = some (.slice Ao T.order.length co) := mx_cell (j := 1) h.block
  have hs := hk.starts
  have ho := hk.order
  clear h hk
  go_enter Tryz.func55, Tryz.ntmps55
  go_wp2_with fail
  refine HIS.out.mono ?_
  rintro e w' ⟨rfl, rfl⟩
  go_wp2_with fail
  go_ret
  exact ⟨rfl, rfl⟩
end Go.Proofs.YtoojmhjagipmdaaGreat
