/- MinimTells: WHATEVER THE INPUT, the call returns true and the input reads as it did. -/
import Derived.Test.YtiodfolcnnkdjaaGreatZf
import Derived.Test.YtiodfolcnnkdjaaGreatUh
import Derived.Deep.Slices
import Derived.Deep.Fields
import Derived.ChangeSame
namespace Go.Proofs.YtiodfolcnnkdjaaGreat.minimTellsDone
open Go.ChangeShapes Go.WideShapes Go.ChangeAt Go.RowKit

theorem choose_all {α : Type} {P : Nat → α → Prop} (n : Nat) (h : ∀ i, i < n → ∃ x, P i x) : ∃ l : List α, l.length = n ∧ ∀ i x, l[i]? = some x → P i x := by
  induction n with
  | zero => exact ⟨[], rfl, fun i x hx => by simp at hx⟩
  | succ n ih =>
    obtain ⟨l, hl, hp⟩ := ih (fun i hi => h i (by omega))
    obtain ⟨x, hx⟩ := h n (by omega)
    refine ⟨l ++ [x], by simp [hl], fun i y hy => ?_⟩
    rcases Nat.lt_or_ge i l.length with hi | hi
    · rw [List.getElem?_append_left hi] at hy
      exact hp i y hy
    · have hlt := (List.getElem?_eq_some_iff.1 hy).1
      rw [List.length_append, List.length_singleton] at hlt
      have hin : i = l.length := by omega
      subst hin
      rw [List.getElem?_append_right (Nat.le_refl _), Nat.sub_self] at hy
      obtain rfl := Option.some.inj hy
      rw [hl]
      exact hx
/-- a slice of structs of a bool and two integers -/
theorem open_acts {P : Program} {H : Type} {enc : TypeId × Value → H} {W : World} {base : Nat} {t e : TypeId} {f0 f1 f2 : Field} {v : Value} {d : DataW H} {p : List MemPlace} (ht : P.underlying t = some (.slice e)) (he : P.underlying e = some (.struct #[f0, f1, f2])) (ce : P.cellsOf e = 3)
    (o0 : f0.offset = 0) (o1 : f1.offset = 1) (o2 : f2.offset = 2) (c0 : P.cellsOf f0.type = 1) (c1 : P.cellsOf f1.type = 1) (c2 : P.cellsOf f2.type = 1) (u0 : P.underlying f0.type = some .bool)
    (u1 : P.underlying f1.type = some (.int .i64)) (u2 : P.underlying f2.type = some (.int .i64))
    (hval : Value.okWide P W .any base t v) (h : DataW.Trod enc P W 0 (fun _ => true) true t v d p) : ∃ al, ActsIn W v al := by
  obtain ⟨a1, len, cap, rfl⟩ := okWide_slice ht hval
  obtain ⟨fuel, hf⟩ := h
  rcases Go.Deep.open_slice ht hf with ⟨hcs, _⟩ | ⟨a, len', cap', m, n, D, Pl, hcs, _, hl, hm, hmm, _, hi⟩
  · simp only [Value.cells, List.cons.injEq, Value.slice.injEq, and_true] at hcs
    obtain ⟨rfl, rfl, rfl⟩ := hcs
    exact ⟨[], ActsIn.nil _⟩
  · simp only [Value.cells, List.cons.injEq, Value.slice.injEq, and_true] at hcs
    obtain ⟨rfl, rfl, rfl⟩ := hcs
    simp only [if_true] at hmm
    have hall : ∀ i, i < len → ∃ c : ActP, ∃ g o, some a = some (⟨g, o, none⟩ : Addr) ∧ g < W.heap.size ∧ W.cell? ⟨g, o + i * 3, none⟩ = some (.bool c.push) ∧ W.cell? ⟨g, o + i * 3 + 1, none⟩ = some (.int .i64 c.l) ∧ W.cell? ⟨g, o + i * 3 + 2, none⟩ = some (.int .i64 c.by_) := by
      intro i hil
      obtain ⟨cs', hc, htr⟩ := hi i (by omega)
      obtain ⟨xs, n', _, _, hlen, hxl, hg⟩ := DataW.trod_struct he htr
      obtain ⟨_, hcl, hat⟩ := World.cells?_some hc
      rw [ce] at hlen hat hcl
      obtain ⟨cs0, hc0, _⟩ := hi 0 (by omega)
      obtain ⟨_, hcl0, hat0⟩ := World.cells?_some hc0
      rw [ce] at hcl0 hat0
      have kz := (hat0 0 (by omega)).trans (List.getElem?_eq_getElem (by omega))
      rw [Go.Deep.add_add, Nat.zero_mul, Nat.add_zero] at kz
      match cs', hlen with
      | [w0, w1, w2], _ =>
        have g0 := hg 0 f0 rfl
        have g1 := hg 1 f1 rfl
        have g2 := hg 2 f2 rfl
        rw [o0, c0] at g0
        rw [o1, c1] at g1
        rw [o2, c2] at g2
        have x0 : xs[0]? = some (xs[0]'(by rw [hxl]; show 0 < 3; omega)) := List.getElem?_eq_getElem _
        have x1 : xs[1]? = some (xs[1]'(by rw [hxl]; show 1 < 3; omega)) := List.getElem?_eq_getElem _
        have x2 : xs[2]? = some (xs[2]'(by rw [hxl]; show 2 < 3; omega)) := List.getElem?_eq_getElem _
        obtain ⟨bf, hb, _⟩ := DataW.trod_bool u0 (g0.trans x0)
        obtain rfl : w0 = .bool bf := by simpa using hb
        obtain ⟨n1, h1, _⟩ := DataW.trod_int u1 (g1.trans x1)
        obtain rfl : w1 = .int .i64 n1 := by simpa using h1
        obtain ⟨n2, h2, _⟩ := DataW.trod_int u2 (g2.trans x2)
        obtain rfl : w2 = .int .i64 n2 := by simpa using h2
        have k0 := hat 0 (by omega)
        have k1 := hat 1 (by omega)
        have k2 := hat 2 (by omega)
        rw [Go.Deep.add_add] at k0 k1 k2
        obtain ⟨g, o, rfl⟩ := add_form kz
        rw [addr_add2] at k0 k1 k2
        refine ⟨⟨bf, n1, n2⟩, g, o, rfl, World.block_lt_of_cell? W _ k0, ?_, ?_, ?_⟩
        · simpa using k0
        · simpa [Nat.add_assoc] using k1
        · simpa [Nat.add_assoc] using k2
    obtain ⟨al, hlal, hp⟩ := choose_all len hall
    exact ⟨al, some a, cap, by rw [hlal], hp⟩
theorem cls_of_rows {W : World} {v : Value} {xss : List (List Int)} (h : RowsAt .i64 W v xss) : ClsAt W v xss := by
  obtain ⟨A, c, hv, _, _, _, hx⟩ := h
  refine ⟨A, c, hv, fun i xs hi => ?_⟩
  obtain ⟨g, o, u, h1, h2, h3, h4⟩ := hx i xs hi
  exact ⟨g, o, u, h1, h2, h3, h4.ints⟩
set_option maxRecDepth 100000 in
theorem lifted (os : Os) (started : os.Started) (H : Type) (enc : TypeId × Value → H) :
    ReturnsInHanded {} Tryz.checked os 3 .any (Rows.minimTellsSpec.pre6 enc Tryz.prog Tryz.f3 Rows.minimTellsRow.domain false)
      (Rows.minimTellsSpec.post enc Tryz.prog Tryz.f3 false true false false) := by
  refine returnsInHanded_of_change (C := Tryz.checked) own started (by kernel_rfl) Tryz.func3
    (ChangeSpec.witness6 (enc := enc) (C := Tryz.checked) false ⟨#[], #[.int .i64 0, .slice none 0 0, .slice none 0 0, .int .i64 0, .int .i64 0, .slice none 0 0], []⟩ 8 (by kernel_rfl) (by kernel_rfl) (by kernel_rfl) (by kernel_rfl)) ?_
  intro W base args ds gs before hval0 hW _ _
  have hval : ∀ (j : Nat) t v, Tryz.f3.params[j]? = some t → args[j]? = some v → Value.okWide Tryz.prog W .any base t v := hval0
  have hW' := hW
  have hlt : ∀ p ∈ before, p.block < W.heap.size := fun p hp => hW.lt p hp
  obtain ⟨p, q, hA0, hV, rfl, hfz, hnd⟩ := hW
  have hA : DataW.TrodAll enc Tryz.prog W 0 (fun _ => true) true Tryz.f3.params.toList args.toList ds p := hA0
  have hAk := hA
  rw [Tryz.params3] at hA hval
  obtain ⟨v0, vs0, d0, ds0, p0, q0, hargs, rfl, rfl, h0, r0⟩ := trodAll_cons hA
  obtain ⟨v1, vs1, d1, ds1, p1, q1, rfl, rfl, rfl, h1, r1⟩ := trodAll_cons r0
  obtain ⟨v2, vs2, d2, ds2, p2, q2, rfl, rfl, rfl, h2, r2⟩ := trodAll_cons r1
  obtain ⟨v3, vs3, d3, ds3, p3, q3, rfl, rfl, rfl, h3, r3⟩ := trodAll_cons r2
  obtain ⟨v4, vs4, d4, ds4, p4, q4, rfl, rfl, rfl, h4, r4⟩ := trodAll_cons r3
  obtain ⟨v5, vs5, d5, ds5, p5, q5, rfl, rfl, rfl, h5, r5⟩ := trodAll_cons r4
  obtain ⟨rfl, rfl, rfl⟩ := trodAll_nil r5
  obtain rfl : args = #[v0, v1, v2, v3, v4, v5] := by cases args; simp_all
  obtain ⟨rfl, rfl⟩ := trodVars_none hV
  obtain ⟨a0, rfl, rfl, rfl, _⟩ := open_int Tryz.underlying3 (hval 0 3 v0 rfl rfl) h0
  obtain ⟨l1, f1⟩ := open_rows Tryz.underlying22 Tryz.underlying25 Tryz.underlying31 (by kernel_rfl) (by kernel_rfl) (hval 1 22 v1 rfl rfl) h1
  obtain ⟨l2, f2⟩ := open_acts Tryz.underlying23 Tryz.underlying34 (by kernel_rfl) rfl rfl rfl (by kernel_rfl) (by kernel_rfl) (by kernel_rfl) Tryz.underlying4 Tryz.underlying3 Tryz.underlying3 (hval 2 23 v2 rfl rfl) h2
  obtain ⟨a3, rfl, rfl, rfl, _⟩ := open_int Tryz.underlying3 (hval 3 3 v3 rfl rfl) h3
  obtain ⟨a4, rfl, rfl, rfl, _⟩ := open_int Tryz.underlying3 (hval 4 3 v4 rfl rfl) h4
  obtain ⟨l5, f5⟩ := open_row Tryz.underlying25 Tryz.underlying31 (by kernel_rfl) (hval 5 25 v5 rfl rfl) h5
  refine (minimTells_any a0 v1 v2 v5 l1 l2 a3 a4 l5 W (cls_of_rows f1) f2 (f5.ints.mono (fun _ _ => trivial))).mono fun e W' ⟨he, bel⟩ => ?_
  subst he
  exact ⟨_, rfl, _, _, _, [], _, [], hW', trodAll_mk1 (shut_bool Tryz.underlying4 _), trodAll_below laidOut bel (by kernel_rfl) hAk (fun x hx => hlt x (List.mem_append_left _ hx)), rfl, bel.frame _, fun h => by cases h⟩

theorem holds : Rows.MinimTellsSaid :=
  OpenClaim.holds_of_wide 3 Tryz.f3 rfl rfl rfl rfl rfl rfl rfl ⟨rfl, rfl, rfl, rfl, rfl⟩ rfl rfl rfl rfl rfl (by kernel_rfl) Tryz.func3 (by kernel_rfl)
    (of_decide_eq_true (by kernel_rfl)) (by unfold Func.isWrapper; first | (rw [if_pos (by decide +kernel)]; kernel_rfl) | (rw [if_neg (by decide +kernel)]; exact ⟨rfl, rfl⟩))
    (fun os started H enc _ => lifted os started H enc)
end Go.Proofs.YtiodfolcnnkdjaaGreat.minimTellsDone
namespace Go.Proofs.YtiodfolcnnkdjaaGreat
open Go
/-- the row of MinimTells -/
theorem minimTells_said : Rows.MinimTellsSaid := minimTellsDone.holds
#print axioms minimTells_said
end Go.Proofs.YtiodfolcnnkdjaaGreat
