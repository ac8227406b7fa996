/- By whom a clause is watched, plainly; clauses.Has. -/
import Derived.Test.YtobcnejecogfoaaGreatRCp
import Derived.Test.YtobcnejecogfoaaGreatRKp
import Derived.Test.YtobcnejecogfoaaGreatRKs
namespace Go.Proofs.YtobcnejecogfoaaGreat
open Go.RowKit

theorem norm_len {c : List Int} (hr : ∀ x ∈ c, litB x = true) : (normL c).length = (eachL c).length :=
  ((List.perm_ext_iff_of_nodup (normL_nodup hr) (eachL_nodup c)).2 (fun _ => (normL_has hr).trans eachL_mem.symm)).length_eq
/-- what By tells -/
def Kn.bys (k : Kn) : List Int := k.lits.filter k.by_.contains
def wantN (c : List Int) : Nat := if alwL c = true ∨ (normL c).length < 2 then 0 else 2
theorem filter_two {xs : List Int} (hn : xs.Nodup) {a b : Int} (hab : a ≠ b) (ha : a ∈ xs) (hb : b ∈ xs) : xs.filter ([a, b] : List Int).contains = [a, b] ∨ xs.filter ([a, b] : List Int).contains = [b, a] := by
  have hp : (xs.filter ([a, b] : List Int).contains).Perm [a, b] := by
    refine (List.perm_ext_iff_of_nodup (hn.filter _) (by simp [hab])).2 (fun x => ?_)
    rw [List.mem_filter, List.contains_iff_mem]
    constructor
    · exact fun h => h.2
    · intro h
      refine ⟨?_, h⟩
      rcases List.mem_cons.1 h with rfl | h
      · exact ha
      · rw [List.mem_singleton.1 h]
        exact hb
  have hl := hp.length_eq
  match hf : xs.filter ([a, b] : List Int).contains, hl with
  | [u, v], _ =>
    rw [hf] at hp
    have h1 : u ∈ [a, b] := hp.mem_iff.1 List.mem_cons_self
    have h2 : v ∈ [a, b] := hp.mem_iff.1 (List.mem_cons_of_mem _ List.mem_cons_self)
    have h3 : u ≠ v := by
      have := hp.nodup_iff.2 (by simp [hab])
      simp at this
      exact this
    simp only [List.mem_cons, List.not_mem_nil, or_false] at h1 h2
    rcases h1 with rfl | rfl
    · rcases h2 with rfl | rfl
      · exact absurd rfl h3
      · exact .inl rfl
    · rcases h2 with rfl | rfl
      · exact .inr rfl
      · exact absurd rfl h3
section
variable {cs : List (List Int)} {T : Trl} {its : List RIt} {S : Wst}
/-- a clause is watched by two of its literals, or by none -/
theorem bys_ok (h : St (clsC cs) T its S) (h6 : Six cs) {id : Int} {c : List Int} {k : Kn} (hc : clsC cs id = some c) (hk : S.kn id = some k) :
    (wantN c = 0 ∧ k.bys = [] ∨ wantN c = 2 ∧ ∃ a b, k.bys = [a, b] ∧ a ≠ b ∧ a ∈ c ∧ b ∈ c) ∧ ∀ v, (S.row v).contains id = k.bys.contains v := by
  have hcb := (h6.fit id c hc).2.2
  have hr : ∀ x ∈ c, litB x = true := fun x hx => (hcb x hx).1
  obtain ⟨d, hd, hkl⟩ := h.inv.kn id k hk
  rw [hc] at hd
  obtain rfl := Option.some.inj hd
  obtain ⟨_, hby, _, _⟩ := h.inv.bnd.kn hk
  constructor
  · rcases hby with h0 | ⟨p, q, hpq, hb, hp, hq⟩
    · left
      have h2 := h.inv.two id k c hk hc h0
      rw [hkl] at h2
      refine ⟨?_, ?_⟩
      · unfold wantN
        rw [if_pos (h2.imp_right (fun h => by rw [norm_len hr]; omega))]
      · unfold Kn.bys
        rw [h0, List.filter_eq_nil_iff]
        intro x _
        simp
    · right
      have ha : alwL c = false := by
        cases hal : alwL c with
        | false => rfl
        | true =>
          have := h.inv.alw id k c hk hc hal
          rw [hb] at this
          cases this
      rw [hkl] at hp hq
      have hlen : 2 ≤ (normL c).length := by
        rw [norm_len hr]
        have : ([p, q] : List Int).length ≤ (eachL c).length := List.Nodup.length_le_of_subset (by simp [hpq]) (fun x hx => by
          rcases List.mem_cons.1 hx with rfl | hx
          · exact hp
          · rw [List.mem_singleton.1 hx]
            exact hq)
        simpa using this
      refine ⟨?_, ?_⟩
      · unfold wantN
        rw [if_neg (by rw [ha]; simp; omega)]
      · unfold Kn.bys
        rw [hkl, hb]
        rcases filter_two (eachL_nodup c) hpq hp hq with e | e
        · exact ⟨p, q, e, hpq, eachL_mem.1 hp, eachL_mem.1 hq⟩
        · exact ⟨q, p, e, hpq.symm, eachL_mem.1 hq, eachL_mem.1 hp⟩
  · intro v
    rw [Bool.eq_iff_iff, List.contains_iff_mem, List.contains_iff_mem, h.inv.link v id]
    unfold Kn.bys
    rw [List.mem_filter, List.contains_iff_mem]
    constructor
    · rintro ⟨k', hk', hv⟩
      rw [hk] at hk'
      obtain rfl := Option.some.inj hk'
      exact ⟨Kn.by_lits hby hv, hv⟩
    · exact fun h => ⟨k, hk, h.2⟩
end
set_option maxRecDepth 100000 in
theorem cls_has {O : Nat → Prop} (u : Value) (xs : List Int) (y : Int) (w : World) (hu : IntsIn O w u xs) (hr : clauseB xs = true) (hlen : xs.length ≤ 4096) (hy : y ∈ xs) :
    Calls Tryz.prog 49 #[u, .int .i64 y] w fun e w' => e = .returned (.bool true) ∧ w = w' := by
  have h1 := right_clause u xs w hu (by omega)
  rw [hr] at h1
  have h2 := contains_c u xs y w hu (by omega)
  rw [List.contains_iff_mem.2 hy] at h2
  have H1 := Lib.hid h1
  have H2 := Lib.hid h2
  obtain ⟨A, c, rfl, _⟩ := hu
  clear h1 h2
  go_enter Tryz.func49, Tryz.ntmps49
  go_wp2_with fail
  refine H1.out.mono ?_
  rintro e w' ⟨rfl, rfl⟩
  go_wp2_with fail
  refine H2.out.mono ?_
  rintro e w' ⟨rfl, rfl⟩
  go_wp2_with fail
  go_ret
  exact ⟨rfl, rfl⟩
end Go.Proofs.YtobcnejecogfoaaGreat
