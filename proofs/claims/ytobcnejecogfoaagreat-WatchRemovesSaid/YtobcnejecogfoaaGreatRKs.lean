/- A literal that is made, at a row that lies there; decisions and what has no reason. -/
import Derived.Test.YtobcnejecogfoaaGreatRKr
import Derived.Test.YtobcnejecogfoaaGreatRKo
namespace Go.Proofs.YtobcnejecogfoaaGreat
open Go.RowKit

theorem made_row (n : Int) (g : Nat) (w : World) (h : w.cell? ⟨g, 0, none⟩ = some (.int .i8 n)) (hn : (Lit.int .i8 n).wf = true) :
    Calls Tryz.prog 20 #[.slice (some ⟨g, 0, none⟩) 1 1] w fun e w' => ∃ y c, e = .returned (.slice (some ⟨y, 0, none⟩) 1 c) ∧ 1 ≤ c ∧ w'.cell? ⟨y, 0, none⟩ = some (.int .i64 (madeLit n)) ∧ Below w.heap.size w w' := by
  have hr : RowAt .i8 w (.slice (some ⟨g, 0, none⟩) 1 1) [n] := ⟨some ⟨g, 0, none⟩, 1, rfl, Nat.le_refl _, by decide, (fun h => by cases h), (fun m hm => by rw [List.mem_singleton.1 hm]; exact hn), fun i x hi => ⟨g, 0, rfl, World.block_lt_of_cell? w _ h, by
    match i, hi with
    | 0, hi =>
      obtain rfl : n = x := by simpa using hi
      exact h⟩⟩
  refine (made_any _ [n] _ hr).mono ?_
  rintro e w' ⟨v, rfl, ho, hb⟩
  obtain ⟨y, c, cs, rfl, hc, _, _, hg, hx⟩ := mx_some ho (by simp [madeL])
  exact ⟨y, c, rfl, hc, mx_at ho rfl, hb⟩
section
variable {cs : List (List Int)} {T : Trl} {its : List RIt} {S : Wst} {w0 w : World} {lab : Nat → Nat} {b ab tb : Nat}
theorem run_dec2 (h : Lw w0 w lab b ab tb (addAll arn0 0 cs) T S) (hr : Run cs T its S) (h6 : Six cs) {l : Int} (hl : litB l = true ∧ litV l < 7) (hn : T.now ≤ 1000) :
    Calls Tryz.prog 19 #[.pointer (some ⟨b, 0, none⟩), .pointer (some ⟨tb, 0, none⟩), .int .i64 l] w fun e w' => ∃ R its', e = .returned (.tuple #[.int .i64 (R.2.2.getD 0), .bool true]) ∧ DecO cs T its S l R its' ∧ (PL T → PL R.1) ∧ (∀ id, R.2.2 = some id → id ≠ 0) ∧ LwNext w0 w w' lab b ab tb (addAll arn0 0 cs) R.1 R.2.1 := by
  obtain ⟨its', hd⟩ := dec_step hr h6 hl
  have hid : ∀ id, (propW (addAll arn0 0 cs) (decT T l) S).2.2 = some id → 1 ≤ id := fun id he => by
    obtain ⟨c, hc, _⟩ := hd.bad id he
    exact (h6.fit id c hc).1.1
  refine (law_decide l h hr.st.sim hr.st.vars hr.st.inv.link hl (by have := now_eq (T := T); omega) hid).mono ?_
  rintro e w' ⟨rfl, hx⟩
  exact ⟨_, its', rfl, hd, fun hp => hp.decT hr l, fun id he => by have := hid id he; omega, hx⟩
end
end Go.Proofs.YtobcnejecogfoaaGreat
