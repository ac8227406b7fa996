/- Back, Delete and Add at an arena and a trail that Put made. -/
import Derived.Test.YtfbiaclpopjipaaTh
import Derived.Test.YtfbiaclpopjipaaAv
import Derived.Test.YtfbiaclpopjipaaAs
namespace Go.Proofs.Ytfbiaclpopjipaa
open Go.RowKit

theorem put_back {n : Nat} {w : World} {a b : Nat} {A : Arn} {T : Trl} (k e : Nat) (h : PutAt n w a b A T) (hk : k + 1 < T.starts.length) (he : T.starts[k + 1]? = some (e : Int)) (hel : e ≤ T.order.length) (hfit : ∀ l ∈ T.order, litV l < T.vars.length) :
    Calls Try.prog 21 #[.pointer (some ⟨b, 0, none⟩), .int .i64 (k : Int)] w fun r w' => r = .returned (.int .i64 0) ∧ PutAt n w' a b A (T.back k e) ∧ Below n w w' := by
  obtain ⟨h0, OA, OT, h1, h2, h3, h4, h5⟩ := h
  refine (tr_back b k e T w h2 hk he hel hfit).mono ?_
  rintro r w' ⟨rfl, hn⟩
  exact ⟨rfl, PutAt.trail h0 h1 h3 h4 h5 hn⟩
theorem put_del {n : Nat} {w : World} {a b : Nat} {A : Arn} {T : Trl} (id : Int) (p : Nat) (x : Ent) (h : PutAt n w a b A T) (hf : A.find id = some p) (hx : A.all[p]? = some x) (hu : x.upto - x.fr ≤ A.used) (hc : 1 ≤ A.count) (hs : A.store.length ≤ 2 * (A.used - (x.upto - x.fr)) + 64) (hl : A.all.length ≤ 2 * (A.count - 1) + 64) :
    Calls Try.prog 24 #[.pointer (some ⟨a, 0, none⟩), .int .i64 id] w fun r w' => r = .returned (.int .i64 0) ∧ PutAt n w' a b (A.del p x) T ∧ Below n w w' := by
  obtain ⟨h0, OA, OT, h1, h2, h3, h4, h5⟩ := h
  refine (ar_delete a A id p x w h1 hf hx hu hc hs hl).mono ?_
  rintro r w' ⟨rfl, hn⟩
  exact ⟨rfl, PutAt.arena h0 h2 h3 h4 h5 hn⟩
theorem put_add_ok {n : Nat} {w : World} {a b : Nat} {A : Arn} {T : Trl} {k : Nat} {O : Nat → Prop} (cv : Value) (c : List Int) (h : PutAt n w a b A T) (hl : A.Low k) (hk : k < 1000) (hc : IntsIn O w cv c) (hcl : c.length ≤ 1000) (hr : clauseB c = true) :
    Calls Try.prog 22 #[.pointer (some ⟨a, 0, none⟩), .int .i64 ((k : Int) + 1), cv] w fun e w' => e = .returned (.int .i64 0) ∧ PutAt n w' a b (A.add ((k : Int) + 1) c) T ∧ Below n w w' := by
  obtain ⟨h0, OA, OT, h1, h2, h3, h4, h5⟩ := h
  obtain ⟨l1, l2, l3, l4, l5⟩ := hl
  refine (ar_add a A ((k : Int) + 1) cv c w h1 hc hr (by omega) (by omega) (by omega) (by omega) (by omega) (by omega) (by omega)).mono ?_
  rintro r w' ⟨rfl, hn⟩
  exact ⟨rfl, PutAt.arena h0 h2 h3 h4 h5 hn⟩
end Go.Proofs.Ytfbiaclpopjipaa
