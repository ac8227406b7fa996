/- Plain: a watch that begins with some of its clauses; a clause that is added and taken away. -/
import Derived.Test.YtobcnejecogfoaaGreatRLa
namespace Go.Proofs.YtobcnejecogfoaaGreat
open Go.RowKit

section
variable {C : Int → Option (List Int)} {T : Trl} {its : List RIt} {S : Wst}
/-- what is known -/
structure BegC (C : Int → Option (List Int)) (K : Int → Bool) (T : Trl) (its : List RIt) (S : Wst) (fl : Bool) : Prop where
  st : St C T its S
  now : T.now = 0
  lk : S.looked = 0
  kn : ∀ j, (S.kn j).isSome = K j
  one : fl = false → One C (fun j => K j = true) its
  bad : fl = true → ∃ id c, C id = some c ∧ ∀ y ∈ c, Has its (-y)
  pz : PZ (fun _ => False) T
theorem begC0 (C : Int → Option (List Int)) : BegC C (fun _ => false) (trl0 6) [] ⟨[], [], 0⟩ false where
  st := st0 _
  now := rfl
  lk := rfl
  kn := fun _ => rfl
  one := fun _ id c hk => by cases hk
  bad := fun h => by cases h
  pz := ⟨[], (st0 (fun _ => none)).sim, fun x hx => by cases hx⟩
theorem BegC.kk {K K' : Int → Bool} {fl : Bool} (h : BegC C K T its S fl) (e : ∀ j, K j = K' j) : BegC C K' T its S fl := by
  obtain rfl : K = K' := funext e
  exact h
theorem BegC.next {K : Int → Bool} {fl : Bool} (h : BegC C K T its S fl) (h6 : Fit6 C) {id : Int} {c : List Int} (hc : C id = some c) (hk : K id = false) {f : Int → Int} (hff : ∀ y, litB y = true → ((0 < ofF f y ↔ Has its y) ∧ (ofF f y < 0 ↔ Has its (-y)))) :
    ∃ its', BegC C (fun j => decide (j = id) || K j) (addOk T S id c).T its' (addOk T S id c).S (fl || decide ((addOk T S id c).res = 3)) := by
  have hn : S.kn id = none := by
    have := h.kn id
    rw [hk] at this
    exact Option.isSome_eq_false_iff.1 this |> Option.isNone_iff_eq_none.1
  have hid := (h6 id c hc).1
  obtain ⟨its', h1, h2, h3, h4, h5, ho⟩ := start_step h.st h6 h.lk hc hn hff
  refine ⟨its', ⟨h1, h3.trans h.now, h4, fun j => by rw [h5, h.kn], fun hf => ?_, fun hf => ?_, addOk_pz h.pz (by omega)⟩⟩
  · rw [Bool.or_eq_false_iff] at hf
    intro j d hj hd ha hl
    by_cases e : j = id
    · subst e
      rw [hc] at hd
      obtain rfl := Option.some.inj hd
      have key : ∃ y ∈ c, Has its' y := by
        rcases ho with ⟨a1, _⟩ | ⟨_, a2, _⟩ | ⟨_, _, _, _, a5⟩ | ⟨_, _, _, a4⟩
        · rw [a1] at ha; cases ha
        · rw [a2] at hf; cases hf.2
        · exact a5
        · exact a4 hl
      obtain ⟨y, hy, hh⟩ := key
      exact ⟨y, hy, has0_now h1.sim (h3.trans h.now) hh⟩
    · have hj' : K j = true := by simpa [e] using hj
      obtain ⟨y, hy, hh⟩ := h.one hf.1 j d hj' hd ha hl
      exact ⟨y, hy, hh.pre h2⟩
  · rw [Bool.or_eq_true] at hf
    rcases hf with hf | hf
    · obtain ⟨j, d, hd, hh⟩ := h.bad hf
      exact ⟨j, d, hd, fun y hy => (hh y hy).pre h2⟩
    · have hf := of_decide_eq_true hf
      rcases ho with ⟨_, a2⟩ | ⟨_, _, _, a4⟩ | ⟨_, a2, _⟩ | ⟨_, a2, _⟩
      · rw [a2] at hf; cases hf
      · exact ⟨id, c, hc, a4⟩
      · rw [a2] at hf; cases hf
      · rw [a2] at hf; cases hf
/-- the same clauses again -/
theorem HInv.samekn {now : Int} {S' : Wst} (h : HInv C its now S) (h0 : S.looked = 0) (hb : S'.Bnd) (hL : S'.Link) (hlk : S'.looked = 0) (hkn : ∀ j, S'.kn j = S.kn j) : HInv C its now S' where
  bnd := hb
  link := hL
  kn := fun j k hk => h.kn j k ((hkn j).symm.trans hk)
  two := fun j k c hk => h.two j k c ((hkn j).symm.trans hk)
  alw := fun j k c hk => h.alw j k c ((hkn j).symm.trans hk)
  w := fun j k a _ _ p x hp => by omega
  cur := fun p x hp hx => h.cur p x (by omega) hx
  len := by omega
  rs := h.rs
theorem dropAll_looked (id : Int) (ls : List Int) : ∀ S : Wst, (S.dropAll id ls).looked = S.looked := by
  induction ls with
  | nil => exact fun _ => rfl
  | cons l r ih =>
    intro S
    refine (ih _).trans ?_
    unfold Wst.drop
    split <;> rfl
theorem remove_looked (S : Wst) (id : Int) : (S.remove id).looked = S.looked := by
  unfold Wst.remove
  split
  · rfl
  · exact (dropAll_looked _ _ S : _)
/-- added, and taken away -/
theorem addOk_kn (hb : S.Bnd) (hL : S.Link) {id : Int} {c : List Int} (hid : 1 ≤ id ∧ id ≤ 1073741824) (hc4 : c.length ≤ 4096 ∧ ∀ l ∈ c, litB l = true) (hn : S.kn id = none) :
    (addOk T S id c).S.Bnd ∧ (addOk T S id c).S.Link ∧ (addOk T S id c).S.looked = S.looked ∧ ∃ bs, ∀ j, (addOk T S id c).S.kn j = if j = id then some ⟨bs, eachL c⟩ else S.kn j := by
  unfold addOk
  split
  · obtain ⟨h1, h2⟩ := watch_none hb hL hn hid (c := eachL c) ⟨Nat.le_trans (eachL_len c) hc4.1, fun l hl => hc4.2 l (eachL_mem.1 hl)⟩
    exact ⟨h1, h2, rfl, [], fun j => Wst.kn_set hb id ⟨[], eachL c⟩ j⟩
  · obtain ⟨bs, h1, h2, h3, h4, _⟩ := addBy_ok hb hL hn hid hc4 T
    exact ⟨h1, h2, h3, bs, h4⟩
theorem addOk_T {id : Int} {c : List Int} (h : (addOk T S id c).res ≠ 2) : (addOk T S id c).T = T := by
  unfold addOk at h ⊢
  split
  · rfl
  · rename_i ha
    rw [if_neg ha] at h
    exact if_neg h
theorem gone_step (h : St C T its S) (h0 : S.looked = 0) {id : Int} {c : List Int} (hid : 1 ≤ id ∧ id ≤ 1073741824) (hc4 : c.length ≤ 4096 ∧ ∀ l ∈ c, litB l = true) (hn : S.kn id = none) :
    (∃ k, (addOk T S id c).S.kn id = some k) ∧ (addOk T S id c).S.Link ∧ ((addOk T S id c).S.remove id).kn id = none ∧ ((addOk T S id c).S.remove id).looked = 0 ∧ St C T its ((addOk T S id c).S.remove id) ∧ ∀ j, ((addOk T S id c).S.remove id).kn j = S.kn j := by
  obtain ⟨h1, h2, h3, bs, h4⟩ := addOk_kn (T := T) h.inv.bnd h.inv.link hid hc4 hn
  obtain ⟨r1, r2, r3⟩ := remove_ok h1 h2 id
  have hk : ∀ j, ((addOk T S id c).S.remove id).kn j = S.kn j := fun j => by
    rw [r3]
    split
    · rename_i e
      rw [e, hn]
    · rename_i e
      rw [h4, if_neg e]
  have hl : ((addOk T S id c).S.remove id).looked = 0 := (remove_looked _ _).trans (h3.trans h0)
  refine ⟨⟨⟨bs, eachL c⟩, by rw [h4, if_pos rfl]⟩, h2, by rw [r3, if_pos rfl], hl, ⟨h.sim, h.vars, h.sta, h.inv.samekn h0 r1 r2 hl hk⟩, hk⟩
/-- what is not known is not among what is known -/
theorem known_no {id : Int} (hn : S.kn id = none) : (S.known.map Prod.fst).contains id = false := by
  rw [← Bool.not_eq_true, List.contains_iff_mem]
  intro hm
  rw [List.mem_map] at hm
  obtain ⟨p, hp, e⟩ := hm
  subst e
  exact absurd hp (getA_none.1 hn p.2)
end
end Go.Proofs.YtobcnejecogfoaaGreat
