/- Plain: a clause in normal form. -/
import Derived.Test.YtobcnejecogfoaaGreatQ09
namespace Go.Proofs.YtobcnejecogfoaaGreat
open Go.RowKit Go.Sort

theorem sortL_pair (xs : List Int) : (sortL xs).Pairwise (fun a b => (!(Go.Proofs.ltOf litC) b a) = true) := by
  unfold sortL
  refine List.pairwise_mergeSort (fun a b c h1 h2 => ?_) (fun a b => ?_) xs
  · simp only [Bool.not_eq_true'] at *
    exact ltC_swo.ntrans c b a h2 h1
  · cases hab : Go.Proofs.ltOf litC b a
    · simp
    · cases hba : Go.Proofs.ltOf litC a b
      · simp
      · have := ltC_swo.trans _ _ _ hab hba
        rw [ltC_swo.irrefl] at this
        cases this
theorem onceL_pair {l : Int} {xs : List Int} (hr : ∀ x ∈ xs, litB x = true) (hp : xs.Pairwise (fun a b => litI a ≤ litI b)) (hl : l = 0 ∨ (litB l = true ∧ ∀ x ∈ xs, litI l ≤ litI x)) : (onceL l xs).Pairwise (fun a b => litI a < litI b) ∧ (litB l = true → ∀ x ∈ onceL l xs, litI l < litI x) := by
  induction xs generalizing l with
  | nil => exact ⟨List.Pairwise.nil, fun _ x hx => by cases hx⟩
  | cons z r ih =>
    obtain ⟨hz, hpr⟩ := List.pairwise_cons.1 hp
    have hrz := hr z List.mem_cons_self
    have hrr : ∀ x ∈ r, litB x = true := fun x hx => hr x (List.mem_cons_of_mem _ hx)
    unfold onceL
    split
    · exact ih hrr hpr (hl.imp_right (fun h => ⟨h.1, fun x hx => h.2 x (List.mem_cons_of_mem _ hx)⟩))
    · rename_i hne
      obtain ⟨i1, i2⟩ := ih (l := z) hrr hpr (.inr ⟨hrz, hz⟩)
      refine ⟨List.pairwise_cons.2 ⟨fun x hx => i2 hrz x hx, i1⟩, fun hlb x hx => ?_⟩
      have hlz : litI l < litI z := by
        rcases hl with rfl | ⟨h1, h2⟩
        · cases hlb
        · have h3 := h2 z List.mem_cons_self
          have h4 : litI l ≠ litI z := fun e => hne (litI_inj h1 hrz e).symm
          omega
      rcases List.mem_cons.1 hx with rfl | hx
      · exact hlz
      · have := i2 hrz x hx
        omega
theorem normL_pair {xs : List Int} (hr : ∀ x ∈ xs, litB x = true) : (normL xs).Pairwise (fun a b => litI a < litI b) := by
  have hrs : ∀ x ∈ sortL xs, litB x = true := fun x hx => hr x (sortL_mem.1 hx)
  refine (onceL_pair hrs ?_ (.inl rfl)).1
  refine List.Pairwise.imp_of_mem (fun {a b} ha hb h => ?_) (sortL_pair xs)
  have h2 : ¬ Go.Proofs.ltOf litC b a = true := by simpa using h
  rw [ltC_iff] at h2
  simp only [hrs a ha, hrs b hb, true_and, not_or] at h2
  have := h2.2.1
  omega
theorem onceL_has {x : Int} {xs : List Int} : ∀ {l : Int}, x ∈ xs → x = l ∨ x ∈ onceL l xs := by
  induction xs with
  | nil => intro l h; cases h
  | cons z r ih =>
    intro l h
    unfold onceL
    by_cases hz : z = l
    · rw [if_pos hz]
      rcases List.mem_cons.1 h with rfl | h
      · exact .inl hz
      · exact ih h
    · rw [if_neg hz]
      rcases List.mem_cons.1 h with rfl | h
      · exact .inr List.mem_cons_self
      · rcases ih (l := z) h with rfl | h
        · exact .inr List.mem_cons_self
        · exact .inr (List.mem_cons_of_mem _ h)
theorem normL_has {x : Int} {xs : List Int} (hr : ∀ x ∈ xs, litB x = true) : x ∈ normL xs ↔ x ∈ xs := by
  refine ⟨normL_mem, fun h => ?_⟩
  rcases onceL_has (l := 0) (sortL_mem.2 h) with e | e
  · have := (litB_iff x).1 (hr x h)
    omega
  · exact e
theorem normL_nodup {xs : List Int} (hr : ∀ x ∈ xs, litB x = true) : (normL xs).Nodup := (normL_pair hr).imp (fun h e => by rw [e] at h; omega)
end Go.Proofs.YtobcnejecogfoaaGreat
