/- Plain lists of bytes: a text of tokens with blanks between them has these tokens. -/
import Derived.Test.YtihigfpikiaaiaaDoorPa
namespace Tk

/-- what may follow a token: nothing, a blank, or a comment -/
def stops : List UInt8 → Bool
  | [] => true
  | c :: _ => c == 32 || c == 10 || c == 9 || c == 35
/-- a gap: blanks, whole -/
def Gap (g : List UInt8) : Prop := ∀ r, bl false (g ++ r) = g.length + bl false r
/-- a word: a token that stands alone where blanks follow -/
def Word (w : List UInt8) (k : Nat) : Prop := 1 ≤ k ∧ k ≤ 4 ∧ 1 ≤ w.length ∧ (∀ r, stops r = true → tok (w ++ r) = (k, w.length)) ∧ ∀ r, bl false (w ++ r) = 0
def flat : List (List UInt8 × List UInt8) → List UInt8
  | [] => []
  | (g, w) :: ps => g ++ (w ++ flat ps)
def Good : List (List UInt8 × List UInt8) → Prop
  | [] => True
  | (g, w) :: ps => Gap g ∧ (∃ k, Word w k) ∧ stops (flat ps) = true ∧ Good ps
/-- where the words stand -/
def posOf : Nat → List (List UInt8 × List UInt8) → List Nat
  | _, [] => []
  | a, (g, w) :: ps => (a + g.length) :: posOf (a + g.length + w.length) ps

/-! ### the words of the law -/
def wordsL : List (List UInt8) := [[97], [120, 95, 49], [112, 46, 121], [119, 104, 105, 108, 101], [122, 57, 46]]
def numsL : List (List UInt8) := [[48], [49, 50], [48, 48, 55], [57, 57, 57, 57, 57, 57, 57, 57, 57, 57, 57, 57]]
def litsL : List (List UInt8) := [[49, 58, 52], [48, 58, 49, 54], [49, 53, 58, 52]]
def signsL : List (List UInt8) := [[43], [45], [42], [47], [37], [38], [124], [94], [60], [126], [63], [58], [61], [44], [64], [40], [41], [91], [93], [123], [125], [60, 60], [62, 62], [61, 61], [33, 61], [60, 61]]
theorem word_of (w : List UInt8) (k : Nat) (h1 : 1 ≤ k) (h2 : k ≤ 4) (h3 : 1 ≤ w.length) (h0 : tok w = (k, w.length)) (ha : ∀ r, tok (w ++ 32 :: r) = (k, w.length)) (hb : ∀ r, tok (w ++ 10 :: r) = (k, w.length))
    (hc : ∀ r, tok (w ++ 9 :: r) = (k, w.length)) (hd : ∀ r, tok (w ++ 35 :: r) = (k, w.length)) (hbl : ∀ r, bl false (w ++ r) = 0) : Word w k := by
  refine ⟨h1, h2, h3, fun r hr => ?_, hbl⟩
  cases r with
  | nil => rw [List.append_nil]; exact h0
  | cons c r =>
    simp only [stops, Bool.or_eq_true, beq_iff_eq] at hr
    rcases hr with ((rfl | rfl) | rfl) | rfl
    · exact ha r
    · exact hb r
    · exact hc r
    · exact hd r
set_option maxHeartbeats 2000000 in
theorem words_word : ∀ w ∈ wordsL, Word w 1 := by
  intro w hw
  simp only [wordsL, List.mem_cons, List.not_mem_nil, or_false] at hw
  rcases hw with rfl | rfl | rfl | rfl | rfl <;> exact word_of _ _ (by decide) (by decide) (by decide) (by decide) (fun _ => by simp [tok, letter, digit, run, part]) (fun _ => by simp [tok, letter, digit, run, part]) (fun _ => by simp [tok, letter, digit, run, part]) (fun _ => by simp [tok, letter, digit, run, part]) (fun _ => by simp [bl, blankB])
set_option maxHeartbeats 2000000 in
theorem nums_word : ∀ w ∈ numsL, Word w 2 := by
  intro w hw
  simp only [numsL, List.mem_cons, List.not_mem_nil, or_false] at hw
  rcases hw with rfl | rfl | rfl | rfl <;> exact word_of _ _ (by decide) (by decide) (by decide) (by decide) (fun _ => by simp [tok, letter, digit, run, tail3]) (fun _ => by simp [tok, letter, digit, run, tail3]) (fun _ => by simp [tok, letter, digit, run, tail3]) (fun _ => by simp [tok, letter, digit, run, tail3]) (fun _ => by simp [bl, blankB])
set_option maxHeartbeats 2000000 in
theorem lits_word : ∀ w ∈ litsL, Word w 3 := by
  intro w hw
  simp only [litsL, List.mem_cons, List.not_mem_nil, or_false] at hw
  rcases hw with rfl | rfl | rfl <;> exact word_of _ _ (by decide) (by decide) (by decide) (by decide) (fun _ => by simp [tok, letter, digit, run, tail3]) (fun _ => by simp [tok, letter, digit, run, tail3]) (fun _ => by simp [tok, letter, digit, run, tail3]) (fun _ => by simp [tok, letter, digit, run, tail3]) (fun _ => by simp [bl, blankB])
set_option maxHeartbeats 4000000 in
theorem signs_word : ∀ w ∈ signsL, Word w 4 := by
  intro w hw
  simp only [signsL, List.mem_cons, List.not_mem_nil, or_false] at hw
  rcases hw with rfl | rfl | rfl | rfl | rfl | rfl | rfl | rfl | rfl | rfl | rfl | rfl | rfl | rfl | rfl | rfl | rfl | rfl | rfl | rfl | rfl | rfl | rfl | rfl | rfl | rfl <;> exact word_of _ _ (by decide) (by decide) (by decide) (by decide) (fun _ => by simp [tok, letter, digit, sign, pair, single, singleL]) (fun _ => by simp [tok, letter, digit, sign, pair, single, singleL]) (fun _ => by simp [tok, letter, digit, sign, pair, single, singleL]) (fun _ => by simp [tok, letter, digit, sign, pair, single, singleL]) (fun _ => by simp [bl, blankB])
end Tk
