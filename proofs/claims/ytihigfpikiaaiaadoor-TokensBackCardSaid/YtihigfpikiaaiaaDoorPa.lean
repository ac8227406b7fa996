/- Plain lists of bytes: what blanks, tokens and signs are, and that the longest beginning that is a token is the token; no conditions. -/
namespace Tk

/-! ### bytes -/
def letter (c : UInt8) : Bool := decide (97 ≤ c.toNat) && decide (c.toNat ≤ 122)
def digit (c : UInt8) : Bool := decide (48 ≤ c.toNat) && decide (c.toNat ≤ 57)
def blankB (c : UInt8) : Bool := c == 9 || c == 10 || c == 13 || c == 32
def part (c : UInt8) : Bool := c == 46 || c == 95 || letter c || digit c
def singleL : List UInt8 := [43, 45, 42, 47, 37, 38, 124, 94, 60, 126, 63, 58, 61, 44, 64, 40, 41, 91, 93, 123, 125]
def single (c : UInt8) : Bool := singleL.contains c
def pair (c d : UInt8) : Bool := (c == 60 && d == 60) || (c == 62 && d == 62) || (c == 61 && d == 61) || (c == 33 && d == 61) || (c == 60 && d == 61)

/-- how many bytes of blanks a text begins with; k: inside a comment -/
def bl : Bool → List UInt8 → Nat
  | _, [] => 0
  | k, c :: r => if c == 35 || k && c != 10 then 1 + bl true r else if blankB c then 1 + bl false r else 0

/-- how many bytes of a kind a text begins with -/
def run (p : UInt8 → Bool) : List UInt8 → Nat
  | [] => 0
  | c :: r => if p c then 1 + run p r else 0

def sign : List UInt8 → Nat
  | [] => 0
  | [c] => if single c then 1 else 0
  | c :: d :: _ => if pair c d then 2 else if single c then 1 else 0

/-- behind digits: a colon and a digit, and how many digits -/
def tail3 : List UInt8 → Nat
  | 58 :: d :: r => if digit d then 2 + run digit r else 0
  | _ => 0

/-- the token at the beginning: its kind and its length -/
def tok : List UInt8 → Nat × Nat
  | [] => (0, 0)
  | c :: r =>
    if letter c then (1, 1 + run part r)
    else if digit c then
      let n := 1 + run digit r
      let m := tail3 ((c :: r).drop n)
      if m = 0 then (2, n) else (3, n + m)
    else if sign (c :: r) = 0 then (0, 0) else (4, sign (c :: r))

/-! ### the reference's own -/
def numeral (l : List UInt8) : Bool := !l.isEmpty && l.all digit
def signs : List (List UInt8) := [[43], [45], [42], [47], [37], [38], [124], [94], [60, 60], [62, 62], [61, 61], [33, 61], [60], [60, 61], [126], [63], [58], [61], [44], [64], [40], [41], [91], [93], [123], [125]]
def litAt (l : List UInt8) (i : Nat) : Bool := l[i]? == some 58 && numeral (l.take i) && numeral (l.drop (i + 1))
def isLit (l : List UInt8) : Bool := (List.range l.length).any fun i => decide (1 ≤ i) && litAt l i
def kind : List UInt8 → Nat
  | [] => 0
  | c :: r => if letter c && (c :: r).all part then 1 else if numeral (c :: r) then 2 else if isLit (c :: r) then 3 else if signs.contains (c :: r) then 4 else 0
def plain (c : UInt8) : Bool := letter c || digit c || c == 95 || c == 46 || c == 58

/-- the reference's search: f more ends may be tried, the next is n -/
def best (l : List UInt8) : Nat → Nat → Nat × Nat → Nat × Nat
  | 0, _, b => b
  | f + 1, n, b =>
    let b' := if 0 < kind (l.take n) then (kind (l.take n), n) else b
    if decide (1 < n) && !(plain (l.getD (n - 1) 0)) then b' else best l f (n + 1) b'

/-! ### facts -/
theorem run_le (p : UInt8 → Bool) (l : List UInt8) : run p l ≤ l.length := by
  induction l with
  | nil => simp [run]
  | cons c r ih => simp only [run, List.length_cons]; split <;> omega

theorem bl_le (k : Bool) (l : List UInt8) : bl k l ≤ l.length := by
  induction l generalizing k with
  | nil => simp [bl]
  | cons c r ih =>
    simp only [bl, List.length_cons]
    have h1 := ih true
    have h2 := ih false
    split
    · omega
    · split <;> omega

theorem run_all (p : UInt8 → Bool) (l : List UInt8) (n : Nat) (h : n ≤ run p l) : (l.take n).all p = true := by
  induction l generalizing n with
  | nil => simp
  | cons c r ih =>
    cases n with
    | zero => simp
    | succ n =>
      simp only [run] at h
      split at h
      · rename_i hc
        simp only [List.take_succ_cons, List.all_cons, hc, Bool.true_and]
        exact ih n (by omega)
      · omega

theorem run_not (p : UInt8 → Bool) (l : List UInt8) (n : Nat) (h : run p l < n) (hn : n ≤ l.length) : (l.take n).all p = false := by
  induction l generalizing n with
  | nil => simp at hn; omega
  | cons c r ih =>
    cases n with
    | zero => omega
    | succ n =>
      simp only [run] at h
      simp only [List.take_succ_cons, List.all_cons]
      split at h
      · rename_i hc
        simp only [hc, Bool.true_and]
        exact ih n (by omega) (by simpa using hn)
      · rename_i hc
        simp [hc]

theorem run_at (p : UInt8 → Bool) (l : List UInt8) (i : Nat) (h : i < run p l) : p (l.getD i 0) = true := by
  induction l generalizing i with
  | nil => simp [run] at h
  | cons c r ih =>
    simp only [run] at h
    split at h
    · rename_i hc
      cases i with
      | zero => simpa using hc
      | succ i => simpa using ih i (by omega)
    · omega

theorem run_end (p : UInt8 → Bool) (l : List UInt8) (h : run p l < l.length) : p (l.getD (run p l) 0) = false := by
  induction l with
  | nil => simp at h
  | cons c r ih =>
    simp only [run] at h ⊢
    split
    · rename_i hc
      rw [if_pos hc] at h
      have := ih (by simp at h; omega)
      rw [Nat.add_comm]
      simpa using this
    · rename_i hc
      simpa using hc

theorem run_eq (p : UInt8 → Bool) (l : List UInt8) (n : Nat) (h1 : ∀ i, i < n → p (l.getD i 0) = true) (hn : n ≤ l.length) (h2 : n < l.length → p (l.getD n 0) = false) : run p l = n := by
  induction l generalizing n with
  | nil => simp at hn; simp [run, hn]
  | cons c r ih =>
    cases n with
    | zero =>
      have := h2 (by simp)
      simp only [run]
      simp at this
      simp [this]
    | succ n =>
      have h0 := h1 0 (by omega)
      simp at h0
      simp only [run, h0, if_true]
      rw [ih n (fun i hi => by have := h1 (i + 1) (by omega); simpa using this) (by simpa using hn) (fun h => by have := h2 (by simp; omega); simpa using this)]
      omega

theorem tail3_le (l : List UInt8) : tail3 l ≤ l.length := by
  unfold tail3
  split
  · split
    · have := run_le digit ‹List UInt8›; simp; omega
    · simp
  · simp

theorem sign_le (l : List UInt8) : sign l ≤ l.length := by
  unfold sign
  split
  · simp
  · split <;> simp
  · split
    · simp
    · split <;> simp

theorem tok_le (l : List UInt8) : (tok l).2 ≤ l.length := by
  cases l with
  | nil => simp [tok]
  | cons c r =>
    have h1 := run_le part r
    have h2 := run_le digit r
    have h3 := tail3_le ((c :: r).drop (1 + run digit r))
    have h4 := sign_le (c :: r)
    simp only [tok]
    simp only [List.length_cons, List.length_drop] at *
    split
    · simp; omega
    · split
      · split <;> simp <;> omega
      · split
        · simp
        · exact h4

theorem tok_pos (l : List UInt8) : 0 < (tok l).1 ↔ 0 < (tok l).2 := by
  cases l with
  | nil => simp [tok]
  | cons c r =>
    simp only [tok]
    split
    · simp; omega
    · split
      · split <;> simp <;> omega
      · split <;> simp <;> omega

/-! ### the reference's search finds the token -/
theorem best_past (l : List UInt8) (m : Nat) (hA : ∀ n, m < n → n ≤ l.length → kind (l.take n) = 0) (f n : Nat) (b : Nat × Nat) (hn : m < n) (hf : f + n = l.length + 1) : best l f n b = b := by
  induction f generalizing n with
  | zero => rfl
  | succ f ih =>
    simp only [best, hA n hn (by omega)]
    simp only [Nat.lt_irrefl, if_false]
    split
    · rfl
    · exact ih (n + 1) (by omega) (by omega)

theorem best_to (l : List UInt8) (m k : Nat) (hA : ∀ n, m < n → n ≤ l.length → kind (l.take n) = 0) (hB : kind (l.take m) = k) (hk : 0 < k) (hm : m ≤ l.length)
    (hC : ∀ n, 1 < n → n < m → plain (l.getD (n - 1) 0) = true) (f n : Nat) (b : Nat × Nat) (hn : n ≤ m) (hf : f + n = l.length + 1) : best l f n b = (k, m) := by
  induction f generalizing n b with
  | zero => omega
  | succ f ih =>
    simp only [best]
    by_cases he : n = m
    · subst he
      rw [hB, if_pos hk]
      split
      · rfl
      · exact best_past l n hA f (n + 1) (k, n) (by omega) (by omega)
    · by_cases h1 : 1 < n
      · rw [hC n h1 (by omega)]
        simp only [Bool.not_true, Bool.and_false, Bool.false_eq_true, if_false]
        exact ih (n + 1) _ (by omega) (by omega)
      · simp only [h1, decide_false, Bool.false_and, Bool.false_eq_true, if_false]
        exact ih (n + 1) _ (by omega) (by omega)

theorem letter_not_digit (c : UInt8) (h : letter c = true) : digit c = false := by
  simp [letter, digit] at *; omega
theorem plain_of_part (c : UInt8) (h : part c = true) : plain c = true := by
  simp [part, plain] at *
  rcases h with ((h | h) | h) | h <;> simp [h]
theorem plain_of_digit (c : UInt8) (h : digit c = true) : plain c = true := by simp [plain, h]

theorem take_cons' (c : UInt8) (r : List UInt8) (n : Nat) (h : 0 < n) : (c :: r).take n = c :: r.take (n - 1) := by
  cases n with
  | zero => omega
  | succ n => simp

theorem isLit_no (c : UInt8) (r : List UInt8) (h : digit c = false) : isLit (c :: r) = false := by
  simp only [isLit, List.any_eq_false, List.mem_range]
  intro i hi
  simp only [Bool.not_eq_true]
  cases i with
  | zero => simp
  | succ i => simp [litAt, numeral, h]

theorem numeral_no (c : UInt8) (r : List UInt8) (h : digit c = false) : numeral (c :: r) = false := by simp [numeral, h]

theorem signs_no (c : UInt8) (r : List UInt8) (h : signs.contains (c :: r) = true) : letter c = false ∧ digit c = false ∧ r.length ≤ 1 := by
  simp only [signs, List.contains_iff_mem, List.mem_cons, List.not_mem_nil, or_false, List.cons.injEq] at h
  rcases h with h | h | h | h | h | h | h | h | h | h | h | h | h | h | h | h | h | h | h | h | h | h | h | h | h | h <;> obtain ⟨rfl, rfl⟩ := h <;> decide

theorem signs_one (c : UInt8) : signs.contains [c] = single c := by
  rw [Bool.eq_iff_iff]
  simp [signs, single, singleL]
theorem signs_two (c d : UInt8) : signs.contains [c, d] = pair c d := by
  rw [Bool.eq_iff_iff]
  simp [signs, pair]
  grind

theorem kind_cons (c : UInt8) (r : List UInt8) : kind (c :: r) = if letter c && (c :: r).all part then 1 else if numeral (c :: r) then 2 else if isLit (c :: r) then 3 else if signs.contains (c :: r) then 4 else 0 := rfl
theorem kind_letter (c : UInt8) (r : List UInt8) (h : letter c = true) : kind (c :: r) = if (c :: r).all part then 1 else 0 := by
  have hd := letter_not_digit c h
  have hs : signs.contains (c :: r) = false := by
    cases hh : signs.contains (c :: r) with
    | false => rfl
    | true => have := (signs_no c r hh).1; rw [h] at this; cases this
  simp only [kind_cons, numeral_no c r hd, isLit_no c r hd, hs, h, Bool.true_and, Bool.false_eq_true, if_false]

theorem kind_digit (c : UInt8) (r : List UInt8) (h : digit c = true) : kind (c :: r) = if (c :: r).all digit then 2 else if isLit (c :: r) then 3 else 0 := by
  have hl : letter c = false := by simp [letter, digit] at *; omega
  have hs : signs.contains (c :: r) = false := by
    cases hh : signs.contains (c :: r) with
    | false => rfl
    | true => have := (signs_no c r hh).2.1; rw [h] at this; cases this
  have hn : numeral (c :: r) = (c :: r).all digit := by simp [numeral]
  simp only [kind_cons, hn, hs, hl, Bool.false_and, Bool.false_eq_true, if_false]

theorem kind_other (c : UInt8) (r : List UInt8) (h : letter c = false) (hd : digit c = false) : kind (c :: r) = if signs.contains (c :: r) then 4 else 0 := by
  simp only [kind_cons, numeral_no c r hd, isLit_no c r hd, h, Bool.false_and, Bool.false_eq_true, if_false]

/-- where a text of digits, and then no digit, is a Lit -/
theorem isLit_at (l : List UInt8) (n d : Nat) (hd : d = run digit l) (hn : n ≤ l.length) (h : d < n) : isLit (l.take n) = (decide (0 < d) && decide (l.getD d 0 = 58) && decide (d + 1 < n) && ((l.take n).drop (d + 1)).all digit) := by
  have key : ∀ i, i < n → 1 ≤ i → litAt (l.take n) i = true → i = d := by
    intro i hi h1 hl
    simp only [litAt, Bool.and_eq_true, beq_iff_eq, numeral] at hl
    obtain ⟨⟨h58, hp⟩, hq⟩ := hl
    have hi2 : l[i]? = some 58 := by rw [List.getElem?_take] at h58; simpa [hi] using h58
    have hi3 : l.getD i 0 = 58 := by rw [List.getD_eq_getElem?_getD, hi2]; rfl
    rcases Nat.lt_trichotomy i d with hlt | he | hgt
    · have := run_at digit l i (by omega)
      rw [hi3] at this
      exact absurd this (by decide)
    · exact he
    · have hall := run_not digit l i (by omega) (by omega)
      rw [List.take_take, Nat.min_eq_left (by omega)] at hp
      rw [hall] at hp
      exact absurd hp.2 (by simp)
  rw [Bool.eq_iff_iff]
  simp only [isLit, List.any_eq_true, List.mem_range, Bool.and_eq_true, decide_eq_true_eq, List.length_take]
  constructor
  · rintro ⟨i, hi, h1, hl⟩
    have he := key i (by omega) h1 hl
    subst he
    simp only [litAt, Bool.and_eq_true, beq_iff_eq, numeral] at hl
    obtain ⟨⟨h58, hp⟩, hq⟩ := hl
    have hi2 : l[i]? = some 58 := by rw [List.getElem?_take] at h58; simpa [h] using h58
    refine ⟨⟨⟨by omega, by rw [List.getD_eq_getElem?_getD, hi2]; rfl⟩, ?_⟩, hq.2⟩
    have h0 := hq.1
    simp only [Bool.not_eq_true', List.isEmpty_eq_false_iff, ne_eq, List.drop_eq_nil_iff, List.length_take] at h0
    omega
  · rintro ⟨⟨⟨h0, h58⟩, h2⟩, hq⟩
    refine ⟨d, by omega, by omega, ?_⟩
    have hlen : d < l.length := by omega
    simp only [litAt, Bool.and_eq_true, beq_iff_eq, numeral]
    refine ⟨⟨?_, ?_, ?_⟩, ?_, hq⟩
    · rw [List.getElem?_take, if_pos h]
      rw [List.getD_eq_getElem?_getD, List.getElem?_eq_getElem hlen] at h58
      rw [List.getElem?_eq_getElem hlen]
      simpa using h58
    · simp only [Bool.not_eq_true', List.isEmpty_eq_false_iff, ne_eq, List.take_eq_nil_iff]
      rintro (hh | hh | hh)
      · omega
      · omega
      · rw [hh] at hlen; simp at hlen
    · rw [List.take_take, Nat.min_eq_left (by omega)]
      exact run_all digit l d (by omega)
    · simp only [Bool.not_eq_true', List.isEmpty_eq_false_iff, ne_eq, List.drop_eq_nil_iff, List.length_take]
      omega

theorem tail3_eq (l : List UInt8) : tail3 l = if l.getD 0 0 = 58 ∧ 1 < l.length ∧ digit (l.getD 1 0) = true then 1 + run digit (l.drop 1) else 0 := by
  match l with
  | [] => simp [tail3]
  | [c] => simp [tail3]
  | c :: d :: r =>
    by_cases h : c = 58
    · subst h
      simp only [tail3]
      by_cases hd : digit d = true
      · simp [hd, run]; omega
      · simp [hd]
    · simp [tail3, h]

theorem getD_drop' (l : List UInt8) (n i : Nat) : (l.drop n).getD i 0 = l.getD (n + i) 0 := by
  simp [List.getD_eq_getElem?_getD]

theorem best_tok (l : List UInt8) : best l l.length 1 (0, 0) = tok l := by
  cases l with
  | nil => rfl
  | cons c r =>
    by_cases hl : letter c = true
    · have hp : part c = true := by simp [part, hl]
      have hr : run part (c :: r) = 1 + run part r := by simp [run, hp]
      have ht : tok (c :: r) = (1, run part (c :: r)) := by rw [hr]; simp [tok, hl]
      have hle := run_le part (c :: r)
      have hk : ∀ n, 0 < n → kind ((c :: r).take n) = if ((c :: r).take n).all part then 1 else 0 := by
        intro n hn
        rw [take_cons' c r n hn]
        exact kind_letter c _ hl
      rw [ht]
      refine best_to (c :: r) _ 1 ?_ ?_ (by omega) hle ?_ _ 1 _ (by omega) (by simp)
      · intro n h1 h2
        rw [hk n (by omega), run_not part _ n h1 h2]
        rfl
      · rw [hk _ (by omega), run_all part _ _ (Nat.le_refl _)]
        rfl
      · intro n h1 h2
        exact plain_of_part _ (run_at part _ _ (by omega))
    · by_cases hd : digit c = true
      · have hr : run digit (c :: r) = 1 + run digit r := by simp [run, hd]
        have hle := run_le digit (c :: r)
        have hk : ∀ n, 0 < n → kind ((c :: r).take n) = if ((c :: r).take n).all digit then 2 else if isLit ((c :: r).take n) then 3 else 0 := by
          intro n hn
          rw [take_cons' c r n hn]
          exact kind_digit c _ hd
        have ht : tok (c :: r) = if tail3 ((c :: r).drop (run digit (c :: r))) = 0 then (2, run digit (c :: r)) else (3, run digit (c :: r) + tail3 ((c :: r).drop (run digit (c :: r)))) := by
          rw [hr]; simp [tok, hl, hd]
        rw [ht]
        generalize hg : c :: r = l at *
        have hd0 : 0 < run digit l := by omega
        have t3 := tail3_eq (l.drop (run digit l))
        rw [getD_drop', getD_drop', List.length_drop, List.drop_drop] at t3
        simp only [Nat.add_zero] at t3
        by_cases hc : l.getD (run digit l) 0 = 58 ∧ 1 < l.length - run digit l ∧ digit (l.getD (run digit l + 1) 0) = true
        · rw [if_pos hc] at t3
          obtain ⟨h58, hlen, hdig⟩ := hc
          rw [t3, if_neg (by omega)]
          have e1 := run_le digit (l.drop (run digit l + 1))
          rw [List.length_drop] at e1
          have e2 : 1 ≤ run digit (l.drop (run digit l + 1)) := by
            rw [List.drop_eq_getElem_cons (by omega)]
            rw [List.getD_eq_getElem?_getD, List.getElem?_eq_getElem (by omega)] at hdig
            simp only [Option.getD_some] at hdig
            simp [run, hdig]
          have lit : ∀ n, run digit l < n → n ≤ l.length → isLit (l.take n) = (decide (run digit l + 1 < n) && ((l.drop (run digit l + 1)).take (n - (run digit l + 1))).all digit) := by
            intro n h1 h2
            rw [isLit_at l n _ rfl h2 h1, h58, List.drop_take]
            simp [hd0]
          refine best_to l _ 3 ?_ ?_ (by omega) (by omega) ?_ _ 1 _ (by omega) (by omega)
          · intro n h1 h2
            rw [hk n (by omega), run_not digit _ n (by omega) h2, lit n (by omega) h2, run_not digit _ _ (by omega) (by rw [List.length_drop]; omega)]
            simp
          · rw [hk _ (by omega), run_not digit _ _ (by omega) (by omega), lit _ (by omega) (by omega), run_all digit _ _ (by omega)]
            simp
            omega
          · intro n h1 h2
            by_cases h3 : n - 1 < run digit l
            · exact plain_of_digit _ (run_at digit _ _ h3)
            · by_cases h4 : n - 1 = run digit l
              · rw [h4, h58]; decide
              · have := run_at digit (l.drop (run digit l + 1)) (n - 1 - (run digit l + 1)) (by omega)
                rw [getD_drop', show run digit l + 1 + (n - 1 - (run digit l + 1)) = n - 1 by omega] at this
                exact plain_of_digit _ this
        · rw [if_neg hc] at t3
          rw [if_pos t3]
          refine best_to l _ 2 ?_ ?_ (by omega) (by omega) ?_ _ 1 _ (by omega) (by omega)
          · intro n h1 h2
            rw [hk n (by omega), run_not digit _ n (by omega) h2]
            have : isLit (l.take n) = false := by
              rw [isLit_at l n _ rfl h2 h1]
              rw [Bool.eq_false_iff]
              intro hh
              simp only [Bool.and_eq_true, decide_eq_true_eq] at hh
              obtain ⟨⟨⟨_, h58⟩, h6⟩, h7⟩ := hh
              refine hc ⟨h58, by omega, ?_⟩
              rw [List.drop_take, List.drop_eq_getElem_cons (by omega), take_cons' _ _ _ (by omega)] at h7
              simp only [List.all_cons, Bool.and_eq_true] at h7
              rw [List.getD_eq_getElem?_getD, List.getElem?_eq_getElem (by omega)]
              exact h7.1
            rw [this]
            simp
          · rw [hk _ (by omega), run_all digit _ _ (Nat.le_refl _)]
            simp
          · intro n h1 h2
            exact plain_of_digit _ (run_at digit _ _ (by omega))
      · have hl' : letter c = false := by simpa using hl
        have hd' : digit c = false := by simpa using hd
        have hk : ∀ n, 0 < n → kind ((c :: r).take n) = if signs.contains ((c :: r).take n) then 4 else 0 := by
          intro n hn
          rw [take_cons' c r n hn]
          exact kind_other c _ hl' hd'
        have h3 : ∀ n, 2 < n → n ≤ (c :: r).length → kind ((c :: r).take n) = 0 := by
          intro n hn hle
          rw [hk n (by omega)]
          have : signs.contains ((c :: r).take n) = false := by
            cases hh : signs.contains ((c :: r).take n) with
            | false => rfl
            | true =>
              rw [take_cons' c r n (by omega)] at hh
              have := (signs_no _ _ hh).2.2
              simp at this hle
              omega
          rw [this]; rfl
        have ht : tok (c :: r) = if sign (c :: r) = 0 then (0, 0) else (4, sign (c :: r)) := by simp [tok, hl', hd']
        have k1 : kind ((c :: r).take 1) = if single c then 4 else 0 := by
          rw [hk 1 (by omega)]
          simp only [List.take_succ_cons, List.take_zero, signs_one]
        rw [ht]
        cases r with
        | nil =>
          by_cases hs : single c = true
          · simp only [sign, hs, if_true, Nat.succ_ne_zero, if_false]
            refine best_to [c] 1 4 (fun n h1 h2 => by simp at h2; omega) (by rw [k1, if_pos hs]) (by omega) (by simp) (fun n h1 h2 => by omega) _ 1 _ (by omega) (by simp)
          · simp only [sign, hs, Bool.false_eq_true, if_false, if_true]
            refine best_past [c] 0 (fun n h1 h2 => ?_) _ 1 _ (by omega) (by simp)
            obtain rfl : n = 1 := by simp at h2; omega
            rw [k1, if_neg hs]
        | cons d r =>
          have k2 : kind ((c :: d :: r).take 2) = if pair c d then 4 else 0 := by
            rw [hk 2 (by omega)]
            simp only [List.take_succ_cons, List.take_zero, signs_two]
          by_cases hp : pair c d = true
          · simp only [sign, hp, if_true, Nat.succ_ne_zero, if_false]
            exact best_to (c :: d :: r) 2 4 h3 (by rw [k2, if_pos hp]) (by omega) (by simp) (fun n h1 h2 => by omega) _ 1 _ (by omega) (by simp)
          · have h2 : ∀ n, 1 < n → n ≤ (c :: d :: r).length → kind ((c :: d :: r).take n) = 0 := by
              intro n h1 hle
              by_cases h : n = 2
              · subst h; rw [k2, if_neg hp]
              · exact h3 n (by omega) hle
            by_cases hs : single c = true
            · simp only [sign, hp, hs, Bool.false_eq_true, if_true, Nat.succ_ne_zero, if_false]
              exact best_to (c :: d :: r) 1 4 h2 (by rw [k1, if_pos hs]) (by omega) (by simp) (fun n h1 h2 => by omega) _ 1 _ (by omega) (by simp)
            · simp only [sign, hp, hs, Bool.false_eq_true, if_false, if_true]
              refine best_past (c :: d :: r) 0 (fun n h1 h2' => ?_) _ 1 _ (by omega) (by simp)
              by_cases h : n = 1
              · subst h; rw [k1, if_neg hs]
              · exact h2 n (by omega) h2'
end Tk
