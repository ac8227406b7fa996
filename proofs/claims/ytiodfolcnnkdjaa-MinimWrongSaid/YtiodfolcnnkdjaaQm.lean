/- MinimWrong: the walk. -/
import Derived.Test.YtiodfolcnnkdjaaQl
import Derived.Test.YtiodfolcnnkdjaaPl
import Derived.Test.YtiodfolcnnkdjaaEt
import Derived.Deep.DeepCutAuto
import Derived.Deep.CutBlock
namespace Go.Proofs.Ytiodfolcnnkdjaa
open Go.RowKit

def wmA : List ActP := [⟨false, -1, 0⟩]
def wmT : Trl := playAll (trl0 6) wmA
def wmR : RTr := rPlayAll ⟨6, 0, [], [0]⟩ wmA
theorem wm_sim : Sim wmT wmR.items := ((tsim0 6 (by decide)).playAll wmA).sim
theorem wm_len : wmR.items.length ≤ 500000 := by decide
def wmC (z : Int) : Nat → List Int
  | 0 => [z]
  | 1 => [2]
  | 2 => [-1]
  | _ => [1, 1, 2]
theorem wm_fail0 {z : Int} (hz : litB z = false) : failE wmT (wmC z 0) = 20 := by
  unfold failE
  rw [if_pos]
  show (decide (1 ≤ 4096) && (litB z && true)) = false
  rw [hz]
  rfl
theorem wm_fail {z : Int} {k : Nat} (hk : k < 4) (h0 : k ≠ 0) : failE wmT (wmC z k) = 140 := by
  match k, hk, h0 with
  | 1, _, _ => exact (by kernel_rfl : failE wmT [2] = 140)
  | 2, _, _ => exact (by kernel_rfl : failE wmT [-1] = 140)
  | 3, _, _ => exact (by kernel_rfl : failE wmT [1, 1, 2] = 140)
theorem wm_len3 (z : Int) (k : Nat) : (wmC z k).length ≤ 3 := by
  match k with
  | 0 => exact (by decide : 1 ≤ 3)
  | 1 => exact (by decide : 1 ≤ 3)
  | 2 => exact (by decide : 1 ≤ 3)
  | n + 3 => exact (by decide : 3 ≤ 3)
theorem wm_one : failE wmT [1] = 0 := by kernel_rfl
theorem wm_two : failE wmT [1, 2] = 140 := by kernel_rfl
theorem wm_val {z : Int} (hz : litB z = false) : wmT.val z = 0 := by
  have h0 : litV z = 0 := by
    unfold litV
    rw [if_neg (by rw [hz]; decide)]
  unfold Trl.val
  rw [h0]
  rfl
/-- the arena -/
structure WmA (L : Nat) (A : Arn) : Prop where
  one : A.get ((L : Int) + 1) = some [1, 2]
  gone : ∀ j : Int, j < 1 ∨ (L : Int) + 2 ≤ j → A.get j = none
theorem wmArn {cs : List (List Int)} {L : Nat} (hL : cs.length = L) (hl : L ≤ 10) : WmA L (addAll arn0 0 (cs ++ [[1, 2]])) := by
  have hlen : (cs ++ [[1, 2]]).length = L + 1 := by rw [List.length_append, hL]; rfl
  have hget := fun j => addAll_get (cs ++ [[1, 2]]) arn0 0 inv0 (by decide) (by rw [hlen]; omega) j
  refine ⟨?_, fun j hj => ?_⟩
  · rw [(hget _).1, if_pos (by omega), show ((L : Int) + 1 - ((0 : Nat) : Int) - 1).toNat = L by omega, List.getElem?_append_right (by omega), hL, Nat.sub_self]
    rfl
  · rcases hj with hj | hj
    · exact Arn.get_low _ hj
    · refine (hget 0).2.1.gone ?_
      have := (hget 0).2.2
      rw [hlen] at this
      omega
theorem WmA.red {L : Nat} {A : Arn} (_h : WmA L A) : impl15 A wmT [1] (litV 1) = false := by
  have hr : why15 A wmT ((litV 1 : Nat) : Int) = none := by
    unfold why15
    rw [if_neg]
    have e : rightB A wmT ((litV 1 : Nat) : Int) = (rightP A wmT (-1)).isSome := by rfl
    have hg : A.get (wmT.reason (litV (-1) : Nat)) = none := A.get_low (by decide)
    have e2 : rightP A wmT (-1) = none := by
      unfold rightP
      rw [hg]
    rw [e, e2]
    decide
  have e1 : impl15 A wmT [1] ((litV 1 : Nat) : Int) = match why15 A wmT ((litV 1 : Nat) : Int) with
      | none => false
      | some r => r.2.all fun l => ([1] : List Int).contains l || imp15 A wmT [1] wmT.order.length (litV l) := rfl
  rw [hr] at e1
  exact e1
theorem hints_gone {A : Arn} {id : Int} (h : A.get id = none) : hintsP A wmT [1] id = ([], 30) := by
  unfold hintsP hintP
  rw [h, if_pos wm_one]
theorem hints_open {A : Arn} {id : Int} (h : A.get id = some [1, 2]) : hintsP A wmT [1] id = ([], 140) := by
  unfold hintsP hintP
  rw [h, if_pos wm_one]
  simp only [wm_two]
  rfl
theorem min_gone {A : Arn} {id : Int} (h : A.get id = none) : minP A wmT id = (lrn0, 30) := by
  unfold minP confP
  rw [h]
  rfl
theorem min_open {A : Arn} {id : Int} (h : A.get id = some [1, 2]) : minP A wmT id = (lrn0, 140) := by
  have e : confP A wmT id = (lrn0, 140) := by
    unfold confP
    rw [h]
    have : wmT.failMax [1, 2] 0 = none := by kernel_rfl
    simp only [this]
  unfold minP
  rw [e]
  rfl
theorem own_new1 (W : World) (xs : List Value) (t : TypeId) (h : xs.length ≤ 1000) : (W.alloc (.cells xs.toArray t)).ownsRow W.heap.size t 1 (.slice (some ⟨W.heap.size, 0, none⟩) xs.length xs.length) xs.length xs :=
  ⟨by simp, .inr ⟨W.heap.size, xs.length, xs.toArray, rfl, Nat.le_refl _, World.alloc_heap_new _ _, Nat.le_refl _, by unfold maxLen; omega, by simp, by simp⟩⟩
theorem LrnAt.zero15 {n : Nat} {w : World} {v : Value} (h : LrnAt n w v lrn0) : ∃ Ax cx Ay cy Az cz, v = .agg #[.slice Ax 0 cx, .int .i64 0, .int .i64 0, .slice Ay 0 cy, .slice Az 0 cz] := by
  obtain ⟨Ax, cx, Ay, cy, Az, cz, e, _⟩ := h.parts
  exact ⟨Ax, cx, Ay, cy, Az, cz, e⟩
theorem bad_covered {n : Nat} {w : World} {a b : Nat} {A : Arn} {T : Trl} {its : List RIt} {OC : Nat → Prop} (Ac : Option Addr) (cc : Nat) (c : List Int) (l E : Int) (h : PutAt n w a b A T) (hs : Sim T its) (hil : its.length ≤ 500000) (hc : IntsIn OC w (.slice Ac c.length cc) c) (hcl : c.length ≤ 4194304) (hE : ((failE T c : Nat) : Int) = E) (h0 : E ≠ 0) :
    Calls Try.prog 8 #[.pointer (some ⟨a, 0, none⟩), .pointer (some ⟨b, 0, none⟩), .slice Ac c.length cc, .int .i64 l] w fun e w' => e = .returned (.tuple #[.bool false, .int .i64 E]) ∧ Below w.heap.size w w' := by
  refine (put_covered Ac cc c l h hs hil hc hcl).mono ?_
  rintro e w' ⟨rfl, hb⟩
  rw [if_neg (by omega), hE]
  exact ⟨rfl, hb⟩
theorem bad_redundant {n : Nat} {w : World} {a b : Nat} {A : Arn} {T : Trl} {its : List RIt} {OC : Nat → Prop} (Ac : Option Addr) (cc : Nat) (c : List Int) (l E : Int) (h : PutAt n w a b A T) (hs : Sim T its) (hil : its.length ≤ 500000) (hc : IntsIn OC w (.slice Ac c.length cc) c) (hcl : c.length ≤ 4194304) (hE : ((failE T c : Nat) : Int) = E) (h0 : E ≠ 0) :
    Calls Try.prog 9 #[.pointer (some ⟨a, 0, none⟩), .pointer (some ⟨b, 0, none⟩), .slice Ac c.length cc, .int .i64 l] w fun e w' => e = .returned (.tuple #[.bool false, .int .i64 E]) ∧ Below w.heap.size w w' := by
  refine (put_redundant Ac cc c l h hs hil hc hcl).mono ?_
  rintro e w' ⟨rfl, hb⟩
  rw [if_neg (by omega), hE]
  exact ⟨rfl, hb⟩
theorem bad_shorten {n : Nat} {w : World} {a b : Nat} {A : Arn} {T : Trl} {its : List RIt} {OC : Nat → Prop} (Ac : Option Addr) (cc : Nat) (c : List Int) (E : Int) (h : PutAt n w a b A T) (hs : Sim T its) (hil : its.length ≤ 500000) (hc : IntsIn OC w (.slice Ac c.length cc) c) (hcl : c.length ≤ 4194304) (hE : ((failE T c : Nat) : Int) = E) (h0 : E ≠ 0) :
    Calls Try.prog 10 #[.pointer (some ⟨a, 0, none⟩), .pointer (some ⟨b, 0, none⟩), .slice Ac c.length cc] w fun e w' => (∃ Ao co, e = .returned (.tuple #[.slice Ao 0 co, .int .i64 E])) ∧ Below w.heap.size w w' := by
  refine (put_shorten Ac cc c h hs hil hc hcl).mono ?_
  rintro e w' ⟨⟨u', rfl, ho⟩, hb⟩
  rw [if_neg (by omega)] at ho
  obtain ⟨Ao, co, rfl, _⟩ := mx_slice ho
  rw [hE]
  exact ⟨⟨Ao, co, rfl⟩, hb⟩
theorem nil_hints {n : Nat} {w : World} {a b : Nat} {A : Arn} {T : Trl} {its : List RIt} {OC : Nat → Prop} (Ac : Option Addr) (cc : Nat) (c : List Int) (id : Int) (E : Nat) (h : PutAt n w a b A T) (hs : Sim T its) (hc : IntsIn OC w (.slice Ac c.length cc) c) (hcl : c.length ≤ 4194304) (hE : hintsP A T c id = ([], E)) :
    Calls Try.prog 11 #[.pointer (some ⟨a, 0, none⟩), .pointer (some ⟨b, 0, none⟩), .int .i64 id, .slice Ac c.length cc] w fun e w' => (∃ Ao co, e = .returned (.tuple #[.slice Ao 0 co, .int .i64 (E : Int)])) ∧ Below w.heap.size w w' := by
  have := put_hints Ac cc c id h hs hc hcl
  rw [hE] at this
  refine this.mono ?_
  rintro e w' ⟨⟨u', rfl, ho⟩, hb⟩
  obtain ⟨Ao, co, rfl, _⟩ := mx_slice ho
  exact ⟨⟨Ao, co, rfl⟩, hb⟩
theorem hints_bad {A : Arn} {T : Trl} {c : List Int} {id : Int} {E : Nat} (hE : failE T c = E) (h0 : E ≠ 0) : hintsP A T c id = ([], E) := by
  unfold hintsP
  rw [if_neg (by omega), hE]
theorem nil_conf {n : Nat} {w : World} {a b : Nat} {A : Arn} {T : Trl} {its : List RIt} (id : Int) (E : Nat) (h : PutAt n w a b A T) (hs : Sim T its) (hil : its.length ≤ 500000) (hE : minP A T id = (lrn0, E)) :
    Calls Try.prog 12 #[.pointer (some ⟨a, 0, none⟩), .pointer (some ⟨b, 0, none⟩), .int .i64 id] w fun e w' => (∃ Ax cx Ay cy Az cz, e = .returned (.tuple #[.agg #[.slice Ax 0 cx, .int .i64 0, .int .i64 0, .slice Ay 0 cy, .slice Az 0 cz], .int .i64 (E : Int)])) ∧ Below w.heap.size w w' := by
  have := put_minconf id h hs hil
  rw [hE] at this
  refine this.mono ?_
  rintro e w' ⟨⟨v, rfl, hv⟩, hb⟩
  obtain ⟨Ax, cx, Ay, cy, Az, cz, rfl⟩ := hv.zero15
  exact ⟨⟨Ax, cx, Ay, cy, Az, cz, rfl⟩, hb⟩
/-- the loop's rows -/
def WmRows (z : Int) (W Wl : World) : Prop := Below W.heap.size W Wl ∧ ∀ k < 4, Wl.cell? ⟨W.heap.size + 4, k, none⟩ = some (.slice (some ⟨W.heap.size + k, 0, none⟩) (wmC z k).length (wmC z k).length) ∧ W.heap.size + 4 < Wl.heap.size ∧ IntsIn (fun g => g < Wl.heap.size) Wl (.slice (some ⟨W.heap.size + k, 0, none⟩) (wmC z k).length (wmC z k).length) (wmC z k)
theorem wm_rows (z : Int) (W : World) : WmRows z W (((((W.alloc (.cells #[.int .i64 z] 26)).alloc (.cells #[.int .i64 2] 26)).alloc (.cells #[.int .i64 (-1)] 26)).alloc (.cells #[.int .i64 1, .int .i64 1, .int .i64 2] 26)).alloc (.cells #[.slice (some ⟨W.heap.size, 0, none⟩) 1 1, .slice (some ⟨W.heap.size + 1, 0, none⟩) 1 1, .slice (some ⟨W.heap.size + 1 + 1, 0, none⟩) 1 1, .slice (some ⟨W.heap.size + 1 + 1 + 1, 0, none⟩) 3 3] 28)) := by
  have hnew := World.alloc_heap_new ((((W.alloc (.cells #[.int .i64 z] 26)).alloc (.cells #[.int .i64 2] 26)).alloc (.cells #[.int .i64 (-1)] 26)).alloc (.cells #[.int .i64 1, .int .i64 1, .int .i64 2] 26)) (.cells #[.slice (some ⟨W.heap.size, 0, none⟩) 1 1, .slice (some ⟨W.heap.size + 1, 0, none⟩) 1 1, .slice (some ⟨W.heap.size + 1 + 1, 0, none⟩) 1 1, .slice (some ⟨W.heap.size + 1 + 1 + 1, 0, none⟩) 3 3] 28)
  refine ⟨((((mx_al _ _).alloc (by simp) _).alloc (by simp; omega) _).alloc (by simp; omega) _).alloc (by simp; omega) _, fun k hk => ?_⟩
  have hz : ((((W.alloc (.cells #[.int .i64 z] 26)).alloc (.cells #[.int .i64 2] 26)).alloc (.cells #[.int .i64 (-1)] 26)).alloc (.cells #[.int .i64 1, .int .i64 1, .int .i64 2] 26)).heap.size = W.heap.size + 4 := by simp
  rw [hz] at hnew
  have hcell := fun (j : Nat) => mx_cell (j := j) hnew
  refine ⟨?_, by simp, ?_⟩
  · match k, hk with
    | 0, _ => exact hcell 0
    | 1, _ => exact hcell 1
    | 2, _ => exact hcell 2
    | 3, _ => exact hcell 3
  · match k, hk with
    | 0, _ => exact ex_in15 (xs := [z]) (W := W) (by simp) (((((mx_al _ _).mono (by simp)).alloc (by simp) _).alloc (by simp) _).alloc (by simp) _)
    | 1, _ => exact ex_in15 (xs := [2]) (W := (W.alloc (.cells #[.int .i64 z] 26))) (by simp) ((((mx_al _ _).mono (by simp)).alloc (by simp) _).alloc (by simp) _)
    | 2, _ => exact ex_in15 (xs := [-1]) (W := ((W.alloc (.cells #[.int .i64 z] 26)).alloc (.cells #[.int .i64 2] 26))) (by simp) (((mx_al _ _).mono (by simp)).alloc (by simp) _)
    | 3, _ => exact ex_in15 (xs := [1, 1, 2]) (W := (((W.alloc (.cells #[.int .i64 z] 26)).alloc (.cells #[.int .i64 2] 26)).alloc (.cells #[.int .i64 (-1)] 26))) (by simp) ((mx_al _ _).mono (by simp))
theorem WmRows.later {z : Int} {W Wl w' : World} (h : WmRows z W Wl) (hb : Below Wl.heap.size Wl w') {k : Nat} (hk : k < 4) : w'.cell? ⟨W.heap.size + 4, k, none⟩ = some (.slice (some ⟨W.heap.size + k, 0, none⟩) (wmC z k).length (wmC z k).length) ∧ IntsIn (fun g => g < w'.heap.size) w' (.slice (some ⟨W.heap.size + k, 0, none⟩) (wmC z k).length (wmC z k).length) (wmC z k) := by
  obtain ⟨h1, h2, h3⟩ := h.2 k hk
  exact ⟨(hb.cell (p := ⟨_, k, none⟩) h2).trans h1, (h3.below hb).mono (fun g hg => by have := hb.size; omega)⟩
set_option maxRecDepth 100000 in
set_option maxHeartbeats 8000000 in
theorem minwrong_any (u : Value) (xss : List (List Int)) (n : Int) (w : World) (h : RowsAt .i8 w u xss) :
    Calls Try.prog 3 #[u, .int .i64 n] w fun e w' => e = .returned (.bool true) ∧ Below w.heap.size w w' := by
  obtain ⟨i0, hi, hz0, hz1, hz2⟩ := info_parts info_cls
  have HR := Lib.hid h
  have HAW := Lib.hid (awake15_any w)
  clear h
  go_enter Try.func3, Try.ntmps3
  go_wp2_with fail
  refine HAW.out.mono ?_
  rintro e w1 ⟨rfl, hb1⟩
  obtain ⟨B, hB⟩ : ∃ B, w1.heap.size = B := ⟨_, rfl⟩
  have hall := all_any u xss 10 w1 (HR.out.below hb1) (by decide)
  obtain ⟨cs, hcs⟩ : ∃ cs, (xss.take 10).map madeL = cs := ⟨_, rfl⟩
  have hcl : cs.length ≤ 10 := by rw [← hcs, List.length_map, List.length_take]; omega
  have HCB := Lib.hid (show ∀ c ∈ cs, clauseB c = true ∧ c.length ≤ 1000 from fun c hc => by
    rw [← hcs] at hc
    obtain ⟨xs, _, rfl⟩ := List.mem_map.1 hc
    exact ⟨madeL_ok xs, by
      unfold madeL
      rw [List.length_map, List.length_take]
      omega⟩)
  rw [hcs, hB, show ((10 : Nat) : Int) = 10 from rfl] at hall
  have HALL := Lib.hid hall
  have HB1 := Lib.hid hb1
  clear hall hb1 hcs HAW
  go_wp2_with fail
  refine HALL.out.mono ?_
  rintro e w2 ⟨v, rfl, hv, hb2⟩
  have HB2 := Lib.hid hb2
  have hzB : B ≤ w2.heap.size := by rw [← hB]; exact hb2.size
  obtain ⟨L, hL⟩ : ∃ L, cs.length = L := ⟨_, rfl⟩
  obtain ⟨us, hu1, hu2⟩ := hv
  have HU1 := Lib.hid hu1
  have HU2 := Lib.hid hu2
  rw [hL] at hu1 hcl
  obtain ⟨Av, cv, rfl, _⟩ := mx_slice hu1
  have HO3 := Lib.hid hu1
  clear hu1 hu2 hb2 HALL
  have hbL : Below w2.heap.size w2 ((w2.alloc (.cells #[.int .i64 1, .int .i64 2] 26)).alloc (.cells #[.slice (some ⟨w2.heap.size, 0, none⟩) 2 2] 28)) := (mx_al w2 _).alloc (by simp) _
  have ho1 := own_below (own_new1 w2 [.int .i64 1, .int .i64 2] 26 (by decide)) (mx_al _ (.cells #[.slice (some ⟨w2.heap.size, 0, none⟩) 2 2] 28))
  have hnew := cell_one_new' (w2.alloc (.cells #[.int .i64 1, .int .i64 2] 26)) (.slice (some ⟨w2.heap.size, 0, none⟩) 2 2) 28
  rw [World.size_alloc] at hnew
  have HBL := Lib.hid hbL
  have HNEW := Lib.hid hnew
  have HO1 := Lib.hid (own_mono ho1 (show B ≤ w2.heap.size by omega))
  clear hbL hnew ho1
  go_wp2_with (at_builtin; refine wpList_append_own_at _ rfl _ _ 24 rfl B 28 i0 (.slice none 0 0) 1 24 Try.underlying24 hi hz0 hz1 hz2 rfl (by decide) _ L _ rfl (own_below HO3.out HBL.out) ⟨w2.heap.size + 1, 0, none⟩ 1 1 [.slice (some ⟨w2.heap.size, 0, none⟩) 2 2] rfl rfl HNEW.out (by simp [Value.oneCell']) (by unfold maxLen; omega) (by omega) (by simp; omega) ?_; intro v4 w4 hown hgrow hnl hat)
  have happ := ClsOwn.push (xs := [1, 2]) HU1.out HU2.out HBL.out HO1.out hgrow (by rw [hL]; exact hown)
  have hb4 : Below B w2 w4 := (HBL.out.mono hzB).grown hgrow (by simp; omega) (fun g hg => (own_lt HO3.out g hg).1)
  obtain ⟨A4, c4, rfl, _⟩ := mx_slice hown
  obtain ⟨W4, hW4⟩ : ∃ x, w4.alloc (.cells #[.bool false, .int .i64 (-1), .int .i64 0] 34) = x := ⟨_, rfl⟩
  have hbA : Below w4.heap.size w4 W4 := by rw [← hW4]; exact mx_al _ _
  have hg : W4.heap[w4.heap.size]? = some (.cells (wmA.flatMap ActP.cells).toArray 34 (0, 0)) := by rw [← hW4]; exact World.alloc_heap_new _ _
  have ha1 : ActsIn W4 (.slice (some ⟨w4.heap.size, 0, none⟩) 1 1) wmA := acts_of_block (l := wmA) hg rfl (by rw [List.toList_toArray]; exact List.take_of_length_le (by decide))
  have hput := put_any 6 (.slice A4 (L + 1) c4) (.slice (some ⟨w4.heap.size, 0, none⟩) 1 1) (cs ++ [[1, 2]]) wmA W4 (by decide) (happ.cls.below hbA) ha1 (by simp; omega) (fun c hc => by
    rcases List.mem_append.1 hc with h | h
    · exact (HCB.out c h).2
    · obtain rfl := List.mem_singleton.1 h
      decide) (by decide)
  have HA := Lib.hid (wmArn hL hcl)
  obtain ⟨A, hA⟩ : ∃ A, addAll arn0 0 (cs ++ [[1, 2]]) = A := ⟨_, rfl⟩
  rw [hA, show playAll (trl0 6) wmA = wmT from rfl] at hput
  rw [hA] at HA
  have HPUT := Lib.hid hput
  have HW4 := Lib.hid hW4
  have HB4 := Lib.hid ((HB1.out.trans ((hB ▸ HB2.out : Below w1.heap.size w1 w2).mono HB1.out.size)).trans ((hb4.trans (hbA.mono (by have := hb4.size; omega))).mono (by have := HB1.out.size; omega)))
  clear hgrow hnl hat hown happ hb4 hput hA hW4 hbA hg ha1 HU1 HU2 HBL HNEW HO1 HO3 HCB HB1 HB2 hi hz0 hz1 hz2 HR hzB
  have v2 : IntKind.i64.wrap ((L : Int) + 1) = (L : Int) + 1 := IntWalk.i64_in _ (by omega)
  go_wp2_with fail
  rw [HW4.out]
  refine HPUT.out.mono ?_
  rintro e w5 ⟨a, b, rfl, hpa, hb5⟩
  have HB5 := Lib.hid (HB4.out.trans (hb5.mono HB4.out.size))
  obtain ⟨P, hP⟩ : ∃ P, W4.heap.size = P := ⟨_, rfl⟩
  rw [hP] at hpa
  have HPA := Lib.hid hpa
  clear hpa hb5 HPUT HB4 HW4 hP
  go_wp2_with fail
  refine (right_lit n w5).mono ?_
  rintro e w' ⟨rfl, rfl⟩
  go_upto_if 53 with fail
  go_cut [9] (fun s9 wx => ∃ z : Int, s9 = .int .i64 z ∧ Hid (litB z = false) ∧ Hid (wx = w5))
  case first =>
    cases hq : litB n
    · have HQ := Lib.hid hq
      clear hq
      go_wp2_with fail
      go_meet
      exact ⟨n, rfl, HQ, Lib.hid rfl⟩
    · go_wp2_with fail
      go_meet
      exact ⟨0, rfl, Lib.hid (by decide), Lib.hid rfl⟩
  case rest =>
    obtain ⟨z, rfl, HZ, HW⟩ := hcut
    obtain rfl := HW.out
    clear HW
    have v3 : IntKind.i64.wrap ((L : Int) + 1 + 1) = (L : Int) + 1 + 1 := IntWalk.i64_in _ (by omega)
    go_wp2_with fail
    obtain ⟨N0, hN0⟩ : ∃ N0, max n ((L : Int) + 1 + 1) = N0 := ⟨_, rfl⟩
    skip
    rw [hN0]
    have HGO := Lib.hid (HA.out.gone N0 (.inr (by omega)))
    clear hN0
    have hrw := wm_rows z wc
    obtain ⟨Wl, hWl⟩ : ∃ x, ((((wc.alloc (.cells #[.int .i64 z] 26)).alloc (.cells #[.int .i64 2] 26)).alloc (.cells #[.int .i64 (-1)] 26)).alloc (.cells #[.int .i64 1, .int .i64 1, .int .i64 2] 26)).alloc (.cells #[.slice (some ⟨wc.heap.size, 0, none⟩) 1 1, .slice (some ⟨wc.heap.size + 1, 0, none⟩) 1 1, .slice (some ⟨wc.heap.size + 1 + 1, 0, none⟩) 1 1, .slice (some ⟨wc.heap.size + 1 + 1 + 1, 0, none⟩) 3 3] 28) = x := ⟨_, rfl⟩
    rw [hWl] at hrw
    rw [hWl]
    have HRW := Lib.hid hrw
    have HPL := Lib.hid (HPA.out.below hrw.1)
    have HBL := Lib.hid (HB5.out.trans (hrw.1.mono HB5.out.size))
    clear hrw hWl v2 v3
    go_loopw [66] (fun iv wr => ∃ (k : Nat), k ≤ 4 ∧ iv = .int .i64 k ∧ Hid (Below Wl.heap.size Wl wr)) (fun iv _ => 4 - (intOf iv).toNat)
    case atStart => exact ⟨0, Nat.zero_le _, rfl, Lib.hid (Below.refl _ _)⟩
    case round =>
      obtain ⟨k, hk, rfl, HB⟩ := hrel
      by_cases hlt : k < 4
      · have hq : decide ((k : Int) < 4) = true := by simp; omega
        have hq1 : (0 : Int) ≤ (k : Int) := by omega
        have hq2 : (k : Int) < 4 := by omega
        obtain ⟨c0, hin⟩ := HRW.out.later HB.out hlt
        have HIN := Lib.hid hin
        have HF0 := Lib.hid (fun (h : k = 0) => (by rw [h]; exact wm_fail0 HZ.out : failE wmT (wmC z k) = 20))
        have HF1 := Lib.hid (fun (h : k ≠ 0) => wm_fail (z := z) hlt h)
        have hc3 := wm_len3 z k
        obtain ⟨c, hc⟩ : ∃ c, wmC z k = c := ⟨_, rfl⟩
        rw [hc] at c0 HIN HF0 HF1 hc3
        have HPr := Lib.hid (HPL.out.below HB.out)
        clear hc hin
        by_cases hk0 : k = 0
        · have h0 : ((k : Int) == 0) = true := by rw [hk0]; rfl
          have HF := Lib.hid (HF0.out hk0)
          clear HF0 HF1 hk0
          go_wp2_with fail
          obtain ⟨Ad, hAd⟩ : ∃ Ad : Addr, (⟨wc.heap.size + k, 0, none⟩ : Addr) = Ad := ⟨_, rfl⟩
          rw [hAd] at HIN c0
          skip
          rw [hAd]
          clear hAd
          refine (bad_covered (some Ad) c.length c 1 20 HPr.out wm_sim wm_len HIN.out (by omega) (by rw [HF.out]; rfl) (by decide)).mono ?_
          rintro e x1 ⟨rfl, hbx⟩
          have HX1 := Lib.hid hbx
          clear hbx c0
          go_wp2_with fail
          refine (bad_redundant (some Ad) c.length c 1 20 (HPr.out.below HX1.out) wm_sim wm_len (HIN.out.below HX1.out) (by omega) (by rw [HF.out]; rfl) (by decide)).mono ?_
          rintro e x2 ⟨rfl, hbx⟩
          have HX2 := Lib.hid (HX1.out.trans (hbx.mono HX1.out.size))
          clear hbx
          go_wp2_with fail
          refine (bad_shorten (some Ad) c.length c 20 (HPr.out.below HX2.out) wm_sim wm_len (HIN.out.below HX2.out) (by omega) (by rw [HF.out]; rfl) (by decide)).mono ?_
          rintro e x3 ⟨⟨Ao, co, rfl⟩, hbx⟩
          have HX3 := Lib.hid (HX2.out.trans (hbx.mono HX2.out.size))
          clear hbx
          go_wp2_with fail
          refine (nil_hints (some Ad) c.length c N0 20 (HPr.out.below HX3.out) wm_sim (HIN.out.below HX3.out) (by omega) (hints_bad HF.out (by decide))).mono ?_
          rintro e x4 ⟨⟨Ap, cp, rfl⟩, hbx⟩
          have HX4 := Lib.hid (HB.out.trans ((HX3.out.trans (hbx.mono HX3.out.size)).mono HB.out.size))
          clear hbx
          rw [show ((20 : Nat) : Int) = 20 from rfl]
          go_wp2_with fail
          go_roundw
          case rel => exact ⟨k + 1, by omega, by go_num, HX4⟩
          case measure => simp [intOf]; omega
        · have h0 : ((k : Int) == 0) = false := by simp; omega
          have HF := Lib.hid (HF1.out hk0)
          clear HF0 HF1 hk0
          go_wp2_with fail
          obtain ⟨Ad, hAd⟩ : ∃ Ad : Addr, (⟨wc.heap.size + k, 0, none⟩ : Addr) = Ad := ⟨_, rfl⟩
          rw [hAd] at HIN c0
          skip
          rw [hAd]
          clear hAd
          refine (bad_covered (some Ad) c.length c 1 140 HPr.out wm_sim wm_len HIN.out (by omega) (by rw [HF.out]; rfl) (by decide)).mono ?_
          rintro e x1 ⟨rfl, hbx⟩
          have HX1 := Lib.hid hbx
          clear hbx c0
          go_wp2_with fail
          refine (bad_redundant (some Ad) c.length c 1 140 (HPr.out.below HX1.out) wm_sim wm_len (HIN.out.below HX1.out) (by omega) (by rw [HF.out]; rfl) (by decide)).mono ?_
          rintro e x2 ⟨rfl, hbx⟩
          have HX2 := Lib.hid (HX1.out.trans (hbx.mono HX1.out.size))
          clear hbx
          go_wp2_with fail
          refine (bad_shorten (some Ad) c.length c 140 (HPr.out.below HX2.out) wm_sim wm_len (HIN.out.below HX2.out) (by omega) (by rw [HF.out]; rfl) (by decide)).mono ?_
          rintro e x3 ⟨⟨Ao, co, rfl⟩, hbx⟩
          have HX3 := Lib.hid (HX2.out.trans (hbx.mono HX2.out.size))
          clear hbx
          go_wp2_with fail
          refine (nil_hints (some Ad) c.length c N0 140 (HPr.out.below HX3.out) wm_sim (HIN.out.below HX3.out) (by omega) (hints_bad HF.out (by decide))).mono ?_
          rintro e x4 ⟨⟨Ap, cp, rfl⟩, hbx⟩
          have HX4 := Lib.hid (HB.out.trans ((HX3.out.trans (hbx.mono HX3.out.size)).mono HB.out.size))
          clear hbx
          rw [show ((140 : Nat) : Int) = 140 from rfl]
          go_wp2_with fail
          go_roundw
          case rel => exact ⟨k + 1, by omega, by go_num, HX4⟩
          case measure => simp [intOf]; omega
      · have hq : decide ((k : Int) < 4) = false := by simp; omega
        have HPE := Lib.hid (HPL.out.below HB.out)
        have HBE := Lib.hid (HBL.out.trans (HB.out.mono HBL.out.size))
        clear HPL HBL HB HRW HPA HB5
        go_wp2_with fail
        have HBwr := HBE
        have HPwr := HPE
        clear HBE HPE
        obtain ⟨V1, hV1⟩ : ∃ x, wr.alloc (.cells #[.int .i64 1] 26) = x := ⟨_, rfl⟩
        have hbA : Below wr.heap.size wr V1 := by rw [← hV1]; exact mx_al _ _
        have hin : IntsIn (fun g => g = wr.heap.size) V1 (.slice (some ⟨wr.heap.size, 0, none⟩) 1 1) [1] := by rw [← hV1]; exact mx_ints wr [1] _
        have HIN1 := Lib.hid hin
        have HPV1 := Lib.hid (HPwr.out.below hbA)
        have HBV1 := Lib.hid (HBwr.out.trans (hbA.mono HBwr.out.size))
        skip
        rw [hV1]
        clear hV1 hbA hin
        refine (nil_hints (some ⟨wr.heap.size, 0, none⟩) 1 [1] N0 30 HPV1.out wm_sim HIN1.out (by decide) (hints_gone HGO.out)).mono ?_
        rintro e y1 ⟨⟨Ao, co, rfl⟩, hbx⟩
        have HPy1 := Lib.hid (HPV1.out.below hbx)
        have HBy1 := Lib.hid (HBV1.out.trans (hbx.mono HBV1.out.size))
        clear hbx
        rw [show ((30 : Nat) : Int) = 30 from rfl]
        go_wp2_with fail
        obtain ⟨V2, hV2⟩ : ∃ x, y1.alloc (.cells #[.int .i64 1] 26) = x := ⟨_, rfl⟩
        have hbA : Below y1.heap.size y1 V2 := by rw [← hV2]; exact mx_al _ _
        have hin : IntsIn (fun g => g = y1.heap.size) V2 (.slice (some ⟨y1.heap.size, 0, none⟩) 1 1) [1] := by rw [← hV2]; exact mx_ints y1 [1] _
        have HIN2 := Lib.hid hin
        have HPV2 := Lib.hid (HPy1.out.below hbA)
        have HBV2 := Lib.hid (HBy1.out.trans (hbA.mono HBy1.out.size))
        skip
        rw [hV2]
        clear hV2 hbA hin
        refine (nil_hints (some ⟨y1.heap.size, 0, none⟩) 1 [1] ((L : Int) + 1) 140 HPV2.out wm_sim HIN2.out (by decide) (hints_open HA.out.one)).mono ?_
        rintro e y2 ⟨⟨Ap, cp, rfl⟩, hbx⟩
        have HPy2 := Lib.hid (HPV2.out.below hbx)
        have HBy2 := Lib.hid (HBV2.out.trans (hbx.mono HBV2.out.size))
        clear hbx
        rw [show ((140 : Nat) : Int) = 140 from rfl]
        go_wp2_with fail
        refine (nil_conf N0 30 HPy2.out wm_sim wm_len (min_gone HGO.out)).mono ?_
        rintro e y3 ⟨⟨Ax, cx, Ay, cy, Az, cz, rfl⟩, hbx⟩
        have HPy3 := Lib.hid (HPy2.out.below hbx)
        have HBy3 := Lib.hid (HBy2.out.trans (hbx.mono HBy2.out.size))
        clear hbx
        rw [show ((30 : Nat) : Int) = 30 from rfl]
        go_wp2_with fail
        obtain ⟨V3, hV3⟩ : ∃ x, y3.alloc (.cells #[.slice Ax 0 cx, .int .i64 0, .int .i64 0, .slice Ay 0 cy, .slice Az 0 cz] 46) = x := ⟨_, rfl⟩
        have hbA : Below y3.heap.size y3 V3 := by rw [← hV3]; exact mx_al _ _
        have HPV3 := Lib.hid (HPy3.out.below hbA)
        have HBV3 := Lib.hid (HBy3.out.trans (hbA.mono HBy3.out.size))
        skip
        rw [hV3]
        clear hV3 hbA
        refine (nil_conf ((L : Int) + 1) 140 HPV3.out wm_sim wm_len (min_open HA.out.one)).mono ?_
        rintro e y4 ⟨⟨Bx, dx, By, dy, Bz, dz, rfl⟩, hbx⟩
        have HPy4 := Lib.hid (HPV3.out.below hbx)
        have HBy4 := Lib.hid (HBV3.out.trans (hbx.mono HBV3.out.size))
        clear hbx
        rw [show ((140 : Nat) : Int) = 140 from rfl]
        go_wp2_with fail
        obtain ⟨V4, hV4⟩ : ∃ x, y4.alloc (.cells #[.slice Bx 0 dx, .int .i64 0, .int .i64 0, .slice By 0 dy, .slice Bz 0 dz] 46) = x := ⟨_, rfl⟩
        have hbA : Below y4.heap.size y4 V4 := by rw [← hV4]; exact mx_al _ _
        have HPV4 := Lib.hid (HPy4.out.below hbA)
        have HBV4 := Lib.hid (HBy4.out.trans (hbA.mono HBy4.out.size))
        have hzV4 : V4.heap.size = y4.heap.size + 1 := by rw [← hV4]; simp
        skip
        rw [hV4]
        clear hV4 hbA
        obtain ⟨V5, hV5⟩ : ∃ x, V4.alloc (.cells #[.int .i64 1] 26) = x := ⟨_, rfl⟩
        have hbA : Below V4.heap.size V4 V5 := by rw [← hV5]; exact mx_al _ _
        have hin : IntsIn (fun g => g = V4.heap.size) V5 (.slice (some ⟨V4.heap.size, 0, none⟩) 1 1) [1] := by rw [← hV5]; exact mx_ints V4 [1] _
        rw [hzV4] at hin
        have HIN5 := Lib.hid hin
        have HPV5 := Lib.hid (HPV4.out.below hbA)
        have HBV5 := Lib.hid (HBV4.out.trans (hbA.mono HBV4.out.size))
        skip
        rw [hV5]
        clear hV5 hbA hin
        have hcv := put_covered (some ⟨y4.heap.size + 1, 0, none⟩) 1 [1] z HPV5.out wm_sim wm_len HIN5.out (by decide)
        rw [if_pos wm_one, wm_val HZ.out, wm_one, show (decide ((0 : Int) < 0) && cov15 A wmT [1] z) = false from rfl] at hcv
        clear hzV4
        refine hcv.mono ?_
        clear hcv
        rintro e y5 ⟨rfl, hbx⟩
        have HPy5 := Lib.hid (HPV5.out.below hbx)
        have HBy5 := Lib.hid (HBV5.out.trans (hbx.mono HBV5.out.size))
        clear hbx
        rw [show ((0 : Nat) : Int) = 0 from rfl]
        go_wp2_with fail
        obtain ⟨V6, hV6⟩ : ∃ x, y5.alloc (.cells #[.int .i64 1] 26) = x := ⟨_, rfl⟩
        have hbA : Below y5.heap.size y5 V6 := by rw [← hV6]; exact mx_al _ _
        have hin : IntsIn (fun g => g = y5.heap.size) V6 (.slice (some ⟨y5.heap.size, 0, none⟩) 1 1) [1] := by rw [← hV6]; exact mx_ints y5 [1] _
        have HIN6 := Lib.hid hin
        have HPV6 := Lib.hid (HPy5.out.below hbA)
        have HBV6 := Lib.hid (HBy5.out.trans (hbA.mono HBy5.out.size))
        skip
        rw [hV6]
        clear hV6 hbA hin
        have hcv := put_redundant (some ⟨y5.heap.size, 0, none⟩) 1 [1] 1 HPV6.out wm_sim wm_len HIN6.out (by decide)
        rw [if_pos wm_one, HA.out.red, wm_one, show (([1] : List Int).contains 1 && false) = false from rfl] at hcv
        refine hcv.mono ?_
        clear hcv
        rintro e y6 ⟨rfl, hbx⟩
        have HPy6 := Lib.hid (HPV6.out.below hbx)
        have HBy6 := Lib.hid (HBV6.out.trans (hbx.mono HBV6.out.size))
        clear hbx
        rw [show ((0 : Nat) : Int) = 0 from rfl]
        go_wp2_with fail
        go_ret
        exact ⟨rfl, HBy6.out⟩
end Go.Proofs.Ytiodfolcnnkdjaa
