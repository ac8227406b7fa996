/- The walk of TokensCovers. -/
import Derived.Test.YtihigfpikiaaiaaDoorXc
namespace Go.Proofs.YtihigfpikiaaiaaDoor
open Go.RowKit

theorem contains_any (s : ByteArray) (c : UInt8) (w : World) :
    Calls Tryd.prog 12 #[.string s, .string ⟨#[c]⟩] w fun e w' => e = .returned (.bool (decide (0 ≤ Lib.indexByte s.data.toList c))) ∧ w = w' :=
  (Tryd.strings_Contains_one s c w).mono fun _ _ ⟨he, hw⟩ => ⟨he, hw.symm⟩
theorem blanks_not (c : UInt8) (h1 : Tk.blankB c = false) (h2 : c ≠ 35) : decide (0 ≤ Lib.indexByte [9, 10, 13, 32, 35] c) = false := by
  simp only [Tk.blankB, Bool.or_eq_false_iff, beq_eq_false_iff_ne] at h1
  obtain ⟨⟨⟨a, b⟩, d⟩, e⟩ := h1
  have a' : ¬ (9 : UInt8) = c := fun h => a h.symm
  have b' : ¬ (10 : UInt8) = c := fun h => b h.symm
  have d' : ¬ (13 : UInt8) = c := fun h => d h.symm
  have e' : ¬ (32 : UInt8) = c := fun h => e h.symm
  have f' : ¬ (35 : UInt8) = c := fun h => h2 h.symm
  simp [Lib.indexByte, a', b', d', e', f']

set_option maxRecDepth 100000 in
set_option maxHeartbeats 1000000 in
theorem covers_bad (s : ByteArray) (w : World) (hm : MaxL w)
    (hE : ∃ T : ByteArray, s.extract 0 (min (s.size : Int) 300).toNat = T ∧ T.size ≤ 300 ∧ scanErr T ≠ 0) : Calls Tryd.prog 3 #[.string s] w fun e w' => e = .returned (.bool true) ∧ Below w.heap.size w w' := by
  obtain ⟨T, hT, hsz, hbad⟩ := hE
  have hlt := (err_iff T).1 hbad
  obtain ⟨q1, q2⟩ := stop_byte T hlt
  have hnb := blanks_not _ q1 q2
  have hx := ext_one T (stopAt T) hlt
  have hdec : ((scanErr T : Int) != 0) = true := by simpa using hbad
  have hnil : scanL T = [] := by unfold scanL; rw [if_pos hlt]
  have hsc := fun w => scan_toks T (by omega) w
  rw [hnil, List.length_nil] at hsc
  have hcn := fun w => contains_any ⟨#[9, 10, 13, 32, 35]⟩ (bt T (stopAt T)) w
  simp only [hnb] at hcn
  have HSC := Lib.hid hsc
  have HCN := Lib.hid hcn
  have HX := Lib.hid hx
  clear hnb q1 q2 hbad hnil hsc hcn hx
  go_enter Tryd.func3, Tryd.ntmps3
  go_wp2_with fail
  refine (awake_any _ hm).mono ?_
  rintro e w1 ⟨rfl, hb1⟩
  go_wp2_with fail
  refine (HSC.out _).mono ?_
  rintro e w2 ⟨A, c, rfl, _, hb2⟩
  go_wp2_with fail
  rw [HX.out]
  refine (HCN.out _).mono ?_
  rintro e w' ⟨rfl, rfl⟩
  go_wp2_with fail
  go_ret
  exact ⟨rfl, hb1.trans (hb2.mono hb1.size)⟩

set_option maxRecDepth 100000 in
set_option maxHeartbeats 2000000 in
theorem covers_ok (s : ByteArray) (w : World) (hm : MaxL w)
    (hE : ∃ T : ByteArray, s.extract 0 (min (s.size : Int) 300).toNat = T ∧ T.size ≤ 300 ∧ scanErr T = 0) : Calls Tryd.prog 3 #[.string s] w fun e w' => e = .returned (.bool true) ∧ Below w.heap.size w w' := by
  obtain ⟨T, hT, hsz, hbad⟩ := hE
  obtain ⟨hst, hL⟩ := err_zero T hbad
  have hdec : ((scanErr T : Int) != 0) = false := by rw [hbad]; rfl
  have hsc := fun w => scan_toks T (by omega) w
  obtain ⟨p1, p2, p3, p4⟩ := places_eq T
  obtain ⟨tl, htl⟩ : ∃ tl, tokensOf T = tl := ⟨_, rfl⟩
  have hlen := tokensOf_len T
  rw [hL, htl] at hsc
  rw [htl] at p1 p2 hlen
  rw [hst] at p1
  have HSC := Lib.hid hsc
  have P1 := Lib.hid p1
  have P2 := Lib.hid p2
  clear hsc p1 p2 p3 p4 hst hL htl hbad
  go_enter Tryd.func3, Tryd.ntmps3
  go_wp2_with fail
  refine (awake_any _ hm).mono ?_
  rintro e w1 ⟨rfl, hb1⟩
  go_wp2_with fail
  refine (HSC.out _).mono ?_
  rintro e w2 ⟨A, c, rfl, hTk, hb2⟩
  have hcap := hTk.1
  have HT := Lib.hid hTk
  have hb12 := hb1.trans (hb2.mono hb1.size)
  have HB := Lib.hid hb12
  have hs2 := hb2.size
  have hs1 := hb1.size
  clear hTk hb12 hb1 hb2
  go_wp2_with fail
  go_loopw [6, 7] (fun fr i wr => ∃ k f a : Nat, k ≤ tl.length + 1 ∧ i = .int .i64 k ∧ fr = .int .i64 a ∧ a ≤ T.size ∧ (k ≤ tl.length → T.size < f + a ∧ places T f a = tl.drop k ++ [T.size]) ∧ Below w2.heap.size w2 wr) (fun _ i _ => tl.length + 1 - (intOf i).toNat)
  case atStart => exact ⟨0, T.size + 1, 0, by omega, rfl, rfl, by omega, fun _ => ⟨by omega, P1.out⟩, Below.refl _ _⟩
  case round =>
    obtain ⟨k, f, a, hk, rfl, rfl, ha, hpl, hB⟩ := hrel
    have HPL := Lib.hid hpl
    have hBs := hB.size
    have HBW := Lib.hid hB
    clear hpl hB
    by_cases hlt : k < tl.length
    · obtain ⟨p, hp⟩ : ∃ p, tl[k]? = some p := ⟨_, List.getElem?_eq_getElem hlt⟩
      obtain ⟨g', rfl, hg', c0, c1, c2⟩ := HT.out.2.2 k p hp
      have d0 := (HBW.out.cell (p := ⟨g', k * 3, none⟩) hg').trans c0
      have d1 := (HBW.out.cell (p := ⟨g', k * 3 + 1, none⟩) hg').trans c1
      have d2 := (HBW.out.cell (p := ⟨g', k * 3 + 2, none⟩) hg').trans c2
      have hmem := List.mem_of_getElem? hp
      have hk0 := P2.out p hmem
      have hpeq : p = skipTo T a ∧ ∃ f', f = f' + 1 ∧ places T f' (tkEnd T p) = tl.drop (k + 1) ++ [T.size] := by
        obtain ⟨h1, h2⟩ := HPL.out (by omega)
        cases f with
        | zero => omega
        | succ f' =>
          rw [List.drop_eq_getElem_cons hlt, List.getElem?_eq_getElem hlt] at *
          simp only [Option.some.injEq] at hp
          subst hp
          simp only [places] at h2
          split at h2
          · rename_i hz
            simp only [List.cons_append, List.cons.injEq] at h2
            rw [h2.1] at hz
            exact absurd hz hk0
          · simp only [List.cons_append, List.cons.injEq] at h2
            rw [← h2.1]
            exact ⟨rfl, f', rfl, h2.2⟩
      obtain ⟨hpa, f', hf', hrest⟩ := hpeq
      have hps : p < T.size := by
        have h1 := skipTo_le T a ha
        rcases Nat.lt_or_ge p T.size with h | h
        · exact h
        · have : p = T.size := by omega
          rw [this] at hk0
          exact absurd (tkKind_end T) hk0
      have hap : a ≤ p := by rw [hpa]; exact skipTo_ge T a
      obtain ⟨t1, t2, t3⟩ := tok_form T p hps hk0
      have t4 := tkEnd_le T p (by omega)
      have hcol := has_colon T p hps
      have e1 : ((tkEnd T p : Int) == (p : Int)) = false := by simp; omega
      have HPA := Lib.hid hpa
      have HRE := Lib.hid hrest
      have HF := Lib.hid hf'
      have T2 := Lib.hid t2
      have T3 := Lib.hid t3
      have HCO := Lib.hid hcol
      have HK0 := Lib.hid hk0
      have HP := Lib.hid hp
      clear hpa hrest hf' t2 t3 hcol hk0 hp c0 c1 c2 hmem
      obtain ⟨n, hn⟩ : ∃ n, a + n = p := ⟨p - a, by omega⟩
      obtain ⟨cap, w4, hrun, hb4, hc4⟩ := bytes_ext T a n p (by omega) hn (wr.alloc (.cells #[.int .u8 (tkKind T p : Nat), .int .i64 (p : Int), .int .i64 (tkEnd T p : Nat)] 29))
      have hn1 : a + n ≤ p := by omega
      have hn2 : p ≤ a + n := by omega
      have HC4 := Lib.hid hc4
      have hgw : g' < wr.heap.size := by omega
      have hz4 := hb4.size
      obtain ⟨hcc, hff⟩ := bcell hb4
      have HB4 := Lib.hid hb4
      clear hc4 hb4 hn
      go_wp2_with fail
      go_loop [9, 107] (fun cv i => ∃ (j : Nat) (cm : Bool), j ≤ n ∧ i = .int .i64 j ∧ cv = .bool cm ∧ blTo cm T (a + j) = p) (fun _ i => n - (intOf i).toNat)
      case atStart => exact ⟨0, false, by omega, rfl, rfl, HPA.out.symm⟩
      case round =>
        obtain ⟨j, cm, hj, rfl, rfl, hbl⟩ := hrel
        by_cases hjn : j < n
        · have hcs := blank_cases T cm (a + j) (by omega) (by omega)
          have hcell := HC4.out j hjn
          rw [World.size_alloc] at hcell
          have HBL := Lib.hid hbl
          clear hbl
          rcases hcs with ⟨hc, hnx⟩ | ⟨rfl, n35, n10, hnx⟩ | ⟨hc, hnx⟩ | ⟨rfl, hc, hnx⟩
          · rw [hc] at hcell
            have HNX := Lib.hid hnx
            clear hc hnx
            cases cm
            all_goals
              go_wp2
              go_round
              case rel => exact ⟨j + 1, true, by omega, by go_num, rfl, HNX.out.trans HBL.out⟩
              case measure => simp [intOf]; omega
          · have e35 : (((bt T (a + j)).toNat : Int) == 35) = false := by rw [show (35 : Int) = ((35 : Nat) : Int) from rfl, byte_eq _ _ (by omega)]; simpa using n35
            have e10 : (((bt T (a + j)).toNat : Int) != 10) = true := by
              have := byte_eq (bt T (a + j)) 10 (by omega)
              simp only [bne, Bool.not_eq_true']
              rw [show (10 : Int) = ((10 : Nat) : Int) from rfl, this]
              simpa using n10
            have HNX := Lib.hid hnx
            clear n35 n10 hnx
            go_wp2
            go_round
            case rel => exact ⟨j + 1, true, by omega, by go_num, rfl, HNX.out.trans HBL.out⟩
            case measure => simp [intOf]; omega
          · rw [hc] at hcell
            have HNX := Lib.hid hnx
            clear hc hnx
            cases cm
            all_goals
              go_wp2
              go_round
              case rel => exact ⟨j + 1, false, by omega, by go_num, rfl, HNX.out.trans HBL.out⟩
              case measure => simp [intOf]; omega
          · have HNX := Lib.hid hnx
            clear hnx
            rcases hc with hc | hc | hc
            all_goals
              rw [hc] at hcell
              clear hc
              go_wp2
              go_round
              case rel => exact ⟨j + 1, false, by omega, by go_num, rfl, HNX.out.trans HBL.out⟩
              case measure => simp [intOf]; omega
        · have hpm : p ≤ T.size := by omega
          clear hbl
          go_wp2_with fail
          refine (text_tok T p _ hpm).mono ?_
          rintro e w5 ⟨rfl, hb5⟩
          have hz5 := hb5.size
          have f0 : w5.cell? ⟨wr.heap.size, 0, none⟩ = some (.int .u8 (tkKind T p : Nat)) := by
            rw [hb5.cell (p := ⟨wr.heap.size, 0, none⟩) (by simp at hz4; show wr.heap.size < _; omega), hcc wr.heap.size 0 (by simp), cell_of_row _ _ _ _ _ _ (World.alloc_heap_new wr _)]
            rfl
          have f2 : w5.cell? ⟨wr.heap.size, 2, none⟩ = some (.int .i64 (tkEnd T p : Nat)) := by
            rw [hb5.cell (p := ⟨wr.heap.size, 2, none⟩) (by simp at hz4; show wr.heap.size < _; omega), hcc wr.heap.size 2 (by simp), cell_of_row _ _ _ _ _ _ (World.alloc_heap_new wr _)]
            rfl
          have hB5 : Below w2.heap.size w2 w5 := (((HBW.out.alloc hBs _).trans (HB4.out.mono (by simp; omega)))).trans (hb5.mono (by simp at hz4; omega))
          have HB5 := Lib.hid hB5
          obtain ⟨S, hS⟩ : ∃ S, tokS T p = S := ⟨_, rfl⟩
          have sz : S.size = tkEnd T p - p := by rw [← hS]; unfold tokS; exact size_ext _ _ _ t4
          have hS0 : bt S 0 = bt T p := by rw [← hS]; unfold tokS; exact bt_ext _ _ _ _ (by omega)
          have s0 : (0 : Nat) < S.size := by omega
          obtain ⟨m1, m2⟩ := ne_empty S (by omega)
          have hg0 : ∀ h : 0 < S.size, S[0]'h = bt T p := fun h => by rw [get_bt S 0 h, hS0]
          rw [hS]
          have hct : 0 ≤ Lib.indexByte S.data.toList 58 → ∀ W, Calls Tryd.prog 12 #[.string S, .string ⟨#[58]⟩] W fun e w' => e = .returned (.bool true) ∧ w' = W := fun h W => by
            have := Tryd.strings_Contains_one S 58 W
            rwa [decide_eq_true h] at this
          have HCT := Lib.hid hct
          rw [← hS] at hct
          have hcol := HCO.out
          rw [hS] at hcol
          have HCL := Lib.hid hcol
          have HS0 := Lib.hid hS0
          clear hb5 hB5 hS sz hct hcol hS0
          have hkle := tkKind_le T p
          have k0 := HK0.out
          cases hl : Tk.letter (bt T p) with
          | true =>
            have hk1 := T2.out.2 hl
            have K1 : ((tkKind T p : Int) == 1) = true := by rw [hk1]; rfl
            have K3 : ((tkKind T p : Int) == 3) = false := by rw [hk1]; rfl
            have hb : 97 ≤ (bt T p).toNat ∧ (bt T p).toNat ≤ 122 := by simpa [Tk.letter] using hl
            obtain ⟨l1, l2⟩ := hb
            have L1 : decide ((97 : Int) ≤ ((bt T p).toNat : Int)) = true := by simp; omega
            have L2 : decide (((bt T p).toNat : Int) ≤ (122 : Int)) = true := by simp; omega
            have HL := Lib.hid hl
            clear hl hk1 k0
            go_wp2_with fail
            go_quiet (fail)
            go_wp2_with fail
            go_roundw
            case rel => exact ⟨k + 1, f', tkEnd T p, by omega, by go_num, rfl, t4, fun _ => ⟨by have := HF.out; have := (HPL.out (by omega)).1; omega, HRE.out⟩, below_drewN HB5.out _⟩
            case measure => simp [intOf]; omega
          | false =>
            have hk1 : tkKind T p ≠ 1 := fun h => by rw [T2.out.1 h] at hl; cases hl
            have K1 : ((tkKind T p : Int) == 1) = false := by simp; omega
            have hb : (bt T p).toNat < 97 ∨ 122 < (bt T p).toNat := by
              simp only [Tk.letter, Bool.and_eq_false_iff, decide_eq_false_iff_not] at hl
              omega
            have HL := Lib.hid hl
            clear hl hk1 k0
            by_cases h3 : tkKind T p = 3
            · have K3 : ((tkKind T p : Int) == 3) = true := by rw [h3]; rfl
              have HCC := Lib.hid (HCT.out (HCL.out h3))
              clear h3
              rcases hb with hb | hb
              · have L1 : decide ((97 : Int) ≤ ((bt T p).toNat : Int)) = false := by simp; omega
                go_wp2_with fail
                go_quiet ((go_at_call 12; exact Calls.quiet_of_same (HCC.out _)))
                go_wp2_with fail
                go_roundw
                case rel => exact ⟨k + 1, f', tkEnd T p, by omega, by go_num, rfl, t4, fun _ => ⟨by have := HF.out; have := (HPL.out (by omega)).1; omega, HRE.out⟩, below_drewN HB5.out _⟩
                case measure => simp [intOf]; omega
              · have L1 : decide ((97 : Int) ≤ ((bt T p).toNat : Int)) = true := by simp; omega
                have L2 : decide (((bt T p).toNat : Int) ≤ (122 : Int)) = false := by simp; omega
                go_wp2_with fail
                go_quiet ((go_at_call 12; exact Calls.quiet_of_same (HCC.out _)))
                go_wp2_with fail
                go_roundw
                case rel => exact ⟨k + 1, f', tkEnd T p, by omega, by go_num, rfl, t4, fun _ => ⟨by have := HF.out; have := (HPL.out (by omega)).1; omega, HRE.out⟩, below_drewN HB5.out _⟩
                case measure => simp [intOf]; omega
            · have K3 : ((tkKind T p : Int) == 3) = false := by simp; omega
              clear h3
              rcases hb with hb | hb
              · have L1 : decide ((97 : Int) ≤ ((bt T p).toNat : Int)) = false := by simp; omega
                go_wp2_with fail
                go_quiet (fail)
                go_wp2_with fail
                go_roundw
                case rel => exact ⟨k + 1, f', tkEnd T p, by omega, by go_num, rfl, t4, fun _ => ⟨by have := HF.out; have := (HPL.out (by omega)).1; omega, HRE.out⟩, below_drewN HB5.out _⟩
                case measure => simp [intOf]; omega
              · have L1 : decide ((97 : Int) ≤ ((bt T p).toNat : Int)) = true := by simp; omega
                have L2 : decide (((bt T p).toNat : Int) ≤ (122 : Int)) = false := by simp; omega
                go_wp2_with fail
                go_quiet (fail)
                go_wp2_with fail
                go_roundw
                case rel => exact ⟨k + 1, f', tkEnd T p, by omega, by go_num, rfl, t4, fun _ => ⟨by have := HF.out; have := (HPL.out (by omega)).1; omega, HRE.out⟩, below_drewN HB5.out _⟩
                case measure => simp [intOf]; omega
    · by_cases hke : k = tl.length
      · subst hke
        have hpeq : T.size = skipTo T a := by
          obtain ⟨h1, h2⟩ := HPL.out (by omega)
          rw [List.drop_length, List.nil_append] at h2
          cases f with
          | zero => omega
          | succ f' =>
            simp only [places] at h2
            split at h2
            · simpa using h2.symm
            · simp only [List.cons.injEq] at h2
              exact h2.1.symm
        have HPA := Lib.hid hpeq
        clear hpeq
        obtain ⟨n, hn⟩ : ∃ n, a + n = T.size := ⟨T.size - a, by omega⟩
        obtain ⟨cap, w4, hrun, hb4, hc4⟩ := bytes_ext T a n T.size (by omega) hn (wr.alloc (.cells #[.int .u8 0, .int .i64 (T.size : Int), .int .i64 (T.size : Int)] 29))
        have hn1 : a + n ≤ T.size := by omega
        have hn2 : T.size ≤ a + n := by omega
        have HC4 := Lib.hid hc4
        have hz4 := hb4.size
        obtain ⟨hcc, hff⟩ := bcell hb4
        have HB4 := Lib.hid hb4
        clear hc4 hb4 hn
        go_wp2_with fail
        go_loop [9, 107] (fun cv i => ∃ (j : Nat) (cm : Bool), j ≤ n ∧ i = .int .i64 j ∧ cv = .bool cm ∧ blTo cm T (a + j) = T.size) (fun _ i => n - (intOf i).toNat)
        case atStart => exact ⟨0, false, by omega, rfl, rfl, HPA.out.symm⟩
        case round =>
          obtain ⟨j, cm, hj, rfl, rfl, hbl⟩ := hrel
          by_cases hjn : j < n
          · have hcs := blank_cases T cm (a + j) (by omega) (by omega)
            have hcell := HC4.out j hjn
            rw [World.size_alloc] at hcell
            have HBL := Lib.hid hbl
            clear hbl
            rcases hcs with ⟨hc, hnx⟩ | ⟨rfl, n35, n10, hnx⟩ | ⟨hc, hnx⟩ | ⟨rfl, hc, hnx⟩
            · rw [hc] at hcell
              have HNX := Lib.hid hnx
              clear hc hnx
              cases cm
              all_goals
                go_wp2
                go_round
                case rel => exact ⟨j + 1, true, by omega, by go_num, rfl, HNX.out.trans HBL.out⟩
                case measure => simp [intOf]; omega
            · have e35 : (((bt T (a + j)).toNat : Int) == 35) = false := by rw [show (35 : Int) = ((35 : Nat) : Int) from rfl, byte_eq _ _ (by omega)]; simpa using n35
              have e10 : (((bt T (a + j)).toNat : Int) != 10) = true := by
                have := byte_eq (bt T (a + j)) 10 (by omega)
                simp only [bne, Bool.not_eq_true']
                rw [show (10 : Int) = ((10 : Nat) : Int) from rfl, this]
                simpa using n10
              have HNX := Lib.hid hnx
              clear n35 n10 hnx
              go_wp2
              go_round
              case rel => exact ⟨j + 1, true, by omega, by go_num, rfl, HNX.out.trans HBL.out⟩
              case measure => simp [intOf]; omega
            · rw [hc] at hcell
              have HNX := Lib.hid hnx
              clear hc hnx
              cases cm
              all_goals
                go_wp2
                go_round
                case rel => exact ⟨j + 1, false, by omega, by go_num, rfl, HNX.out.trans HBL.out⟩
                case measure => simp [intOf]; omega
            · have HNX := Lib.hid hnx
              clear hnx
              rcases hc with hc | hc | hc
              all_goals
                rw [hc] at hcell
                clear hc
                go_wp2
                go_round
                case rel => exact ⟨j + 1, false, by omega, by go_num, rfl, HNX.out.trans HBL.out⟩
                case measure => simp [intOf]; omega
          · clear hj
            clear hbl
            go_wp2_with fail
            refine (text_in T 0 T.size T.size _ (Nat.le_refl _) (Nat.le_refl _)).mono ?_
            rintro e w5 ⟨rfl, hb5⟩
            have hz5 := hb5.size
            have f0 : w5.cell? ⟨wr.heap.size, 0, none⟩ = some (.int .u8 0) := by
              rw [hb5.cell (p := ⟨wr.heap.size, 0, none⟩) (by simp at hz4; show wr.heap.size < _; omega), hcc wr.heap.size 0 (by simp), cell_of_row _ _ _ _ _ _ (World.alloc_heap_new wr _)]
              rfl
            have f2 : w5.cell? ⟨wr.heap.size, 2, none⟩ = some (.int .i64 (T.size : Int)) := by
              rw [hb5.cell (p := ⟨wr.heap.size, 2, none⟩) (by simp at hz4; show wr.heap.size < _; omega), hcc wr.heap.size 2 (by simp), cell_of_row _ _ _ _ _ _ (World.alloc_heap_new wr _)]
              rfl
            have hB5 : Below w2.heap.size w2 w5 := (((HBW.out.alloc hBs _).trans (HB4.out.mono (by simp; omega)))).trans (hb5.mono (by simp at hz4; omega))
            have HB5 := Lib.hid hB5
            clear hb5 hB5
            go_wp2_with fail
            go_quiet (fail)
            go_wp2_with fail
            go_roundw
            case rel => exact ⟨tl.length + 1, 0, T.size, by omega, by go_num, rfl, Nat.le_refl _, fun h => by omega, below_drewN HB5.out _⟩
            case measure => simp [intOf]
      · go_wp2_with fail
        go_ret
        exact ⟨rfl, HB.out.trans (HBW.out.mono (by omega))⟩

theorem covers_any (s : ByteArray) (w : World) (hm : MaxL w) : Calls Tryd.prog 3 #[.string s] w fun e w' => e = .returned (.bool true) ∧ Below w.heap.size w w' := by
  have hsz : (s.extract 0 (min (s.size : Int) 300).toNat).size ≤ 300 := by simp; omega
  by_cases h : scanErr (s.extract 0 (min (s.size : Int) 300).toNat) = 0
  · exact covers_ok s w hm ⟨_, rfl, hsz, h⟩
  · exact covers_bad s w hm ⟨_, rfl, hsz, h⟩
end Go.Proofs.YtihigfpikiaaiaaDoor
