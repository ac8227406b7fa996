/- package rup: moving. -/
import Derived.Test.YthhpffdbipgkcaaGreatDoorCl
namespace Go.Proofs.YthhpffdbipgkcaaGreatDoor
open Go.RowKit Go.Maps Go.Shelf
attribute [local go_sem] Oper.semAt_some

/-- the clauses of a kind, with their literals -/
def movL (f : Int → Int) (kd : Nat) : Nat → List (List Int) → List (Nat × Int)
  | _, [] => []
  | i, c :: r => if (lookF f c).1 = kd then (i, (lookF f c).2) :: movL f kd (i + 1) r else movL f kd (i + 1) r
def mvv (x : Nat × Int) : Array Value := #[.int .i64 (x.1 : Int), .int .i64 x.2]
theorem ClsIn.narrow {O : Nat → Prop} {w : World} {v : Value} {cs : List (List Int)} (h : ClsIn O w v cs) : ClsIn (fun g => O g ∧ ¬ XO w g) w v cs := by
  obtain ⟨A, c, hv, hc, hn, hx⟩ := h
  refine ⟨A, c, hv, hc, hn, fun i xs hi => ?_⟩
  obtain ⟨g, o, u, h1, h2, h3, h4, h5⟩ := hx i xs hi
  exact ⟨g, o, u, h1, h2, ⟨h3, xo_cell h4⟩, h4, h5.narrow⟩
theorem MapAt.kpc {W w : World} {b n : Nat} {f : Int → Int} (h : MapAt W b n f) (k : KpC (fun _ => False) W w) : MapAt w b n f :=
  h.kept k.kept (by
    rintro (h' | ⟨o, ho, _, h2⟩)
    · exact h'
    · obtain ⟨D, ⟨es, cl, hb, _⟩, _⟩ := h
      rw [hb] at ho
      cases ho
      cases h2)
set_option maxRecDepth 100000 in
set_option maxHeartbeats 4000000 in
theorem moving1_in {O : Nat → Prop} (l Bl Bv Bk b n kd : Nat) (f : Int → Int) (lv : Value) (cs : List (List Int)) (J Jx : List (Nat × Int) → World → Prop) (W : World)
    (hY : ∀ pre x W1, J pre W1 → pre.length < cs.length → YieldAt Fence.wide 7 Tryz.prog l (mvv x) W1 fun e W' =>
      (e = .returned (.bool true) ∧ J (pre ++ [x]) W' ∧ KpC (fun _ => False) W1 W') ∨ (e = .returned (.bool false) ∧ Jx (pre ++ [x]) W'))
    (hBl : W.cell? ⟨Bl, 0, none⟩ = some lv) (hBv : W.cell? ⟨Bv, 0, none⟩ = some (.map (some b))) (hBk : W.cell? ⟨Bk, 0, none⟩ = some (.int .u8 (kd : Nat))) (hl : ClsIn O W lv cs) (hm : MapAt W b n f) (hf : okF f) (hn : cs.length ≤ 1000000) (hx : ∀ xs ∈ cs, xs.length ≤ 100000000000) (h0 : J [] W) :
    CallsIn Fence.wide 8 Tryz.prog 64 #[.func (.yield l) #[] #[], .pointer (some ⟨Bl, 0, none⟩), .pointer (some ⟨Bv, 0, none⟩), .pointer (some ⟨Bk, 0, none⟩)] W fun e W' => (∃ v, e = .returned v) ∧
      ((∃ ys, ys = movL f kd 0 cs ∧ J ys W') ∨ (∃ pre, (pre <+: movL f kd 0 cs ∧ pre ≠ []) ∧ Jx pre W')) := by
  have HBL := Lib.hid hBl
  have HBV := Lib.hid hBv
  have HBK := Lib.hid hBk
  have hBl' := World.block_lt_of_cell? W _ hBl
  have hBv' := World.block_lt_of_cell? W _ hBv
  have hBk' := World.block_lt_of_cell? W _ hBk
  have HL := Lib.hid hl.narrow
  have HM := Lib.hid hm
  have HY := Lib.hid hY
  have HX := Lib.hid hx
  have H0 := Lib.hid h0
  have HF := Lib.hid hf
  obtain ⟨A, c, rfl, hc, _, _⟩ := hl
  clear hBv hBk hm hY hx h0 hf
  refine callsIn_of_wp Tryz.func64 rfl trivial ?_ rfl
  simp only [Tryz.ntmps64, List.size_toArray, List.length_cons, List.length_nil, Nat.reduceAdd, Nat.reduceSub, Array.replicate_succ, Array.replicate_zero, List.push_toArray, List.append_toArray, List.nil_append, List.cons_append]
  gi_wp2
  clear hBl
  gi_loopw [11] (fun i wr => ∃ (k : Nat) (pre : List (Nat × Int)), k ≤ cs.length ∧ i = .int .i64 k ∧ Hid (pre.length ≤ k) ∧ Hid (pre ++ movL f kd k (cs.drop k) = movL f kd 0 cs) ∧ Hid (KpC (fun _ => False) W wr) ∧ Hid (J pre wr)) (fun i _ => cs.length - (intOf i).toNat)
  case atStart => exact ⟨0, [], Nat.zero_le _, rfl, Lib.hid (Nat.le_refl _), Lib.hid rfl, Lib.hid (KpC.refl _ _), H0⟩
  case round =>
    obtain ⟨k, pre, hk, rfl, HPL, HP, HK, HJ⟩ := hrel
    by_cases hlt : k < cs.length
    · obtain ⟨xs, hxk⟩ := getElem_of hlt
      have hin := HL.out.kept HK.out.kept (fun g hg ho => ho.elim (fun h => h) hg.2)
      obtain ⟨A', c', hAc, _, _, hxs⟩ := hin
      simp only [Value.slice.injEq, true_and] at hAc
      obtain ⟨rfl, rfl⟩ := hAc
      obtain ⟨g, o, u, rfl, hg, _, d0, hu⟩ := hxs k xs hxk
      have e1 : wr.cell? ⟨Bv, 0, none⟩ = some (.map (some b)) := (HK.out.kept.cell (p := ⟨Bv, 0, none⟩) hBv' (fun h => h.elim (fun h => h) (xo_cell HBV.out))).trans HBV.out
      have e2 : wr.cell? ⟨Bk, 0, none⟩ = some (.int .u8 (kd : Nat)) := (HK.out.kept.cell (p := ⟨Bk, 0, none⟩) hBk' (fun h => h.elim (fun h => h) (xo_cell HBK.out))).trans HBK.out
      have HLK := rup_look b n f u xs wr (HM.out.kpc HK.out) HF.out hu (HX.out xs (List.mem_of_getElem? hxk))
      obtain ⟨Au, cu, rfl, _⟩ := hu
      have hdk : cs.drop k = xs :: cs.drop (k + 1) := by
        rw [List.drop_eq_getElem_cons hlt]
        rw [List.getElem?_eq_getElem hlt] at hxk
        rw [Option.some.inj hxk]
      have hp := HP.out
      rw [hdk] at hp
      simp only [movL] at hp
      obtain ⟨K, hK⟩ : ∃ z, (lookF f xs).1 = z := ⟨_, rfl⟩
      obtain ⟨U, hU⟩ : ∃ z, (lookF f xs).2 = z := ⟨_, rfl⟩
      rw [hK, hU] at HLK hp
      have HLK := Lib.hid HLK
      clear hxk hxs hdk hK hU
      by_cases hkd : K = kd
      · rw [if_pos hkd] at hp
        have q0 : ((K : Int) == (kd : Int)) = true := by simp [hkd]
        have HP' := Lib.hid (show (pre ++ [(k, U)]) ++ movL f kd (k + 1) (cs.drop (k + 1)) = movL f kd 0 cs from by rw [← hp]; simp)
        obtain ⟨fn, tmps, assign, body, hy, hR⟩ := HY.out pre (k, U) wr HJ.out (by have := HPL.out; omega)
        dsimp only [mvv] at hy
        have HR := Lib.hid hR
        clear hp hkd hR
        gi_wp2_with fail
        refine ⟨trivial, ?_⟩
        refine (callsIn_wide.2 HLK.out).mono ?_
        rintro e w' ⟨rfl, rfl⟩
        gi_wp2_with fail
        refine HR.out.mono ?_
        rintro e W3 (⟨rfl, hJ3, hk3⟩ | ⟨rfl, hJx3⟩)
        · have HJ3 := Lib.hid hJ3
          have HK3 := Lib.hid (HK.out.trans hk3)
          clear hJ3 hk3 hy d0 e1 e2
          gi_wp2_with fail
          go_roundw
          case rel => exact ⟨k + 1, pre ++ [(k, U)], by omega, by go_num, Lib.hid (by have := HPL.out; simp; omega), HP', HK3, HJ3⟩
          case measure => simp [intOf]; omega
        · gi_wp2
          refine bodyPost_ret (results_none rfl _ _ _) rfl ?_
          exact ⟨⟨_, rfl⟩, .inr ⟨pre ++ [(k, U)], ⟨⟨_, HP'.out⟩, by simp⟩, hJx3⟩⟩
      · rw [if_neg hkd] at hp
        have q0 : ((K : Int) == (kd : Int)) = false := by rw [beq_eq_false_iff_ne]; omega
        have HP' := Lib.hid hp
        clear hp hkd
        gi_wp2_with fail
        refine ⟨trivial, ?_⟩
        refine (callsIn_wide.2 HLK.out).mono ?_
        rintro e w' ⟨rfl, rfl⟩
        gi_wp2_with fail
        refine ⟨fun _ h => (by cases h), ?_⟩
        gi_wp2_with fail
        go_roundw
        case rel => exact ⟨k + 1, pre, by omega, by go_num, Lib.hid (by have := HPL.out; omega), HP', HK, HJ⟩
        case measure => simp [intOf]; omega
    · obtain rfl : k = cs.length := by omega
      gi_wp2
      go_end0
      refine ⟨⟨_, rfl⟩, .inl ⟨pre, ?_, HJ.out⟩⟩
      have := HP.out
      rw [List.drop_length] at this
      simpa [movL] using this
end Go.Proofs.YthhpffdbipgkcaaGreatDoor
