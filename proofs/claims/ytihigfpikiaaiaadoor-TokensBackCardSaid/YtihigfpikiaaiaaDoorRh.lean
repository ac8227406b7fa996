/- The walk of the reference's Next. -/
import Derived.Test.YtihigfpikiaaiaaDoorRg
namespace Go.Proofs.YtihigfpikiaaiaaDoor
open Go.RowKit

/-- what a round of the search keeps: the two tokens made, the result's and the best one's -/
structure RNx (w wr : World) (p k : Nat) (e : Int) : Prop where
  bel : Below w.heap.size w wr
  siz : w.heap.size + 1 < wr.heap.size
  z0 : wr.cell? ⟨w.heap.size, 0, none⟩ = some (.int .i64 0)
  z1 : wr.cell? ⟨w.heap.size, 1, none⟩ = some (.int .i64 0)
  z2 : wr.cell? ⟨w.heap.size, 2, none⟩ = some (.int .i64 0)
  y0 : wr.frozen? ⟨w.heap.size, 0, none⟩ = false
  y1 : wr.frozen? ⟨w.heap.size, 1, none⟩ = false
  y2 : wr.frozen? ⟨w.heap.size, 2, none⟩ = false
  c0 : wr.cell? ⟨w.heap.size + 1, 0, none⟩ = some (.int .i64 (k : Int))
  c1 : wr.cell? ⟨w.heap.size + 1, 1, none⟩ = some (.int .i64 (p : Int))
  c2 : wr.cell? ⟨w.heap.size + 1, 2, none⟩ = some (.int .i64 e)
  f0 : wr.frozen? ⟨w.heap.size + 1, 0, none⟩ = false
  f1 : wr.frozen? ⟨w.heap.size + 1, 1, none⟩ = false
  f2 : wr.frozen? ⟨w.heap.size + 1, 2, none⟩ = false
theorem RNx.next {w wr w1 : World} {p k : Nat} {e : Int} (h : RNx w wr p k e) (hb : Below wr.heap.size wr w1) : RNx w w1 p k e := by
  obtain ⟨hc, hf⟩ := bcell hb
  have s0 : w.heap.size < wr.heap.size := by have := h.siz; omega
  have s1 := h.siz
  exact ⟨h.bel.trans (hb.mono h.bel.size), Nat.lt_of_lt_of_le h.siz hb.size, (hc _ _ s0).trans h.z0, (hc _ _ s0).trans h.z1, (hc _ _ s0).trans h.z2, (hf _ _ s0).trans h.y0, (hf _ _ s0).trans h.y1, (hf _ _ s0).trans h.y2,
    (hc _ _ s1).trans h.c0, (hc _ _ s1).trans h.c1, (hc _ _ s1).trans h.c2, (hf _ _ s1).trans h.f0, (hf _ _ s1).trans h.f1, (hf _ _ s1).trans h.f2⟩
theorem RNx.set {w w1 : World} {p k : Nat} {e : Int} (h : RNx w w1 p k e) (K : Nat) (E : Int) :
    RNx w (((w1.setCell ⟨w.heap.size + 1, 0, none⟩ (.int .i64 (K : Int))).setCell ⟨w.heap.size + 1, 1, none⟩ (.int .i64 (p : Int))).setCell ⟨w.heap.size + 1, 2, none⟩ (.int .i64 E)) p K E := by
  obtain ⟨bel, siz, z0, z1, z2, y0, y1, y2, c0, c1, c2, f0, f1, f2⟩ := h
  have n1 : ¬ w.heap.size + 1 < w.heap.size := by omega
  have b1 := bel.setCell (p := ⟨w.heap.size + 1, 0, none⟩) (Nat.le_succ _) (.int .i64 (K : Int))
  have b2 := b1.setCell (p := ⟨w.heap.size + 1, 1, none⟩) (Nat.le_succ _) (.int .i64 (p : Int))
  have b3 := b2.setCell (p := ⟨w.heap.size + 1, 2, none⟩) (Nat.le_succ _) (.int .i64 E)
  refine ⟨b3, by simp [go_sem]; exact siz, ?_, ?_, ?_, ?_, ?_, ?_, ?_, ?_, ?_, ?_, ?_, ?_⟩ <;> simp [go_sem, z0, z1, z2, y0, y1, y2, c0, c1, c2, f0, f1, f2]
def restL (s : ByteArray) (p : Nat) : List UInt8 := s.data.toList.drop p
def bestOf (s : ByteArray) (p f n k e : Nat) : Nat × Nat := Tk.best (restL s p) f n (k, e)
theorem kind_ext (s : ByteArray) (p n : Nat) : Tk.kind ((restL s p).take n) = kindN (s.extract p (p + n)) := by
  unfold restL kindN
  congr 1
  simp
theorem rest_bt (s : ByteArray) (p n : Nat) (h : 1 ≤ n) : (restL s p).getD (n - 1) 0 = bt s (p + n - 1) := by
  unfold restL
  rw [getD_bt]
  congr 1
  omega
theorem best_step (s : ByteArray) (p f n k e : Nat) (h : 1 ≤ n) : bestOf s p (f + 1) n k e =
    if (decide (1 < n) && !(Tk.plain (bt s (p + n - 1)))) then (if 0 < kindN (s.extract p (p + n)) then (kindN (s.extract p (p + n)), n) else (k, e))
    else if 0 < kindN (s.extract p (p + n)) then bestOf s p f (n + 1) (kindN (s.extract p (p + n))) n else bestOf s p f (n + 1) k e := by
  unfold bestOf
  simp only [Tk.best]
  rw [kind_ext, rest_bt _ _ _ h]
  split
  · rfl
  · split <;> rfl
theorem rn_fin (s : ByteArray) (p k e : Nat) (err : Nat) (hT : (k, e) = Tk.tok (restL s p)) (hE : err = nxErr s p) :
    Value.tuple #[.agg #[.int .i64 (k : Int), .int .i64 (p : Int), .int .i64 ((p : Int) + (e : Int))], .int .i64 (err : Int)] = .tuple #[.agg #[.int .i64 (tkKind s p : Nat), .int .i64 (p : Nat), .int .i64 (tkEnd s p : Nat)], .int .i64 (nxErr s p : Nat)] := by
  subst hE
  have h1 : tkKind s p = k := by unfold tkKind; rw [show (s.data.toList.drop p) = restL s p from rfl, ← hT]
  have h2 : tkEnd s p = p + e := by unfold tkEnd; rw [show (s.data.toList.drop p) = restL s p from rfl, ← hT]
  rw [h1, h2, Int.natCast_add]
theorem err_bad (s : ByteArray) (p e : Nat) (hT : (0, e) = Tk.tok (restL s p)) (h : p < s.size) : 280 = nxErr s p := by
  have h1 : tkKind s p = 0 := by unfold tkKind; rw [show (s.data.toList.drop p) = restL s p from rfl, ← hT]
  unfold nxErr
  rw [if_pos ⟨h1, h⟩]
theorem err_good (s : ByteArray) (p k e : Nat) (hT : (k, e) = Tk.tok (restL s p)) (h : k ≠ 0 ∨ ¬ p < s.size) : 0 = nxErr s p := by
  have h1 : tkKind s p = k := by unfold tkKind; rw [show (s.data.toList.drop p) = restL s p from rfl, ← hT]
  unfold nxErr
  rw [if_neg (fun h2 => by rcases h with h | h; exact h (h1 ▸ h2.1); exact h h2.2)]
theorem kindN_le (s : ByteArray) : kindN s ≤ 4 := by
  unfold kindN
  cases s.data.toList with
  | nil => simp [Tk.kind]
  | cons c r =>
    rw [Tk.kind_cons]
    split
    · omega
    · split
      · omega
      · split
        · omega
        · split <;> omega

set_option maxHeartbeats 1000000 in
theorem rnext_in (s : ByteArray) (a : Nat) (w : World) (hs : s.size ≤ 140737488355328) (h0 : a ≤ s.size) :
    Calls Tryd.prog 41 #[.string s, .int .i64 (a : Int)] w fun e w' => e = .returned (.tuple #[.agg #[.int .i64 (tkKind s (skipTo s a) : Nat), .int .i64 (skipTo s a : Nat), .int .i64 (tkEnd s (skipTo s a) : Nat)], .int .i64 (nxErr s (skipTo s a) : Nat)]) ∧ Below w.heap.size w w' := by
  have hle := skipTo_le s a h0
  obtain ⟨p, hp⟩ : ∃ p, skipTo s a = p := ⟨_, rfl⟩
  have hbl := fun w => rblank_any s a w hs h0
  rw [hp] at hle hbl ⊢
  have HBL := Lib.hid hbl
  have hg := get_bt s
  clear hp hbl
  go_enter Tryd.func41, Tryd.ntmps41
  go_wp2_with fail
  refine (HBL.out _).mono ?_
  rintro e w' ⟨rfl, rfl⟩
  go_wp2_with fail
  go_loopw [7] (fun i wr => ∃ n k e : Nat, 1 ≤ n ∧ p + n ≤ s.size + 1 ∧ i = .int .i64 ((p : Int) + (n : Int)) ∧ k ≤ 4 ∧ e ≤ s.size ∧ Hid (RNx w wr p k ((p : Int) + (e : Int))) ∧ Hid (bestOf s p (s.size + 1 - (p + n)) n k e = Tk.tok (restL s p))) (fun i _ => s.size + 1 - (intOf i).toNat)
  case atStart =>
    refine ⟨1, 0, 0, by omega, by omega, rfl, by omega, by omega, Lib.hid ?_, Lib.hid ?_⟩
    · refine ⟨((Below.refl _ _).alloc (Nat.le_refl _) _).alloc (by simp) _, by simp, ?_, ?_, ?_, ?_, ?_, ?_, ?_, ?_, ?_, ?_, ?_, ?_⟩ <;> simp [go_sem]
    · unfold bestOf
      have := Tk.best_tok (restL s p)
      rw [show (restL s p).length = s.size - p by unfold restL; simp] at this
      rw [show s.size + 1 - (p + 1) = s.size - p by omega]
      exact this
  case round =>
    obtain ⟨n, k, e, hn1, hn2, rfl, hk4, he, hR, hB⟩ := hrel
    by_cases hlt : p + n ≤ s.size
    · have hkk := kindN_le (s.extract p (p + n))
      have hst := best_step s p (s.size - (p + n)) n k e hn1
      rw [show s.size - (p + n) + 1 = s.size + 1 - (p + n) by omega, hB.out] at hst
      have hkc := fun w => kind_any (s.extract p (p + n)) w (by simp; omega) (by simp; omega)
      generalize kindN (s.extract p (p + n)) = K at hkk hst hkc
      have HKC := Lib.hid hkc
      have hpl := fun w => plain_any (bt s (p + n - 1)) w
      clear hkc hB
      have hR2 := fun w1 hb => (hR.out).next (w1 := w1) hb
      have HR2 := Lib.hid hR2
      clear hR2 hR
      by_cases hK : 0 < K
      · by_cases h1n : 1 < n
        · cases hpb : Tk.plain (bt s (p + n - 1)) with
          | true =>
            simp only [hpb] at hpl hst
            have HPL := Lib.hid hpl
            have HS := Lib.hid (show bestOf s p (s.size - (p + n)) (n + 1) K n = Tk.tok (restL s p) by rw [hst]; simp [hK])
            clear hpl hst hpb

            go_wp2_with fail
            refine (HKC.out _).mono ?_
            rintro e' w1 ⟨rfl, hb⟩
            have hR1 := HR2.out _ hb
            obtain ⟨bel, siz, z0, z1, z2, y0, y1, y2, c0, c1, c2, f0, f1, f2⟩ := hR1
            go_wp2_with fail
            refine (HPL.out _).mono ?_
            rintro e' w2 ⟨rfl, rfl⟩
            go_wp2_with fail
            have hR3 := (HR2.out _ hb).set K ((p : Int) + (n : Int))
            go_roundw
            case rel => exact ⟨n + 1, K, n, by omega, by omega, by go_num, hkk, by omega, Lib.hid hR3, Lib.hid (by rw [show s.size + 1 - (p + (n + 1)) = s.size - (p + n) by omega]; exact HS.out)⟩
            case measure => simp [intOf]; omega
          | false =>
            simp only [hpb] at hpl hst
            have HPL := Lib.hid hpl
            have HT := Lib.hid (show (K, n) = Tk.tok (restL s p) by rw [hst]; simp [hK, h1n])
            clear hpl hst hpb
            have hz : K ≠ 0 := by omega
            have ez : ((K : Int) == 0) = false := by simp; omega
            have FIN := Lib.hid (rn_fin s p K n 0 HT.out (err_good s p K n HT.out (.inl hz)))
            clear hz
            go_wp2_with fail
            refine (HKC.out _).mono ?_
            rintro e' w1 ⟨rfl, hb⟩
            have hR1 := HR2.out _ hb
            have hR3 := Lib.hid (hR1.set K ((p : Int) + (n : Int)))
            obtain ⟨bel, siz, z0, z1, z2, y0, y1, y2, c0, c1, c2, f0, f1, f2⟩ := hR1
            go_wp2_with fail
            refine (HPL.out _).mono ?_
            rintro e' w2 ⟨rfl, rfl⟩
            clear bel siz z0 z1 z2 y0 y1 y2 c0 c1 c2 f0 f1 f2
            generalize (((w1.setCell ⟨w.heap.size + 1, 0, none⟩ (.int .i64 (K : Int))).setCell ⟨w.heap.size + 1, 1, none⟩ (.int .i64 (p : Int))).setCell ⟨w.heap.size + 1, 2, none⟩ (.int .i64 ((p : Int) + (n : Int)))) = w2 at hR3 ⊢
            obtain ⟨bel, siz, z0, z1, z2, y0, y1, y2, c0, c1, c2, f0, f1, f2⟩ := hR3.out
            go_wp2_with fail
            refine bodyPost_ret (v := .tuple #[.agg #[.int .i64 (K : Int), .int .i64 (p : Int), .int .i64 ((p : Int) + (n : Int))], .int .i64 0]) (by simp [results, Tryd.results41, go_sem, z0, z1, z2]) rfl ⟨congrArg Ending.returned FIN.out, by go_grown⟩
        · have HS := Lib.hid (show bestOf s p (s.size - (p + n)) (n + 1) K n = Tk.tok (restL s p) by rw [hst]; simp [hK, h1n])
          clear hpl hst
          go_wp2_with fail
          refine (HKC.out _).mono ?_
          rintro e' w1 ⟨rfl, hb⟩
          have hR1 := HR2.out _ hb
          obtain ⟨bel, siz, z0, z1, z2, y0, y1, y2, c0, c1, c2, f0, f1, f2⟩ := hR1
          go_wp2_with fail
          have hR3 := (HR2.out _ hb).set K ((p : Int) + (n : Int))
          go_roundw
          case rel => exact ⟨n + 1, K, n, by omega, by omega, by go_num, hkk, by omega, Lib.hid hR3, Lib.hid (by rw [show s.size + 1 - (p + (n + 1)) = s.size - (p + n) by omega]; exact HS.out)⟩
          case measure => simp [intOf]; omega
      · by_cases h1n : 1 < n
        · cases hpb : Tk.plain (bt s (p + n - 1)) with
          | true =>
            simp only [hpb] at hpl hst
            have HPL := Lib.hid hpl
            have HS := Lib.hid (show bestOf s p (s.size - (p + n)) (n + 1) k e = Tk.tok (restL s p) by rw [hst]; simp [hK])
            clear hpl hst hpb
            go_wp2_with fail
            refine (HKC.out _).mono ?_
            rintro e' w1 ⟨rfl, hb⟩
            go_wp2_with fail
            refine (HPL.out _).mono ?_
            rintro e' w2 ⟨rfl, rfl⟩
            go_wp2_with fail
            go_roundw
            case rel => exact ⟨n + 1, k, e, by omega, by omega, by go_num, hk4, he, Lib.hid (HR2.out _ hb), Lib.hid (by rw [show s.size + 1 - (p + (n + 1)) = s.size - (p + n) by omega]; exact HS.out)⟩
            case measure => simp [intOf]; omega
          | false =>
            simp only [hpb] at hpl hst
            have HPL := Lib.hid hpl
            have HT := Lib.hid (show (k, e) = Tk.tok (restL s p) by rw [hst]; simp [hK, h1n])
            clear hpl hst hpb
            by_cases hz : k = 0
            · by_cases hps : p < s.size
              · have ez : ((k : Int) == 0) = true := by rw [hz]; rfl
                have FIN := Lib.hid (rn_fin s p k e 280 HT.out (err_bad s p e (by rw [← hz]; exact HT.out) hps))
                clear hz
                go_wp2_with fail
                refine (HKC.out _).mono ?_
                rintro e' w1 ⟨rfl, hb⟩
                have hR3 := Lib.hid (HR2.out _ hb)
                go_wp2_with fail
                refine (HPL.out _).mono ?_
                rintro e' w2 ⟨rfl, rfl⟩
                obtain ⟨bel, siz, z0, z1, z2, y0, y1, y2, c0, c1, c2, f0, f1, f2⟩ := hR3.out
                go_wp2_with fail
                refine bodyPost_ret (v := .tuple #[.agg #[.int .i64 (k : Int), .int .i64 (p : Int), .int .i64 ((p : Int) + (e : Int))], .int .i64 280]) (by simp [results, Tryd.results41, go_sem, z0, z1, z2]) rfl ⟨congrArg Ending.returned FIN.out, by go_grown⟩
              · omega
            · have ez : ((k : Int) == 0) = false := by simp; omega
              have FIN := Lib.hid (rn_fin s p k e 0 HT.out (err_good s p k e HT.out (.inl hz)))
              clear hz
              go_wp2_with fail
              refine (HKC.out _).mono ?_
              rintro e' w1 ⟨rfl, hb⟩
              have hR3 := Lib.hid (HR2.out _ hb)
              go_wp2_with fail
              refine (HPL.out _).mono ?_
              rintro e' w2 ⟨rfl, rfl⟩
              obtain ⟨bel, siz, z0, z1, z2, y0, y1, y2, c0, c1, c2, f0, f1, f2⟩ := hR3.out
              go_wp2_with fail
              refine bodyPost_ret (v := .tuple #[.agg #[.int .i64 (k : Int), .int .i64 (p : Int), .int .i64 ((p : Int) + (e : Int))], .int .i64 0]) (by simp [results, Tryd.results41, go_sem, z0, z1, z2]) rfl ⟨congrArg Ending.returned FIN.out, by go_grown⟩
        · have HS := Lib.hid (show bestOf s p (s.size - (p + n)) (n + 1) k e = Tk.tok (restL s p) by rw [hst]; simp [hK, h1n])
          clear hpl hst
          go_wp2_with fail
          refine (HKC.out _).mono ?_
          rintro e' w1 ⟨rfl, hb⟩
          go_wp2_with fail
          go_roundw
          case rel => exact ⟨n + 1, k, e, by omega, by omega, by go_num, hk4, he, Lib.hid (HR2.out _ hb), Lib.hid (by rw [show s.size + 1 - (p + (n + 1)) = s.size - (p + n) by omega]; exact HS.out)⟩
          case measure => simp [intOf]; omega
    · have HT := Lib.hid (show (k, e) = Tk.tok (restL s p) by have h := hB.out; rw [show s.size + 1 - (p + n) = 0 by omega] at h; exact h)
      clear hB
      have hR3 := hR
      by_cases hz : k = 0
      · by_cases hps : p < s.size
        · have ez : ((k : Int) == 0) = true := by rw [hz]; rfl
          have FIN := Lib.hid (rn_fin s p k e 280 HT.out (err_bad s p e (by rw [← hz]; exact HT.out) hps))
          clear hz
          obtain ⟨bel, siz, z0, z1, z2, y0, y1, y2, c0, c1, c2, f0, f1, f2⟩ := hR3.out
          go_wp2_with fail
          refine bodyPost_ret (v := .tuple #[.agg #[.int .i64 (k : Int), .int .i64 (p : Int), .int .i64 ((p : Int) + (e : Int))], .int .i64 280]) (by simp [results, Tryd.results41, go_sem, z0, z1, z2]) rfl ⟨congrArg Ending.returned FIN.out, by go_grown⟩
        · have ez : ((k : Int) == 0) = true := by rw [hz]; rfl
          have FIN := Lib.hid (rn_fin s p k e 0 HT.out (err_good s p k e HT.out (.inr hps)))
          clear hz
          obtain ⟨bel, siz, z0, z1, z2, y0, y1, y2, c0, c1, c2, f0, f1, f2⟩ := hR3.out
          go_wp2_with fail
          refine bodyPost_ret (v := .tuple #[.agg #[.int .i64 (k : Int), .int .i64 (p : Int), .int .i64 ((p : Int) + (e : Int))], .int .i64 0]) (by simp [results, Tryd.results41, go_sem, z0, z1, z2]) rfl ⟨congrArg Ending.returned FIN.out, by go_grown⟩
      · have ez : ((k : Int) == 0) = false := by simp; omega
        have FIN := Lib.hid (rn_fin s p k e 0 HT.out (err_good s p k e HT.out (.inl hz)))
        clear hz
        obtain ⟨bel, siz, z0, z1, z2, y0, y1, y2, c0, c1, c2, f0, f1, f2⟩ := hR3.out
        go_wp2_with fail
        refine bodyPost_ret (v := .tuple #[.agg #[.int .i64 (k : Int), .int .i64 (p : Int), .int .i64 ((p : Int) + (e : Int))], .int .i64 0]) (by simp [results, Tryd.results41, go_sem, z0, z1, z2]) rfl ⟨congrArg Ending.returned FIN.out, by go_grown⟩

set_option maxHeartbeats 400000 in
theorem rnext_out (s : ByteArray) (a : Int) (w : World) (h0 : a < 0 ∨ (s.size : Int) < a) :
    Calls Tryd.prog 41 #[.string s, .int .i64 a] w fun e w' => e = .returned (.tuple #[.agg #[.int .i64 0, .int .i64 0, .int .i64 0], .int .i64 2]) ∧ Below w.heap.size w w' := by
  rcases h0 with h | h
  · go_enter Tryd.func41, Tryd.ntmps41
    go_wp2
    go_returns
    exact ⟨rfl, by go_grown⟩
  · have h' : ¬ a < 0 := by omega
    go_enter Tryd.func41, Tryd.ntmps41
    go_wp2
    go_returns
    exact ⟨rfl, by go_grown⟩
end Go.Proofs.YtihigfpikiaaiaaDoor
