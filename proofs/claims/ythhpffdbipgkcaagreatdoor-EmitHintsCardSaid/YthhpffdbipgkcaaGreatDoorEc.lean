/- Learn (package emit): its parts. -/
import Derived.Test.YthhpffdbipgkcaaGreatDoorEb
namespace Go.Proofs.YthhpffdbipgkcaaGreatDoor
open Go.RowKit

theorem learn_fn {O : Nat → Prop} (bx b : Nat) (L : ELog) (x : Int) (w : World) (hb : w.cell? ⟨bx, 0, none⟩ = some (.pointer (some ⟨b, 0, none⟩))) (h : LogAt O w b L) (hx : (Lit.int .i64 x).wf = true) :
    Calls Tryz.prog 30 #[.int .i64 x, .pointer (some ⟨bx, 0, none⟩)] w fun e w' => e = .returned (.bool (!L.has x)) ∧ w = w' := by
  have H := log_has b L x w h hx
  obtain ⟨bb, hbb⟩ : ∃ bb, L.has x = bb := ⟨_, rfl⟩
  rw [hbb] at H ⊢
  have H := Lib.hid H
  clear hbb h
  go_enter Tryz.func30, Tryz.ntmps30
  go_wp2_with fail
  refine H.out.mono ?_
  rintro e w' ⟨rfl, rfl⟩
  go_wp2_with fail
  go_ret
  exact ⟨rfl, rfl⟩
set_option maxRecDepth 100000 in
set_option maxHeartbeats 1000000 in
theorem index_has {O O' : Nat → Prop} (u : Value) (xs : List Int) (bx b : Nat) (L : ELog) (w : World) (h1 : IntsIn O' w u xs) (hs : xs.length ≤ 140737488355328) (hw : ∀ x ∈ xs, (Lit.int .i64 x).wf = true)
    (hb : w.cell? ⟨bx, 0, none⟩ = some (.pointer (some ⟨b, 0, none⟩))) (h : LogAt O w b L) :
    Calls Tryz.prog 50 #[u, .func (.func 30) #[] #[.pointer (some ⟨bx, 0, none⟩)]] w (IdxPost (xs.any fun x => !L.has x) w) := by
  obtain ⟨A, c, rfl, hc, _, hx⟩ := h1
  obtain ⟨bb, hbb⟩ : ∃ bb, (xs.any fun x => !L.has x) = bb := ⟨_, rfl⟩
  rw [hbb]
  have HB := Lib.hid hbb
  have HX := Lib.hid hx
  have HF := Lib.hid (fun x hx => learn_fn bx b L x w hb h hx)
  clear hx hbb hb h
  go_enter Tryz.func50, Tryz.ntmps50
  go_wp2
  go_loop [8] (fun i => ∃ k : Nat, k ≤ xs.length ∧ i = .int .i64 k ∧ Hid (∀ j x, j < k → xs[j]? = some x → L.has x = true)) (fun i => xs.length - (intOf i).toNat)
  case atStart => exact ⟨0, Nat.zero_le _, rfl, Lib.hid (fun j x hj => by omega)⟩
  case round =>
    obtain ⟨k, hk, rfl, HE⟩ := hrel
    by_cases hlt : k < xs.length
    · obtain ⟨x, hxk⟩ := getElem_of hlt
      obtain ⟨g, o, rfl, hg, _, d1⟩ := HX.out k x hxk
      have HXK := Lib.hid hxk
      have HW := HF.out x (hw x (List.mem_of_getElem? hxk))
      clear hxk
      cases hl : L.has x with
      | false =>
        rw [hl] at HW
        have HL := Lib.hid hl
        have HW := Lib.hid HW
        clear hl
        go_wp2_with fail
        refine HW.out.mono ?_
        rintro e w' ⟨rfl, rfl⟩
        go_wp2
        go_ret
        refine ⟨⟨_, rfl, ?_⟩, rfl⟩
        rw [← HB.out, List.any_eq_true.2 ⟨x, List.mem_of_getElem? HXK.out, by rw [HL.out]; rfl⟩]
        exact decide_eq_true (by omega)
      | true =>
        rw [hl] at HW
        have HL := Lib.hid hl
        have HW := Lib.hid HW
        clear hl
        go_wp2_with fail
        refine HW.out.mono ?_
        rintro e w' ⟨rfl, rfl⟩
        go_wp2
        go_round
        case rel => exact ⟨k + 1, by omega, by go_num, Lib.hid (fun j y hj hy => by
          rcases Nat.lt_or_ge j k with h | h
          · exact HE.out j y h hy
          · obtain rfl : j = k := by omega
            rw [HXK.out] at hy
            obtain rfl := Option.some.inj hy
            exact HL.out)⟩
        case measure => simp [intOf]; omega
    · obtain rfl : k = xs.length := by omega
      go_wp2
      go_ret
      refine ⟨⟨_, rfl, ?_⟩, rfl⟩
      have hm : (xs.any fun x => !L.has x) = false := List.any_eq_false.2 (fun x hx => by
        obtain ⟨j, hj⟩ := List.getElem?_of_mem hx
        rw [HE.out j x (List.getElem?_eq_some_iff.1 hj).1 hj]
        decide)
      rw [← HB.out, hm]
      rfl
set_option maxHeartbeats 400000 in
theorem contains_has {O O' : Nat → Prop} (u : Value) (xs : List Int) (bx b : Nat) (L : ELog) (w : World) (h1 : IntsIn O' w u xs) (hs : xs.length ≤ 140737488355328) (hw : ∀ x ∈ xs, (Lit.int .i64 x).wf = true)
    (hb : w.cell? ⟨bx, 0, none⟩ = some (.pointer (some ⟨b, 0, none⟩))) (h : LogAt O w b L) :
    Calls Tryz.prog 29 #[u, .func (.func 30) #[] #[.pointer (some ⟨bx, 0, none⟩)]] w fun e w' => e = .returned (.bool (xs.any fun x => !L.has x)) ∧ w = w' := by
  have H0 := index_has u xs bx b L w h1 hs hw hb h
  obtain ⟨bb, hbb⟩ : ∃ bb, (xs.any fun x => !L.has x) = bb := ⟨_, rfl⟩
  rw [hbb] at H0 ⊢
  have H := Lib.hid H0
  clear H0 hbb hb h
  go_enter Tryz.func29, Tryz.ntmps29
  go_wp2_with fail
  refine H.out.mono ?_
  rintro e w' ⟨⟨i, rfl, hi⟩, rfl⟩
  have HI := Lib.hid hi
  clear hi
  go_wp2_with fail
  go_ret
  exact ⟨ret_bool HI.out, rfl⟩
end Go.Proofs.YthhpffdbipgkcaaGreatDoor
