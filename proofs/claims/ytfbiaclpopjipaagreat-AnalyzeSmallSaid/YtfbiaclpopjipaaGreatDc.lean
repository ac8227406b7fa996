/- The references: has, Find, reason. -/
import Derived.Test.YtfbiaclpopjipaaGreatDb
namespace Go.Proofs.YtfbiaclpopjipaaGreat
open Go.RowKit

theorem cell_one (W : World) (u : Value) (t : TypeId) : ∀ j z, ([u] : List Value)[j]? = some z → (W.alloc (.cells #[u] t)).cell? ((⟨W.heap.size, 0, none⟩ : Addr).add j) = some z := cells_list_new W [u] t
set_option maxRecDepth 100000 in
set_option maxHeartbeats 1000000 in
theorem ref_has14 {O : Nat → Prop} (x : Int) (u : Value) (l : List Int) (w : World) (h : IntsIn O w u l) (hl : l.length ≤ 1000000) :
    Calls Tryz.prog 61 #[u, .int .i64 x] w fun e w' => e = .returned (.bool (l.contains x)) ∧ w = w' := by
  obtain ⟨A, c, rfl, hc, _, hx⟩ := h
  have HX := Lib.hid hx
  clear hx
  obtain ⟨bb, hbb⟩ : ∃ b, l.contains x = b := ⟨_, rfl⟩
  rw [hbb]
  have HBB := Lib.hid hbb
  clear hbb
  go_enter Tryz.func61, Tryz.ntmps61
  go_wp2_with fail
  go_loop [5] (fun i => ∃ k : Nat, k ≤ l.length ∧ i = .int .i64 k ∧ Hid (bb = (l.drop k).contains x)) (fun i => l.length - (intOf i).toNat)
  case atStart => exact ⟨0, Nat.zero_le _, rfl, Lib.hid HBB.out.symm⟩
  case round =>
    obtain ⟨k, hk, rfl, HE⟩ := hrel
    by_cases hlt : k < l.length
    · obtain ⟨y, hy⟩ := getElem_of hlt
      obtain ⟨g, o, rfl, hg, _, d0⟩ := HX.out k y hy
      have hdr := drop_at hy
      clear hy
      by_cases hq : y = x
      · have q1 : (y == x) = true := by simpa using hq
        have HN := Lib.hid (show bb = true from by rw [HE.out, hdr, List.contains_cons, Bool.or_eq_true]; exact .inl (by simpa using hq.symm))
        clear hq hdr
        go_wp2_with fail
        go_ret
        exact ⟨by rw [HN.out]; rfl, rfl⟩
      · have q1 : (y == x) = false := by simpa using hq
        have HN := Lib.hid (show bb = (l.drop (k + 1)).contains x from by rw [HE.out, hdr, List.contains_cons, show (x == y) = false from by simpa using fun e : x = y => hq e.symm, Bool.false_or])
        clear hq hdr
        go_wp2_with fail
        go_round
        case rel => exact ⟨k + 1, by omega, by go_num, HN⟩
        case measure => simp [intOf]; omega
    · obtain rfl : k = l.length := by omega
      have hE := HE.out
      rw [List.drop_length] at hE
      have HN := Lib.hid (show bb = false from hE)
      clear hE
      go_wp2_with fail
      go_ret
      exact ⟨by rw [HN.out]; rfl, rfl⟩
set_option maxRecDepth 100000 in
set_option maxHeartbeats 1000000 in
theorem ref_find (id : Int) (a : RAr) (av : Value) (w : World) (h : RAAt w av a) (hl : a.all.length ≤ 1000000) :
    Calls Tryz.prog 82 #[av, .int .i64 id] w fun e w' => e = .returned (.int .i64 (rFind a.all id)) ∧ Below w.heap.size w w' := by
  obtain ⟨ev, rfl, he⟩ := h
  obtain ⟨wa, hwa⟩ : ∃ z, w.alloc (.cells #[ev, .int .i64 a.last] 58) = z := ⟨_, rfl⟩
  have hba : Below w.heap.size w wa := by rw [← hwa]; exact mx_al _ _
  have hbn : wa.heap[w.heap.size]? = some (.cells #[ev, .int .i64 a.last] 58 (0, 0)) := by rw [← hwa]; exact World.alloc_heap_new _ _
  have HE := Lib.hid (he.below hba)
  have HBA := Lib.hid hba
  have HWA := Lib.hid hwa
  obtain ⟨ms, hms, ⟨A, c, rfl, _, _, _⟩, _⟩ := he
  have c0 : wa.cell? ⟨w.heap.size, 0, none⟩ = some (.slice A a.all.length c) := mx_cell (j := 0) hbn
  clear hba hbn hwa hms
  go_enter Tryz.func82, Tryz.ntmps82
  go_wp2_with fail
  rw [HWA.out]
  go_loop [5] (fun i => ∃ k : Nat, k ≤ a.all.length ∧ i = .int .i64 k ∧ Hid (rFind a.all id = rFd (a.all.drop k) id k)) (fun i => a.all.length - (intOf i).toNat)
  case atStart => exact ⟨0, Nat.zero_le _, rfl, Lib.hid rfl⟩
  case round =>
    obtain ⟨k, hk, rfl, HF⟩ := hrel
    by_cases hlt : k < a.all.length
    · obtain ⟨x, hx⟩ := getElem_of hlt
      obtain ⟨g, o, c', u, hA, _, hg, d0, _, _⟩ := HE.out.at_ hx
      simp only [Value.slice.injEq, true_and] at hA
      obtain ⟨rfl, rfl⟩ := hA
      have hdr := drop_at hx
      clear hx
      by_cases hq : x.id = id
      · have q1 : (x.id == id) = true := by simpa using hq
        have HN := Lib.hid (show rFind a.all id = k from by rw [HF.out, hdr]; exact if_pos hq)
        clear hq hdr
        go_wp2_with fail
        go_ret
        exact ⟨by rw [HN.out]; rfl, HBA.out⟩
      · have q1 : (x.id == id) = false := by simpa using hq
        have HN := Lib.hid (show rFind a.all id = rFd (a.all.drop (k + 1)) id (k + 1) from by rw [HF.out, hdr]; exact if_neg hq)
        clear hq hdr
        go_wp2_with fail
        go_round
        case rel => exact ⟨k + 1, by omega, by go_num, HN⟩
        case measure => simp [intOf]; omega
    · obtain rfl : k = a.all.length := by omega
      have hF := HF.out
      rw [List.drop_length] at hF
      have HN := Lib.hid (show rFind a.all id = -1 from hF)
      clear hF
      go_wp2_with fail
      go_ret
      exact ⟨by rw [HN.out]; rfl, HBA.out⟩
theorem rbox2 (w : World) (ca ct : Array Value) (ta tt : TypeId) : ∃ wa, ((w.alloc (.cells ca ta)).alloc (.cells ct tt)) = wa ∧ Below w.heap.size w wa ∧ wa.heap[w.heap.size]? = some (.cells ca ta (0, 0)) ∧ wa.heap[w.heap.size + 1]? = some (.cells ct tt (0, 0)) := by
  refine ⟨_, rfl, (mx_al _ _).alloc (by simp) _, ?_, ?_⟩
  · rw [Below.heap_alloc _ _ _ (by simp)]
    exact World.alloc_heap_new _ _
  · have := World.alloc_heap_new (w.alloc (.cells ca ta)) (.cells ct tt)
    rwa [World.size_alloc] at this
/-- the rest of a reason -/
def rRest (its : List RIt) (na p : Int) : List Int → List Int → Option (List Int)
  | acc, [] => some acc
  | acc, x :: c => if x = na then rRest its na p acc c else if 0 ≤ rVl its x then none else if p ≤ rP its (litV x) then none else rRest its na p (acc ++ [x]) c
def rReasonAt (all : List REn) (its : List RIt) (y p id : Int) : Option (List Int × Int) :=
  if rFind all id < 0 then none else match all[(rFind all id).toNat]? with
  | some e => if e.lits.contains (-y) = true then (rRest its (-y) p [] e.lits).map (·, id) else none
  | none => none
def rReason (all : List REn) (its : List RIt) (y : Int) : Option (List Int × Int) := match its[(rP its (litV y)).toNat]? with
  | some x => rReasonAt all its y (rP its (litV y)) x.reason
  | none => none
structure RAr.Ok (a : RAr) : Prop where
  len : a.all.length ≤ 1000000
  lits : ∀ e ∈ a.all, e.lits.length ≤ 4096
theorem rRest_len (its : List RIt) (na p : Int) (acc c r : List Int) (h : rRest its na p acc c = some r) : r.length ≤ acc.length + c.length := by
  induction c generalizing acc with
  | nil =>
    obtain rfl := Option.some.inj h
    exact Nat.le_add_right _ _
  | cons x c ih =>
    unfold rRest at h
    simp only [List.length_cons]
    split at h
    · have := ih _ h
      omega
    · split at h
      · cases h
      · split at h
        · cases h
        · have := ih _ h
          simp only [List.length_append, List.length_cons, List.length_nil] at this
          omega
set_option maxRecDepth 100000 in
set_option maxHeartbeats 4000000 in
theorem ref_reason (y : Int) (a : RAr) (t : RTr) (av tv : Value) (w : World) (ha : RAAt w av a) (h : RTAt w tv t) (hao : a.Ok) (ho : t.Ok) (h0 : -9223372036854775807 ≤ y) (h1 : y ≤ 9223372036854775807) (hp : 0 ≤ rP t.items (litV y : Nat)) :
    Calls Tryz.prog 59 #[av, tv, .int .i64 y] w fun e w' => ((∃ v r id, rReason a.all t.items y = some (r, id) ∧ e = .returned (.tuple #[v, .int .i64 id, .bool true]) ∧ w'.ownsRow w.heap.size 3 1 v r.length (r.map (Value.int .i64)) ∧ r.length ≤ 4096) ∨ (rReason a.all t.items y = none ∧ e = .returned (.tuple #[.slice none 0 0, .int .i64 0, .bool false]))) ∧ Below w.heap.size w w' := by
  obtain ⟨i0, hi0, hi1, hi2, hi3⟩ := info_parts tinfo_int
  have hlen := ho.len
  have hlena := hao.len
  have HOK := Lib.hid ho
  obtain ⟨p, hp1⟩ : ∃ p : Nat, rP t.items (litV y : Nat) = p := ⟨_, (Int.toNat_of_nonneg hp).symm⟩
  have hpl : p < t.items.length := by
    have := rP_lt t.items (litV y : Nat)
    omega
  obtain ⟨x, hx⟩ := getElem_of hpl
  have HP := Lib.hid (fun (w : World) tv (h : RTAt w tv t) => hp1 ▸ ref_place14 y t tv w h ho)
  obtain ⟨res, hres⟩ : ∃ r, rReason a.all t.items y = r := ⟨_, rfl⟩
  rw [hres]
  have hrs : rReasonAt a.all t.items y p x.reason = res := by
    rw [← hres]
    unfold rReason
    rw [hp1, Int.toNat_natCast, hx]
  have w1 : IntKind.i64.wrap (-y) = -y := IntWalk.i64_in _ (by omega)
  clear hres hp hp1 ho
  obtain ⟨ev, rfl, he⟩ := ha
  obtain ⟨iv, sv, rfl, hi, hs⟩ := h
  obtain ⟨wa, hwa, hba, hb0, hb1⟩ := rbox2 w #[ev, .int .i64 a.last] #[.int .i64 t.vars, .int .i64 t.now, iv, sv] 58 61
  have HE := Lib.hid (he.below hba)
  have HI := Lib.hid (hi.below hba)
  have HT := Lib.hid (show RTAt wa (.agg #[.int .i64 t.vars, .int .i64 t.now, iv, sv]) t from ⟨iv, sv, rfl, hi.below hba, hs.below hba⟩)
  have HA := Lib.hid (show RAAt wa (.agg #[ev, .int .i64 a.last]) a from ⟨ev, rfl, he.below hba⟩)
  have HBA := Lib.hid hba
  have HWA := Lib.hid hwa
  have hz0 := heap_lt hb0
  have hz1 := heap_lt hb1
  have A0 := Lib.hid (mx_cell (j := 0) hb0)
  have A1 := Lib.hid (mx_cell (j := 1) hb0)
  have B0 := Lib.hid (mx_cell (j := 0) hb1)
  have B1 := Lib.hid (mx_cell (j := 1) hb1)
  have B2 := Lib.hid (mx_cell (j := 2) hb1)
  have B3 := Lib.hid (mx_cell (j := 3) hb1)
  clear hwa hba hb0 hb1 hs
  obtain ⟨g, o, c, rfl, hlc, hg, d0, d1, d2⟩ := HI.out.item hx
  have D1 := Lib.hid d1
  have hpc : p < c := by omega
  obtain ⟨id, hid⟩ : ∃ i, x.reason = i := ⟨_, rfl⟩
  rw [hid] at D1 hrs
  have HF := Lib.hid (fun (w : World) av (h : RAAt w av a) => ref_find id a av w h hlena)
  obtain ⟨fi, hfi⟩ : ∃ f, rFind a.all id = f := ⟨_, rfl⟩
  have hflt := rFind_lt a.all id
  unfold rReasonAt at hrs
  rw [hfi] at HF hrs hflt
  have HRS := Lib.hid hrs
  clear hi d0 d1 d2 hx hid hfi hrs
  go_enter Tryz.func59, Tryz.ntmps59
  go_upto_region 1 with fail
  rw [HWA.out]
  have b0 := ((Below.refl wa.heap.size wa).cell (p := ⟨w.heap.size + 1, 0, none⟩) hz1).trans B0.out
  have b1 := ((Below.refl wa.heap.size wa).cell (p := ⟨w.heap.size + 1, 1, none⟩) hz1).trans B1.out
  have b2 := ((Below.refl wa.heap.size wa).cell (p := ⟨w.heap.size + 1, 2, none⟩) hz1).trans B2.out
  have b3 := ((Below.refl wa.heap.size wa).cell (p := ⟨w.heap.size + 1, 3, none⟩) hz1).trans B3.out
  go_wp2_with fail
  refine (HP.out _ _ HT.out).mono ?_
  rintro e w2 ⟨rfl, hb⟩
  have HB2 := Lib.hid hb
  clear b0 b1 b2 b3 hb
  have b0 := (HB2.out.cell (p := ⟨w.heap.size + 1, 0, none⟩) hz1).trans B0.out
  have b1 := (HB2.out.cell (p := ⟨w.heap.size + 1, 1, none⟩) hz1).trans B1.out
  have b2 := (HB2.out.cell (p := ⟨w.heap.size + 1, 2, none⟩) hz1).trans B2.out
  have b3 := (HB2.out.cell (p := ⟨w.heap.size + 1, 3, none⟩) hz1).trans B3.out
  have a0 := (HB2.out.cell (p := ⟨w.heap.size, 0, none⟩) hz0).trans A0.out
  have a1 := (HB2.out.cell (p := ⟨w.heap.size, 1, none⟩) hz0).trans A1.out
  have d1 := (HB2.out.cell (p := ⟨g, o + p * 3 + 1, none⟩) hg).trans D1.out
  go_wp2_with fail
  refine (HF.out _ _ (HA.out.below HB2.out)).mono ?_
  rintro e w3 ⟨rfl, hb⟩
  have HB3 := Lib.hid (HB2.out.trans (hb.mono HB2.out.size))
  clear hb b0 b1 b2 b3 a0 a1 d1
  by_cases hf0 : fi < 0
  · have q0 : decide (fi < 0) = true := by simpa using hf0
    have HN := Lib.hid (show res = none from by rw [← HRS.out]; exact if_pos hf0)
    clear hf0 hflt
    go_wp2_with fail
    go_ret3
    exact ⟨.inr ⟨HN.out, rfl⟩, HBA.out.trans (HB3.out.mono HBA.out.size)⟩
  · have q0 : decide (fi < 0) = false := by simpa using hf0
    obtain ⟨f, rfl⟩ : ∃ f : Nat, fi = f := ⟨_, (Int.toNat_of_nonneg (by omega)).symm⟩
    have hfl : f < a.all.length := by omega
    obtain ⟨en, hen⟩ := getElem_of hfl
    have hrs := HRS.out
    rw [if_neg hf0, Int.toNat_natCast, hen] at hrs
    simp only at hrs
    obtain ⟨g2, o2, c2, u, rfl, hlc2, hg2, e0, e1, hu⟩ := HE.out.at_ hen
    have HU := Lib.hid hu
    have E1 := Lib.hid e1
    have hul : en.lits.length ≤ 4096 := hao.lits en (List.mem_of_getElem? hen)
    have hfc : f < c2 := by omega
    obtain ⟨Au, cu, rfl, _⟩ := hu
    have HRS2 := Lib.hid hrs
    clear hf0 hflt hen hrs e0 e1 HRS hao
    have a0 := (HB3.out.cell (p := ⟨w.heap.size, 0, none⟩) hz0).trans A0.out
    have a1 := (HB3.out.cell (p := ⟨w.heap.size, 1, none⟩) hz0).trans A1.out
    have b0 := (HB3.out.cell (p := ⟨w.heap.size + 1, 0, none⟩) hz1).trans B0.out
    have b1 := (HB3.out.cell (p := ⟨w.heap.size + 1, 1, none⟩) hz1).trans B1.out
    have b2 := (HB3.out.cell (p := ⟨w.heap.size + 1, 2, none⟩) hz1).trans B2.out
    have b3 := (HB3.out.cell (p := ⟨w.heap.size + 1, 3, none⟩) hz1).trans B3.out
    have e1 := (HB3.out.cell (p := ⟨g2, o2 + f * 2 + 1, none⟩) hg2).trans E1.out
    obtain ⟨bb, hbb⟩ : ∃ b, en.lits.contains (-y) = b := ⟨_, rfl⟩
    have HH := ref_has14 (-y) (.slice Au en.lits.length cu) en.lits w3 (HU.out.below HB3.out) (by omega)
    rw [hbb] at HH HRS2
    have HH := Lib.hid HH
    clear hbb
    go_wp2_with fail
    refine HH.out.mono ?_
    rintro e w' ⟨rfl, rfl⟩
    cases bb with
    | false =>
      have HN := Lib.hid (show res = none from by rw [← HRS2.out]; rfl)
      go_wp2_with fail
      go_ret3
      exact ⟨.inr ⟨HN.out, rfl⟩, HBA.out.trans (HB3.out.mono HBA.out.size)⟩
    | true =>
      have HRR := Lib.hid (show (rRest t.items (-y) p [] en.lits).map (·, id) = res from by rw [← HRS2.out]; rfl)
      clear HRS2 HH
      go_wp2_with fail
      clear a0 a1 b0 b1 b2 b3 e1
      go_loopw [12, 13] (fun v i wr => ∃ (k : Nat) (acc : List Int), k ≤ en.lits.length ∧ acc.length ≤ k ∧ i = .int .i64 k ∧ Hid (rRest t.items (-y) p [] en.lits = rRest t.items (-y) p acc (en.lits.drop k)) ∧ Hid (wr.ownsRow wa.heap.size 3 1 v acc.length (acc.map (Value.int .i64))) ∧ Hid (Below wa.heap.size wa wr)) (fun _ i _ => en.lits.length - (intOf i).toNat)
      case atStart => exact ⟨0, [], Nat.zero_le _, Nat.le_refl _, rfl, Lib.hid rfl, Lib.hid (World.ownsRow_nil _ _ _ _), HB3⟩
      case round =>
        obtain ⟨k, acc, hk, hka, rfl, HR, HV, HW⟩ := hrel
        have hzw := HW.out.size
        obtain ⟨Av, cv, rfl, _⟩ := mx_slice HV.out
        have a0 := (HW.out.cell (p := ⟨w.heap.size, 0, none⟩) hz0).trans A0.out
        have a1 := (HW.out.cell (p := ⟨w.heap.size, 1, none⟩) hz0).trans A1.out
        have b0 := (HW.out.cell (p := ⟨w.heap.size + 1, 0, none⟩) hz1).trans B0.out
        have b1 := (HW.out.cell (p := ⟨w.heap.size + 1, 1, none⟩) hz1).trans B1.out
        have b2 := (HW.out.cell (p := ⟨w.heap.size + 1, 2, none⟩) hz1).trans B2.out
        have b3 := (HW.out.cell (p := ⟨w.heap.size + 1, 3, none⟩) hz1).trans B3.out
        have e1 := (HW.out.cell (p := ⟨g2, o2 + f * 2 + 1, none⟩) hg2).trans E1.out
        by_cases hlt : k < en.lits.length
        · obtain ⟨x, hx⟩ := getElem_of hlt
          obtain ⟨A3, c3, hA3, _, _, hxs⟩ := HU.out.below HW.out
          simp only [Value.slice.injEq, true_and] at hA3
          obtain ⟨rfl, rfl⟩ := hA3
          obtain ⟨g3, o3, rfl, hg3, _, f0⟩ := hxs k x hx
          have hdr := drop_at hx
          clear hx hxs
          by_cases hq : x = -y
          · have q1 : (x == -y) = true := by simpa using hq
            have HN := Lib.hid (show rRest t.items (-y) p [] en.lits = rRest t.items (-y) p acc (en.lits.drop (k + 1)) from by rw [HR.out, hdr]; exact if_pos hq)
            clear hq hdr
            go_wp2_with fail
            go_roundw
            case rel => exact ⟨k + 1, acc, by omega, by omega, by go_num, HN, HV, HW⟩
            case measure => simp [intOf]; omega
          · have q1 : (x == -y) = false := by simpa using hq
            have HVL := Lib.hid (ref_value x t _ wr (HT.out.below HW.out) HOK.out)
            by_cases hv0 : 0 ≤ rVl t.items x
            · have q2 : decide (0 ≤ rVl t.items x) = true := by simpa using hv0
              have HN := Lib.hid (show res = none from by
                rw [← HRR.out, HR.out, hdr]
                have e : rRest t.items (-y) p acc (x :: en.lits.drop (k + 1)) = none := (if_neg hq).trans (if_pos hv0)
                rw [e]
                rfl)
              clear hq hdr hv0
              go_wp2_with fail
              refine HVL.out.mono ?_
              rintro e w4 ⟨rfl, hb⟩
              have HB4 := Lib.hid (HW.out.trans (hb.mono hzw))
              clear hb
              go_wp2_with fail
              go_ret3
              exact ⟨.inr ⟨HN.out, rfl⟩, HBA.out.trans (HB4.out.mono HBA.out.size)⟩
            · have q2 : decide (0 ≤ rVl t.items x) = false := by simpa using hv0
              have HV0 := Lib.hid hv0
              clear hv0
              go_wp2_with fail
              refine HVL.out.mono ?_
              rintro e w4 ⟨rfl, hb⟩
              have HB4 := Lib.hid (HW.out.trans (hb.mono hzw))
              have HR4 := Lib.hid hb
              clear hb HVL a0 a1 b0 b1 b2 b3 e1 f0
              have b0 := (HB4.out.cell (p := ⟨w.heap.size + 1, 0, none⟩) hz1).trans B0.out
              have b1 := (HB4.out.cell (p := ⟨w.heap.size + 1, 1, none⟩) hz1).trans B1.out
              have b2 := (HB4.out.cell (p := ⟨w.heap.size + 1, 2, none⟩) hz1).trans B2.out
              have b3 := (HB4.out.cell (p := ⟨w.heap.size + 1, 3, none⟩) hz1).trans B3.out
              have HPL := Lib.hid (ref_place14 x t _ w4 (HT.out.below HB4.out) HOK.out)
              by_cases hpp : (p : Int) ≤ rP t.items (litV x : Nat)
              · have q3 : decide ((p : Int) ≤ rP t.items (litV x : Nat)) = true := by simpa using hpp
                have HN := Lib.hid (show res = none from by
                  rw [← HRR.out, HR.out, hdr]
                  have e : rRest t.items (-y) p acc (x :: en.lits.drop (k + 1)) = none := (if_neg hq).trans ((if_neg (Int.not_le.2 HV0.out)).trans (if_pos hpp))
                  rw [e]
                  rfl)
                clear hq hdr hpp
                go_wp2_with fail
                refine HPL.out.mono ?_
                rintro e w5 ⟨rfl, hb⟩
                have HB5 := Lib.hid (HB4.out.trans (hb.mono HB4.out.size))
                clear hb
                go_wp2_with fail
                go_ret3
                exact ⟨.inr ⟨HN.out, rfl⟩, HBA.out.trans (HB5.out.mono HBA.out.size)⟩
              · have q3 : decide ((p : Int) ≤ rP t.items (litV x : Nat)) = false := by simpa using hpp
                have HN := Lib.hid (show rRest t.items (-y) p [] en.lits = rRest t.items (-y) p (acc ++ [x]) (en.lits.drop (k + 1)) from by rw [HR.out, hdr]; exact (if_neg hq).trans ((if_neg (Int.not_le.2 HV0.out)).trans (if_neg hpp)))
                clear hq hdr hpp
                go_wp2_with fail
                refine HPL.out.mono ?_
                rintro e w5 ⟨rfl, hb⟩
                have HB5 := Lib.hid (HB4.out.trans (hb.mono HB4.out.size))
                have hz5 := HB5.out.size
                have HV5 := Lib.hid (own_below (own_below HV.out HR4.out) hb)
                clear hb HPL b0 b1 b2 b3
                go_wp2_with (at_builtin; refine wpList_append_own_at _ rfl _ _ 36 rfl wa.heap.size 3 i0 (.int .i64 0) 1 8 Tryz.underlying36 hi0 hi1 hi2 hi3 rfl (by decide) _ acc.length _ rfl (own_below HV5.out (mx_al w5 _)) ⟨w5.heap.size, 0, none⟩ 1 1 [.int .i64 x] rfl rfl (cell_one _ _ _) (by simp [Value.oneCell']) (by unfold maxLen; omega) (by omega) (by simp; omega) ?_; intro v' w9 hown hgrow hnl hat; obtain ⟨Aw, kw, hv2, _⟩ := mx_slice hown; subst hv2; have HOWN := Lib.hid hown; have HG := Lib.hid hgrow; clear hown hgrow hnl hat)
                have hw9 : Below wa.heap.size wa w9 := (HB5.out.trans ((mx_al w5 (.cells #[.int .i64 x] 3)).mono hz5)).grown HG.out (by simp; omega) (fun g hg => (own_lt HV5.out g hg).1)
                go_roundw
                case rel => exact ⟨k + 1, acc ++ [x], by omega, by simp; omega, by go_num, HN, Lib.hid (by rw [List.length_append, List.map_append]; exact HOWN.out), Lib.hid hw9⟩
                case measure => simp [intOf]; omega
        · obtain rfl : k = en.lits.length := by omega
          have hR := HR.out
          rw [List.drop_length] at hR
          have HN := Lib.hid (show some (acc, id) = res from by rw [← HRR.out, hR]; rfl)
          clear hR
          go_wp2_with fail
          go_ret3
          exact ⟨.inl ⟨_, acc, id, HN.out.symm, rfl, own_mono HV.out HBA.out.size, by omega⟩, HBA.out.trans (HW.out.mono HBA.out.size)⟩
end Go.Proofs.YtfbiaclpopjipaaGreat
