/- Steps (package emit). -/
import Derived.Test.YtbokfjmbamgenaaDoorEh
namespace Go.Proofs.YtbokfjmbamgenaaDoor
open Go.RowKit

/-- bounds that every log keeps -/
structure ELog.Ok (L : ELog) : Prop where
  steps : L.steps.length ≤ 262144
  last : L.last ≤ 1073741824
  each : ∀ s ∈ L.steps, s.lits.length ≤ 4096 ∧ s.hints.length ≤ 65536
set_option maxHeartbeats 400000 in
theorem log_steps {O : Nat → Prop} (b : Nat) (L : ELog) (w : World) (h : LogAt O w b L) (hk : L.Ok) :
    Calls Tryd.prog 15 #[.pointer (some ⟨b, 0, none⟩)] w fun e w' => ∃ v' ms', e = .returned v' ∧ StepsAt (fun g => w.heap.size ≤ g) w' v' L.steps ms' ∧ w'.ownsRow w.heap.size 57 4 v' ms'.length (ms'.flatMap MStep.cells) ∧ Below w.heap.size w w' := by
  obtain ⟨mb, sv, ms, h⟩ := h
  obtain ⟨c0, c1, c2, c3, c4⟩ := h.cells
  have hms : ms.length = L.steps.length := by rw [← h.steps, List.length_map]
  have hs := hk.steps
  have HC := Lib.hid (copy_any sv L.steps ms w ⟨h.row, h.steps, h.each⟩ (by omega) (fun s hs => by have := hk.each s hs; omega))
  obtain ⟨As, cs, rfl, hcs⟩ := own_slice h.row
  clear h c0 c1 c2 c4 hms hs
  go_enter Tryd.func15, Tryd.ntmps15
  go_wp2_with fail
  refine HC.out.mono ?_
  rintro e w1 ⟨v', ms', rfl, hs1, hr1, hb1⟩
  have H1 := Lib.hid hs1
  have H2 := Lib.hid hr1
  have H3 := Lib.hid hb1
  clear hs1 hr1 hb1
  go_wp2_with fail
  go_ret
  exact ⟨v', ms', rfl, H1.out, H2.out, H3.out⟩
theorem steps_nil (w : World) : Calls Tryd.prog 15 #[.pointer none] w fun e w' => e = .returned (.slice none 0 0) ∧ w = w' := by
  go_enter Tryd.func15, Tryd.ntmps15
  go_wp2
  go_ret
  exact ⟨rfl, rfl⟩
theorem learn_keeps {L : ELog} {c h : List Int} (hk : L.Ok) (he : learnErr L c h = 0) : (L.learn c h).Ok := by
  unfold learnErr at he
  split at he
  · cases he
  · split at he
    · cases he
    · rename_i h2
      split at he
      · cases he
      · split at he
        · cases he
        · split at he
          · cases he
          · rename_i h3 _ h5
            have hc : c.length ≤ 4096 := by
              rw [Bool.not_eq_false] at h2
              unfold clauseB at h2
              rw [Bool.and_eq_true, decide_eq_true_eq] at h2
              exact h2.1
            unfold ELog.full at h5
            simp only [Bool.or_eq_true, decide_eq_true_eq, not_or] at h5
            refine ⟨?_, ?_, fun s hs => ?_⟩
            · simp only [ELog.learn, List.length_append, List.length_singleton]; omega
            · simp only [ELog.learn]; omega
            · simp only [ELog.learn, List.mem_append, List.mem_singleton] at hs
              rcases hs with hs | rfl
              · exact hk.each s hs
              · exact ⟨hc, by show h.length ≤ 65536; omega⟩
end Go.Proofs.YtbokfjmbamgenaaDoor
