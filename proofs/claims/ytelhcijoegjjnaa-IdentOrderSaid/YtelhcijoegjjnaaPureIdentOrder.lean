/- Proved: whatever two lists of names come in, IdentOrder returns true (whether names are there once does not hang on their order), and leaves the lists as they were. No conditions. -/
import Derived.Test.YtelhcijoegjjnaaStIdentOrder
import Derived.Test.YtelhcijoegjjnaaIdentLaws
namespace Go.Proofs.Ytelhcijoegjjnaa.Pure
open Go.RowKit Go.Proofs.Ytelhcijoegjjnaa.P Go.Proofs.YtelhcijoegjjnaaW.PrintWords
theorem IdentOrder : ecdysislaw09_IdentOrder.Pure := by
  intro a b hA hB
  have once : ∀ l : List ByteArray, l.length ≤ 60 → ident_Once.f l = some (decide (bsOf l).Nodup) := by
    intro l hl
    unfold ident_Once.f
    rw [if_pos (by omega)]
  refine ⟨2, ?_⟩
  unfold ecdysislaw09_IdentOrder.f
  by_cases ha : (a.length : Int) > 30
  · rw [if_pos ha]
    simp only [ecdysislaw09_IdentOrder.j0, if_true, live_tells, Option.bind_some]
  · rw [if_neg ha]
    by_cases hb : (b.length : Int) > 30
    · simp only [ecdysislaw09_IdentOrder.j0, live_tells, Option.bind_some, decide_eq_true hb, if_true]
    · simp only [ecdysislaw09_IdentOrder.j0, live_tells, Option.bind_some, decide_eq_false hb, Bool.false_eq_true, if_false, List.nil_append, List.length_nil]
      rw [if_pos (by omega), if_pos (by omega), if_pos (by omega), if_pos (by omega)]
      rw [once (a ++ b) (by simp; omega), once (b ++ a) (by simp; omega), once a (by omega), once b (by omega)]
      simp only [Option.bind_some]
      have e : decide (bsOf (b ++ a)).Nodup = decide (bsOf (a ++ b)).Nodup := by
        rw [Bool.eq_iff_iff, decide_eq_true_iff, decide_eq_true_iff]
        unfold bsOf
        rw [List.map_append, List.map_append]
        exact List.perm_append_comm.nodup_iff
      rw [e]
      by_cases h : (bsOf (a ++ b)).Nodup
      · have h2 := h
        unfold bsOf at h2
        rw [List.map_append, List.nodup_append] at h2
        have h3 : (bsOf a).Nodup := h2.1
        have h4 : (bsOf b).Nodup := h2.2.1
        rw [decide_eq_true h, decide_eq_true h3, decide_eq_true h4]; rfl
      · rw [decide_eq_false h]; rfl
end Go.Proofs.Ytelhcijoegjjnaa.Pure
