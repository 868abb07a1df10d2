/- Proved: whatever list of names comes in, IdentLists returns true (which names rise, and which are there once), and leaves the list as it was. No conditions. -/
import Derived.Test.YtelhcijoegjjnaaStIdentLists
import Derived.Test.YtelhcijoegjjnaaIdentLaws
namespace Go.Proofs.Ytelhcijoegjjnaa.Pure
open Go.RowKit Go.Proofs.Ytelhcijoegjjnaa.P Go.Proofs.YtelhcijoegjjnaaW.PrintWords
theorem IdentLists : ecdysislaw09_IdentLists.Pure := by
  intro l hB
  by_cases hl : (l.length : Int) > 50
  · refine ⟨0, ?_⟩
    unfold ecdysislaw09_IdentLists.f
    rw [if_pos hl, live_tells]; rfl
  · obtain ⟨r, ⟨K1, h1⟩, hr⟩ := Rise_tells l (by omega)
    obtain ⟨q, ⟨K2, h2⟩, hq⟩ := refRise_tells l (by omega)
    obtain ⟨K3, h3⟩ := refOnce_tells l (by omega)
    obtain rfl : r = q := by rw [Bool.eq_iff_iff, hr, hq]
    refine ⟨max K1 (max K2 K3), ?_⟩
    have e1 := h1 (max K1 (max K2 K3)) (by omega)
    have e2 := h2 (max K1 (max K2 K3)) (by omega)
    have e3 := h3 (max K1 (max K2 K3)) (by omega)
    simp only at e1 e2 e3
    have e4 : ident_Once.f l = some (decide (bsOf l).Nodup) := by
      unfold ident_Once.f
      rw [if_pos (by omega)]
    unfold ecdysislaw09_IdentLists.f
    simp only [e1, e2, e3, e4, live_tells, Option.bind_some, if_neg hl, beq_self_eq_true, if_true]
    cases r with
    | false => simp
    | true =>
      have : (bsOf l).Nodup := Str.rise_nodup (hr.1 rfl)
      simp [this]
end Go.Proofs.Ytelhcijoegjjnaa.Pure
