-- Written by a program of this session (wip/tools/pp.py) for this claim.
import Derived.Test.YtelhcijoegjjnaaPxecdysislaw09IdentOrder
import Derived.Test.YtelhcijoegjjnaaOpen
namespace Go.Proofs.Ytelhcijoegjjnaa.P
open Go.RowKit Go.Proofs.YtelhcijoegjjnaaW.PrintWords Go.Proofs.YtelhcijoegjjnaaW.PrintLast Go.Proofs.YtelhcijoegjjnaaW.PrintMore
attribute [local go_sem] max2_int min2_int max_two min_two max_three min_three max_four min_four   -- for this text's walks alone
set_option linter.unusedVariables false
set_option linter.unusedSimpArgs false

theorem IdentOrder_opens22 : Open.Opens Try.prog 22 (Kd.slice 9 Kd.string) (fun x => ((x).length * 16 ≤ 140737488351232 ∧ ∀ y2 ∈ (x), (y2).size ≤ 140737488351232)) := Open.Opens.slice (e := 9) (b := 16) Try.underlying22 (by kernel_rfl) (by kernel_rfl) (Open.Opens.string Try.underlying9)
def ecdysislaw09_IdentOrder.Pure : Prop := ∀ (y0_ : List ByteArray) (y1_ : List ByteArray), ((y0_).length * 16 ≤ 140737488351232 ∧ ∀ y1 ∈ (y0_), (y1).size ≤ 140737488351232) → ((y1_).length * 16 ≤ 140737488351232 ∧ ∀ y1 ∈ (y1_), (y1).size ≤ 140737488351232) → ∃ k, ecdysislaw09_IdentOrder.f k y0_ y1_ = some true
end Go.Proofs.Ytelhcijoegjjnaa.P
