/-
  The weights of lists by either way give the same answers, where what comes in is of bulk at most 1048576.
  No conditions: the given statement, its second form.
-/
import Derived.Test.YtlapkmobmgffoaaLiftWeighLists
set_option linter.unusedVariables false
set_option linter.unusedSimpArgs false
namespace Go.Proofs.Ytlapkmobmgffoaa
open Go Go.Aw Go.ChangeShapes Go.WideShapes Go.ChangeAt Go.RowKit

theorem weighLists_holds : Rows.WeighListsUptoSaid :=
  OpenClaim.holds_of_cond 3 Try.f3 rfl rfl rfl rfl rfl rfl rfl ⟨rfl, rfl, rfl, rfl, rfl⟩ rfl rfl rfl rfl rfl (by kernel_rfl) Try.func3 (by kernel_rfl)
    (of_decide_eq_true (by kernel_rfl)) (by unfold Func.isWrapper; first | (rw [if_pos (by decide +kernel)]; kernel_rfl) | (rw [if_neg (by decide +kernel)]; exact ⟨rfl, rfl⟩))
    (fun os started H enc _ F => weighLists_lifted os started H enc F)
#print axioms weighLists_holds
end Go.Proofs.Ytlapkmobmgffoaa
