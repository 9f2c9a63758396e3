/-
  The weights' examples, as the code and the reference weigh them: the row.
  No conditions: the given statement.
-/
import Derived.Test.YtpggiljgcckmoaaGreatDoorLiftWeighNames
namespace Go.Proofs.YtpggiljgcckmoaaGreatDoor
open Go Go.Aw Go.ChangeShapes Go.WideShapes Go.ChangeAt Go.RowKit

theorem weighNames_row : Rows.WeighNamesSaid :=
  OpenClaim.holds_of_wide 7 Tryz.f7 rfl rfl rfl rfl rfl rfl rfl ⟨rfl, rfl, rfl, rfl, rfl⟩ rfl rfl rfl rfl rfl (by kernel_rfl) Tryz.func7 (by kernel_rfl)
    (of_decide_eq_true (by kernel_rfl)) (by unfold Func.isWrapper; first | (rw [if_pos (by decide +kernel)]; kernel_rfl) | (rw [if_neg (by decide +kernel)]; exact ⟨rfl, rfl⟩))
    (fun os started H enc _ => weighNames_lifted os started H enc)
end Go.Proofs.YtpggiljgcckmoaaGreatDoor
