/-
  The order of weights: the row.
  No conditions: the given statement.
-/
import Derived.Test.YtpggiljgcckmoaaGreatDoorLiftWeighOrder
namespace Go.Proofs.YtpggiljgcckmoaaGreatDoor
open Go Go.Aw Go.ChangeShapes Go.WideShapes Go.ChangeAt Go.RowKit

theorem weighOrder_row : Rows.WeighOrderSaid :=
  OpenClaim.holds_of_wide 6 Tryz.f6 rfl rfl rfl rfl rfl rfl rfl ⟨rfl, rfl, rfl, rfl, rfl⟩ rfl rfl rfl rfl rfl (by kernel_rfl) Tryz.func6 (by kernel_rfl)
    (of_decide_eq_true (by kernel_rfl)) (by unfold Func.isWrapper; first | (rw [if_pos (by decide +kernel)]; kernel_rfl) | (rw [if_neg (by decide +kernel)]; exact ⟨rfl, rfl⟩))
    (fun os started H enc _ => weighOrder_lifted os started H enc)
end Go.Proofs.YtpggiljgcckmoaaGreatDoor
