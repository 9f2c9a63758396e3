/-
  In, All, Text and Check answer as the reference does: the row.
  No conditions: the given statement.
-/
import Derived.Test.YtedaaincibcbkaaDoorLiftTells
namespace Go.Proofs.YtedaaincibcbkaaDoor
open Go Go.Aw Go.ChangeShapes Go.WideShapes Go.ChangeAt Go.RowKit

theorem anbTells_row : Rows.AnbTellsSaid :=
  OpenClaim.holds_of_wide 3 Tryd.f3 rfl rfl rfl rfl rfl rfl rfl ⟨rfl, rfl, rfl, rfl, rfl⟩ rfl rfl rfl rfl rfl (by kernel_rfl) Tryd.func3 (by kernel_rfl)
    (of_decide_eq_true (by kernel_rfl)) (by unfold Func.isWrapper; first | (rw [if_pos (by decide +kernel)]; kernel_rfl) | (rw [if_neg (by decide +kernel)]; exact ⟨rfl, rfl⟩))
    (fun os started H enc _ => anbTells_lifted os started H enc)
end Go.Proofs.YtedaaincibcbkaaDoor
