/-
  All places: the row.
  No conditions: the given statement.
-/
import Derived.Test.YtedaaincibcbkaaGreatDoorLiftAnbAll
namespace Go.Proofs.YtedaaincibcbkaaGreatDoor
open Go Go.Aw Go.ChangeShapes Go.WideShapes Go.ChangeAt Go.RowKit

theorem anbAll_row : Rows.AnbAllSaid :=
  OpenClaim.holds_of_wide 8 Tryz.f8 rfl rfl rfl rfl rfl rfl rfl ⟨rfl, rfl, rfl, rfl, rfl⟩ rfl rfl rfl rfl rfl (by kernel_rfl) Tryz.func8 (by kernel_rfl)
    (of_decide_eq_true (by kernel_rfl)) (by unfold Func.isWrapper; first | (rw [if_pos (by decide +kernel)]; kernel_rfl) | (rw [if_neg (by decide +kernel)]; exact ⟨rfl, rfl⟩))
    (fun os started H enc _ => anbAll_lifted os started H enc)
end Go.Proofs.YtedaaincibcbkaaGreatDoor
