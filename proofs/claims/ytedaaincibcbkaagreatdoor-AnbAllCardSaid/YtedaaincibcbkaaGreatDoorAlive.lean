/-
  The examples of the chapter: run by the kernel.
  No conditions.
-/
import Derived.Test.YtedaaincibcbkaaGreatDoorKnown
namespace Go.Proofs.YtedaaincibcbkaaGreatDoor
open Go Go.Aw Go.RowKit
set_option maxRecDepth 1000000
theorem run17 : callD Tryz.prog cfg known2 30 17 [] [] = some (bool true, none) := by kernel_rfl
theorem con17 : Con Tryz.prog 17 [] (bool true) := callD_con known2_ok (by kernel_rfl) (by kernel_rfl) (by kernel_rfl) run17
end Go.Proofs.YtedaaincibcbkaaGreatDoor
