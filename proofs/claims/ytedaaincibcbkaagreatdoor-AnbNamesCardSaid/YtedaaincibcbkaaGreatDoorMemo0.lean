/-
  Runs of calls, by the kernel.
  No conditions.
-/
import Derived.Test.YtedaaincibcbkaaGreatDoorMemo
namespace Go.Proofs.YtedaaincibcbkaaGreatDoor
open Go Go.Aw Go.RowKit
set_option maxRecDepth 1000000
theorem memo0_ok : memoOK Tryz.prog cfg known2 memo0 = true := by kernel_rfl
end Go.Proofs.YtedaaincibcbkaaGreatDoor
