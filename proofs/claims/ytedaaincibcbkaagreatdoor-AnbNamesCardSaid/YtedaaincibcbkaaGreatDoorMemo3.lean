/-
  Runs of calls, by the kernel.
  No conditions.
-/
import Derived.Test.YtedaaincibcbkaaGreatDoorMemo
namespace Go.Proofs.YtedaaincibcbkaaGreatDoor
open Go Go.Aw Go.RowKit
set_option maxRecDepth 1000000
theorem memo3_ok : memoOK Tryz.prog cfg known2 memo3 = true := by kernel_rfl
end Go.Proofs.YtedaaincibcbkaaGreatDoor
