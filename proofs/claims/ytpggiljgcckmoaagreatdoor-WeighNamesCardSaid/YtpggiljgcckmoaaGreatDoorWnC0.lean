/-
  Runs of calls, by the kernel.
  No conditions.
-/
import Derived.Test.YtpggiljgcckmoaaGreatDoorWnM
namespace Go.Proofs.YtpggiljgcckmoaaGreatDoor
open Go Go.Aw Go.RowKit
set_option maxRecDepth 1000000
theorem memWn0_ok : memoOK Tryz.prog cfg knWn0 memWn0 = true := by kernel_rfl
end Go.Proofs.YtpggiljgcckmoaaGreatDoor
