/-
  The examples of the chapter: run by the kernel.
  No conditions.
-/
import Derived.Test.YtfijncpmhnnpiaaGreatDoorC1
set_option linter.unusedVariables false
set_option linter.unusedSimpArgs false
namespace Go.Proofs.YtfijncpmhnnpiaaGreatDoor
open Go Go.Aw Go.RowKit
set_option maxRecDepth 1000000
variable [MaxL]
theorem run07 : callD Tryz.prog cfg known2 30 5 [] [] = some (bool true, none) := by kernel_rfl
theorem con07 : Con Tryz.prog 5 [] (bool true) := callD_con known2_ok (by kernel_rfl) (by kernel_rfl) (by kernel_rfl) run07
end Go.Proofs.YtfijncpmhnnpiaaGreatDoor
