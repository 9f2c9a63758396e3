/-
  A list in a pseudo-class weighs as the greatest alone: the statement's second form, its card tied.
  No conditions: the given statement.
-/
import Derived.Test.YtpggiljgcckmoaaGreatDoorRowWeighInside
import Derived.SevenTiedAt
set_option linter.unusedVariables false
set_option linter.unusedSimpArgs false
namespace Go.Proofs.YtpggiljgcckmoaaGreatDoor
open Go Go.Aw Go.ChangeShapes Go.WideShapes Go.ChangeAt Go.RowKit

theorem weighInside_holds : Rows.WeighInsideUptoCardSaid :=
  Claim7.holds_tied_plain_at .later [] [.data, .data, .data, .data, .sentinel, .sentinel, .pinned] true (true, "a1b511d6f36f044a5b10a0dbbf831ff2d52f93d045a0e5c8f01bc5fd3f50d1d4") true
    weighInside_row (fun _ h => by cases h) (by kernel_rfl) (fun _ h => by cases h) weighInsideUpto_row_tie rfl ⟨rfl, rfl⟩ (by kernel_rfl) rfl
    (fun f fn hf hfn => by
      obtain rfl : f = 3 := Option.some.inj ((show Tryz.prog.funcNamed "vitrine/vitrinelaw09.WeighInside" = some 3 by kernel_rfl).symm.trans hf) |>.symm
      obtain rfl : fn = Tryz.f3 := (Option.some.inj (Tryz.func3.symm.trans hfn)).symm
      exact ⟨by kernel_rfl, fun j t ht => by
        rw [Tryz.params3] at ht
        have hm : t ∈ [22] := by simpa using Array.mem_of_getElem? ht
        have hall : ([22].all fun u => !Tryz.prog.wantsStandIn u) = true := by kernel_rfl
        exact (show Tryz.prog.wantsStandIn t = false by simpa using List.all_eq_true.1 hall t hm)⟩)
    (by kernel_rfl)
#print axioms weighInside_holds
end Go.Proofs.YtpggiljgcckmoaaGreatDoor
