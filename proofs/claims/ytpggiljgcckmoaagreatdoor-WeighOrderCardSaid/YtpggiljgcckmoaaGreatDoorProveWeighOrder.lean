/-
  The order of weights: the statement, its card tied.
  No conditions: the given statement.
-/
import Derived.Test.YtpggiljgcckmoaaGreatDoorRowWeighOrder
import Derived.SevenTiedAt
namespace Go.Proofs.YtpggiljgcckmoaaGreatDoor
open Go Go.Aw Go.ChangeShapes Go.WideShapes Go.ChangeAt Go.RowKit

theorem weighOrder_holds : Rows.WeighOrderCardSaid :=
  Claim7.holds_tied_plain_at .later [] [.data, .data, .data, .data, .sentinel, .sentinel, .pinned] true (true, "a1b511d6f36f044a5b10a0dbbf831ff2d52f93d045a0e5c8f01bc5fd3f50d1d4") true
    weighOrder_row (fun _ h => by cases h) (by kernel_rfl) (fun _ h => by cases h) weighOrder_row_tie rfl ⟨rfl, rfl⟩ (by kernel_rfl) rfl
    (fun f fn hf hfn => by
      obtain rfl : f = 6 := Option.some.inj ((show Tryz.prog.funcNamed "vitrine/vitrinelaw09.WeighOrder" = some 6 by kernel_rfl).symm.trans hf) |>.symm
      obtain rfl : fn = Tryz.f6 := (Option.some.inj (Tryz.func6.symm.trans hfn)).symm
      exact ⟨by kernel_rfl, fun j t ht => by
        rw [Tryz.params6] at ht
        have hm : t ∈ [28] := by simpa using Array.mem_of_getElem? ht
        have hall : ([28].all fun u => !Tryz.prog.wantsStandIn u) = true := by kernel_rfl
        exact (show Tryz.prog.wantsStandIn t = false by simpa using List.all_eq_true.1 hall t hm)⟩)
    (by kernel_rfl)
#print axioms weighOrder_holds
end Go.Proofs.YtpggiljgcckmoaaGreatDoor
