/-
  The weights' examples, as the code and the reference weigh them: the statement, its card tied.
  No conditions: the given statement.
-/
import Derived.Test.YtpggiljgcckmoaaGreatDoorRowWeighNames
import Derived.SevenTiedAt
namespace Go.Proofs.YtpggiljgcckmoaaGreatDoor
open Go Go.Aw Go.ChangeShapes Go.WideShapes Go.ChangeAt Go.RowKit

theorem weighNames_holds : Rows.WeighNamesCardSaid :=
  Claim7.holds_tied_plain_at .later [] [.data, .data, .data, .data, .sentinel, .sentinel, .pinned] true (true, "a1b511d6f36f044a5b10a0dbbf831ff2d52f93d045a0e5c8f01bc5fd3f50d1d4") true
    weighNames_row (fun _ h => by cases h) (by kernel_rfl) (fun _ h => by cases h) weighNames_row_tie rfl ⟨rfl, rfl⟩ (by kernel_rfl) rfl
    (fun f fn hf hfn => by
      obtain rfl : f = 7 := Option.some.inj ((show Tryz.prog.funcNamed "vitrine/vitrinelaw09.WeighNames" = some 7 by kernel_rfl).symm.trans hf) |>.symm
      obtain rfl : fn = Tryz.f7 := (Option.some.inj (Tryz.func7.symm.trans hfn)).symm
      exact ⟨by kernel_rfl, fun j t ht => by
        rw [Tryz.params7] at ht
        simp at ht⟩)
    (by kernel_rfl)
#print axioms weighNames_holds
end Go.Proofs.YtpggiljgcckmoaaGreatDoor
