/-
  One simple selector more never weighs less; two lists together: the statement's second form, its card tied.
  No conditions: the given statement.
-/
import Derived.Test.YtlapkmobmgffoaaGreatDoorRowWeighMore
import Derived.SevenTiedAt
set_option linter.unusedVariables false
set_option linter.unusedSimpArgs false
namespace Go.Proofs.YtlapkmobmgffoaaGreatDoor
open Go Go.Aw Go.ChangeShapes Go.WideShapes Go.ChangeAt Go.RowKit

theorem weighMore_holds : Rows.WeighMoreUptoCardSaid :=
  Claim7.holds_tied_plain_at .later [] [.data, .data, .data, .data, .sentinel, .sentinel, .pinned] true (true, "e09a4c528582331e62bf3238f3d20a857f5ecf87b02cc0b97055bd49d4aae88b") true
    weighMore_row (fun _ h => by cases h) (by kernel_rfl) (fun _ h => by cases h) weighMoreUpto_row_tie rfl ⟨rfl, rfl⟩ (by kernel_rfl) rfl
    (fun f fn hf hfn => by
      obtain rfl : f = 4 := Option.some.inj ((show Tryz.prog.funcNamed "vitrine/vitrinelaw09.WeighMore" = some 4 by kernel_rfl).symm.trans hf) |>.symm
      obtain rfl : fn = Tryz.f4 := (Option.some.inj (Tryz.func4.symm.trans hfn)).symm
      exact ⟨by kernel_rfl, fun j t ht => by
        rw [Tryz.params4] at ht
        have hm : t ∈ [22] := by simpa using Array.mem_of_getElem? ht
        have hall : ([22].all fun u => !Tryz.prog.wantsStandIn u) = true := by kernel_rfl
        exact (show Tryz.prog.wantsStandIn t = false by simpa using List.all_eq_true.1 hall t hm)⟩)
    (by kernel_rfl)
#print axioms weighMore_holds
end Go.Proofs.YtlapkmobmgffoaaGreatDoor
