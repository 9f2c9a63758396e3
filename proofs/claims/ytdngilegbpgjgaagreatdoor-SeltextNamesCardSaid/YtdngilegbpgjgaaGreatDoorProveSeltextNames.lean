/-
  Examples of selectors, limits and errors: the statement, its card tied.
  No conditions: the given statement.
-/
import Derived.Test.YtdngilegbpgjgaaGreatDoorRowSeltextNames
import Derived.SevenTiedAt
set_option linter.unusedVariables false
set_option linter.unusedSimpArgs false
namespace Go.Proofs.YtdngilegbpgjgaaGreatDoor
open Go Go.Aw Go.ChangeShapes Go.WideShapes Go.ChangeAt Go.RowKit

theorem seltextNames_holds : Rows.SeltextNamesCardSaid :=
  Claim7.holds_tied_plain_at .later [] [.data, .data, .data, .data, .sentinel, .sentinel, .pinned] true (true, "6373f0478161d42f6fb810999cad22f4f365e8a8374b28caa868dc78782008e4") true
    seltextNames_row (fun _ h => by cases h) (by kernel_rfl) (fun _ h => by cases h) seltextNames_row_tie rfl ⟨rfl, rfl⟩ (by kernel_rfl) rfl
    (fun f fn hf hfn => by
      obtain rfl : f = 3 := Option.some.inj ((show Tryz.prog.funcNamed "vitrine/vitrinelaw08.SeltextNames" = some 3 by kernel_rfl).symm.trans hf) |>.symm
      obtain rfl : fn = Tryz.f3 := (Option.some.inj (Tryz.func3.symm.trans hfn)).symm
      exact ⟨by kernel_rfl, fun j t ht => by
        rw [Tryz.params3] at ht
        simp at ht⟩)
    (by kernel_rfl)
#print axioms seltextNames_holds
end Go.Proofs.YtdngilegbpgjgaaGreatDoor
