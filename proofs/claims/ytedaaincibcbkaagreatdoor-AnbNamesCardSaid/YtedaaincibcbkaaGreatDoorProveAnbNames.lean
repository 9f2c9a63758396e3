/-
  The examples, each form, what is none, limits and errors: the statement, and its tied card.
  No conditions: the given statement.
-/
import Derived.Test.YtedaaincibcbkaaGreatDoorRowAnbNames
import Derived.SevenTiedAt
namespace Go.Proofs.YtedaaincibcbkaaGreatDoor
open Go Go.Aw Go.ChangeShapes Go.WideShapes Go.ChangeAt Go.RowKit

theorem anbNames_holds : Rows.AnbNamesCardSaid :=
  Claim7.holds_tied_plain_at .later [] [.data, .data, .data, .data, .sentinel, .sentinel, .pinned] true (true, "6cd11aaac5ed3236f5a1cba57b833859b3942989ff7dff89c9a1f18f46fa9af4") true
    anbNames_row (fun _ h => by cases h) (by kernel_rfl) (fun _ h => by cases h) anbNames_row_tie rfl ⟨rfl, rfl⟩ (by kernel_rfl) rfl
    (fun f fn hf hfn => by
      obtain rfl : f = 5 := Option.some.inj ((show Tryz.prog.funcNamed "vitrine/vitrinelaw07.AnbNames" = some 5 by kernel_rfl).symm.trans hf) |>.symm
      obtain rfl : fn = Tryz.f5 := (Option.some.inj (Tryz.func5.symm.trans hfn)).symm
      exact ⟨by kernel_rfl, fun j t ht => by
        rw [Tryz.params5] at ht
        simp at ht⟩)
    (by kernel_rfl)
#print axioms anbNames_holds
end Go.Proofs.YtedaaincibcbkaaGreatDoor
