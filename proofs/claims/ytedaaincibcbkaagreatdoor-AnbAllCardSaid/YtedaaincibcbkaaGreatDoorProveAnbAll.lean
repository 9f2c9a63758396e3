/-
  All places: the statement, its card tied.
  No conditions: the given statement.
-/
import Derived.Test.YtedaaincibcbkaaGreatDoorRowAnbAll
import Derived.SevenTiedAt
namespace Go.Proofs.YtedaaincibcbkaaGreatDoor
open Go Go.Aw Go.ChangeShapes Go.WideShapes Go.ChangeAt Go.RowKit

theorem anbAll_holds : Rows.AnbAllCardSaid :=
  Claim7.holds_tied_plain_at .later [] [.data, .data, .data, .data, .sentinel, .sentinel, .pinned] true (true, "6cd11aaac5ed3236f5a1cba57b833859b3942989ff7dff89c9a1f18f46fa9af4") true
    anbAll_row (fun _ h => by cases h) (by kernel_rfl) (fun _ h => by cases h) anbAll_row_tie rfl ⟨rfl, rfl⟩ (by kernel_rfl) rfl
    (fun f fn hf hfn => by
      obtain rfl : f = 8 := Option.some.inj ((show Tryz.prog.funcNamed "vitrine/vitrinelaw07.AnbAll" = some 8 by kernel_rfl).symm.trans hf) |>.symm
      obtain rfl : fn = Tryz.f8 := (Option.some.inj (Tryz.func8.symm.trans hfn)).symm
      exact ⟨by kernel_rfl, fun j t ht => by
        rw [Tryz.params8] at ht
        have hm : t ∈ [36, 3] := by simpa using Array.mem_of_getElem? ht
        have hall : ([36, 3].all fun u => !Tryz.prog.wantsStandIn u) = true := by kernel_rfl
        exact (show Tryz.prog.wantsStandIn t = false by simpa using List.all_eq_true.1 hall t hm)⟩)
    (by kernel_rfl)
#print axioms anbAll_holds
end Go.Proofs.YtedaaincibcbkaaGreatDoor
