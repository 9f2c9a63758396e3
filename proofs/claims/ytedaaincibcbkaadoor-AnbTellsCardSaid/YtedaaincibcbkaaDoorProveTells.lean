/-
  In, All, Text and Check answer as the reference does: the statement, its card tied.
  No conditions: the given statement.
-/
import Derived.Test.YtedaaincibcbkaaDoorRowTells
import Derived.SevenTiedAt
namespace Go.Proofs.YtedaaincibcbkaaDoor
open Go Go.Aw Go.ChangeShapes Go.WideShapes Go.ChangeAt Go.RowKit

theorem anbTells_holds : Rows.AnbTellsCardSaid :=
  Claim7.holds_tied_plain_at .later [] [.data, .data, .data] true (true, "99c6049e6bf496d34df9e8901b6801875b77bd17bece0231cc78aac83295a567") false
    anbTells_row (fun _ h => by cases h) (by kernel_rfl) (fun _ h => by cases h) anbTells_row_tie rfl ⟨rfl, rfl⟩ (by kernel_rfl) rfl
    (fun f fn hf hfn => by
      obtain rfl : f = 3 := Option.some.inj ((show Tryd.prog.funcNamed "vitrine/vitrinelaw07.AnbTells" = some 3 by kernel_rfl).symm.trans hf) |>.symm
      obtain rfl : fn = Tryd.f3 := (Option.some.inj (Tryd.func3.symm.trans hfn)).symm
      exact ⟨by kernel_rfl, fun j t ht => by
        rw [Tryd.params3] at ht
        have hm : t ∈ [23, 3, 3] := by simpa using Array.mem_of_getElem? ht
        have hall : ([23, 3, 3].all fun u => !Tryd.prog.wantsStandIn u) = true := by kernel_rfl
        exact (show Tryd.prog.wantsStandIn t = false by simpa using List.all_eq_true.1 hall t hm)⟩)
    (by kernel_rfl)
#print axioms anbTells_holds
end Go.Proofs.YtedaaincibcbkaaDoor
