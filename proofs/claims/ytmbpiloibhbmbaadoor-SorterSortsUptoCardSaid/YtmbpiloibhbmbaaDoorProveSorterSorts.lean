/-
  Sort and Winner by either way: the statement's second form, its card tied.
  No conditions: the given statement.
-/
import Derived.Test.YtmbpiloibhbmbaaDoorRowSorterSorts
import Derived.SevenTiedAt
set_option linter.unusedVariables false
set_option linter.unusedSimpArgs false
namespace Go.Proofs.YtmbpiloibhbmbaaDoor
open Go Go.Aw Go.ChangeShapes Go.WideShapes Go.ChangeAt Go.RowKit

theorem sorterSorts_holds : Rows.SorterSortsUptoCardSaid :=
  Claim7.holds_tied_plain_at .later [] [.listed, .data] true (true, "5e046c2d2e0ab6a52a6ab6360bee08d12afd7ce2aefb910a02c6760c30770ad0") false
    sorterSorts_row (fun _ h => by cases h) (by kernel_rfl) (fun _ h => by cases h) sorterSortsUpto_row_tie rfl ⟨rfl, rfl⟩ (by kernel_rfl) rfl
    (fun f fn hf hfn => by
      obtain rfl : f = 3 := Option.some.inj ((show Tryd.prog.funcNamed "vitrine/vitrinelaw29.SorterSorts" = some 3 by kernel_rfl).symm.trans hf) |>.symm
      obtain rfl : fn = Tryd.f3 := (Option.some.inj (Tryd.func3.symm.trans hfn)).symm
      exact ⟨by kernel_rfl, fun j t ht => by
        rw [Tryd.params3] at ht
        have hm : t ∈ [22, 9] := by have := Array.mem_of_getElem? ht; simp at this ⊢; omega
        have hall : ([22, 9].all fun u => !Tryd.prog.wantsStandIn u) = true := by kernel_rfl
        exact (show Tryd.prog.wantsStandIn t = false by simpa using List.all_eq_true.1 hall t hm)⟩)
    (by kernel_rfl)
#print axioms sorterSorts_holds
end Go.Proofs.YtmbpiloibhbmbaaDoor
