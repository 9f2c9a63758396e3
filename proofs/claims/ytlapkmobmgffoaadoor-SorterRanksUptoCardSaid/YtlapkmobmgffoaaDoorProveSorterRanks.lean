/-
  Check, Rank and Before by either way: the statement's second form, its card tied.
  No conditions: the given statement.
-/
import Derived.Test.YtlapkmobmgffoaaDoorRowSorterRanks
import Derived.SevenTiedAt
set_option linter.unusedVariables false
set_option linter.unusedSimpArgs false
namespace Go.Proofs.YtlapkmobmgffoaaDoor
open Go Go.Aw Go.ChangeShapes Go.WideShapes Go.ChangeAt Go.RowKit

theorem sorterRanks_holds : Rows.SorterRanksUptoCardSaid :=
  Claim7.holds_tied_plain_at .later [] [.listed, .data] true (true, "e59f93f9aab743362266dbb45ee91881096c1369589623043509988c2f6cf04c") false
    sorterRanks_row (fun _ h => by cases h) (by kernel_rfl) (fun _ h => by cases h) sorterRanksUpto_row_tie rfl ⟨rfl, rfl⟩ (by kernel_rfl) rfl
    (fun f fn hf hfn => by
      obtain rfl : f = 3 := Option.some.inj ((show Tryd.prog.funcNamed "vitrine/vitrinelaw29.SorterRanks" = some 3 by kernel_rfl).symm.trans hf) |>.symm
      obtain rfl : fn = Tryd.f3 := (Option.some.inj (Tryd.func3.symm.trans hfn)).symm
      exact ⟨by kernel_rfl, fun j t ht => by
        rw [Tryd.params3] at ht
        have hm : t ∈ [28] := by simpa using Array.mem_of_getElem? ht
        have hall : ([28].all fun u => !Tryd.prog.wantsStandIn u) = true := by kernel_rfl
        exact (show Tryd.prog.wantsStandIn t = false by simpa using List.all_eq_true.1 hall t hm)⟩)
    (by kernel_rfl)
#print axioms sorterRanks_holds
end Go.Proofs.YtlapkmobmgffoaaDoor
