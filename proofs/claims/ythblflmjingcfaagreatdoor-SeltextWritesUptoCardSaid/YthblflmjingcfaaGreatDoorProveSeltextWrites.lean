/-
  Checking, counting and writing selectors give the reference's results: the statement's second form, its card tied.
  No conditions: the given statement.
-/
import Derived.Test.YthblflmjingcfaaGreatDoorRowSeltextWrites
import Derived.SevenTiedAt
set_option linter.unusedVariables false
set_option linter.unusedSimpArgs false
namespace Go.Proofs.YthblflmjingcfaaGreatDoor
open Go Go.Aw Go.ChangeShapes Go.WideShapes Go.ChangeAt Go.RowKit

theorem seltextWrites_holds : Rows.SeltextWritesUptoCardSaid :=
  Claim7.holds_tied_plain_at .later [] [.data, .data, .data, .data, .pinned] true (true, "def1d1dd380be1227639edc40a28263f517ffcedcd915a0d961ff5f80f7202e4") true
    seltextWrites_row (fun _ h => by cases h) (by kernel_rfl) (fun _ h => by cases h) seltextWritesUpto_row_tie rfl ⟨rfl, rfl⟩ (by kernel_rfl) rfl
    (fun f fn hf hfn => by
      obtain rfl : f = 3 := Option.some.inj ((show Tryz.prog.funcNamed "vitrine/vitrinelaw08.SeltextWrites" = some 3 by kernel_rfl).symm.trans hf) |>.symm
      obtain rfl : fn = Tryz.f3 := (Option.some.inj (Tryz.func3.symm.trans hfn)).symm
      exact ⟨by kernel_rfl, fun j t ht => by
        rw [Tryz.params3] at ht
        have hm : t ∈ [22] := by have := Array.mem_of_getElem? ht; simpa using this
        have hall : ([22].all fun u => !Tryz.prog.wantsStandIn u) = true := by kernel_rfl
        exact (show Tryz.prog.wantsStandIn t = false by simpa using List.all_eq_true.1 hall t hm)⟩)
    (by kernel_rfl)
#print axioms seltextWrites_holds
end Go.Proofs.YthblflmjingcfaaGreatDoor
