/-
 No declarations,a style,a root's size: the statement's second form,its card tied.
 No conditions: the given statement.
-/
import Derived.Test.YtfageokhpklkbaaGreatDoorRowComputeNone
import Derived.SevenTiedAt
set_option linter.unusedVariables false
set_option linter.unusedSimpArgs false
namespace Go.Proofs.YtfageokhpklkbaaGreatDoor
open Go Go.Aw Go.ChangeShapes Go.WideShapes Go.ChangeAt Go.RowKit

theorem computeNone_holds : Rows.ComputeNoneUptoCardSaid :=
 Claim7.holds_tied_plain_at .later [] [.data,.data,.data,.sentinel,.sentinel,.listed,.data] true (true, "82466ed68692038966fdd3503d005395f98c262cb17a83ae49007035f7d23609") true
  rq (fun _ h=>by cases h) (by kernel_rfl) (fun _ h=>by cases h) computeNoneUpto_row_tie rfl ⟨rfl,rfl⟩ (by kernel_rfl) rfl
  (fun f fn hf hfn=>by
   obtain rfl : f = 3:=Option.some.inj ((show Tryz.prog.funcNamed "vitrine/vitrinelaw32.ComputeNone" = some 3 by kernel_rfl).symm.trans hf) |>.symm
   obtain rfl : fn = Tryz.f3:=(Option.some.inj (Tryz.func3.symm.trans hfn)).symm
   exact ⟨by kernel_rfl,fun j t ht=>by
    rw [Tryz.params3] at ht
    have hm : t ∈ [25,2]:=by have:=Array.mem_of_getElem? ht;simp at this ⊢;omega
    have hall : ([25,2].all fun u=>!Tryz.prog.wantsStandIn u) = true:=by kernel_rfl
    exact (show Tryz.prog.wantsStandIn t = false by simpa using List.all_eq_true.1 hall t hm)⟩)
  (by kernel_rfl)
#print axioms computeNone_holds
end Go.Proofs.YtfageokhpklkbaaGreatDoor

