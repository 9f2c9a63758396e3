/-
 Declarations,a style,a root's size,a property: what counts is what is computed: the statement's second form,its card tied.
 No conditions.
-/
import Derived.SevenTiedAt
import Derived.Test.YtldpambpnajgiaaGreatDoorRowComputeSaid
set_option linter.unusedVariables false
set_option linter.unusedSimpArgs false
set_option maxRecDepth 1000000
set_option maxHeartbeats 16000000
noncomputable section
namespace Go.Proofs.YtldpambpnajgiaaGreatDoor
section
open Go Go.Aw Go.ChangeShapes Go.WideShapes Go.ChangeAt Go.RowKit
theorem computeSaid_holds:Rows.ComputeSaidUptoCardSaid:=
 Claim7.holds_tied_plain_at .later [] [.data,.data,.data,.sentinel,.sentinel,.listed,.data] true (true, "05f855492932fb6dbd4d8961eaf78c2da0e994c8fef93f6e3bdadc11218ea46a") true
  Cj (fun _ h=>by cases h) (by kernel_rfl) (fun _ h=>by cases h) computeSaidUpto_row_tie rfl ⟨rfl,rfl⟩ (by kernel_rfl) rfl
  (fun f fn hf hfn=>by
   obtain rfl:f=4:=Is ((show Tryz.prog.funcNamed "vitrine/vitrinelaw32.ComputeSaid" = some 4 by kernel_rfl).symm.trans hf) |>.symm;obtain rfl:fn=Tryz.f4:=(Is (Tryz.func4.symm.trans hfn)).symm;exact⟨by kernel_rfl,fun j t ht=>by
    rw[Tryz.params4]at ht;have hm:t∈[22,26,2,3]:=by have:=Array.mem_of_getElem? ht;simp at this ⊢;omega
    have hall:([22,26,2,3].all fun u=>!Tryz.prog.wantsStandIn u)=true:=by kernel_rfl
    exact (show Tryz.prog.wantsStandIn t=false by simpa using By.1 hall t hm)⟩)
  (by kernel_rfl)
#print axioms computeSaid_holds
end
end Go.Proofs.YtldpambpnajgiaaGreatDoor
end
