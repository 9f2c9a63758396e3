/-
 What is written is read as the same;one text for each list;what is read is valid: the statement's second form,its card tied.
 No conditions.
-/
import Derived.SevenTiedAt
import Derived.Test.YtpcnidmmkknndaaGreatDoorRowSeltextBack
set_option linter.unusedVariables false
set_option linter.unusedSimpArgs false
set_option linter.defProp false
set_option autoImplicit true
set_option maxRecDepth 1000000
set_option maxHeartbeats 16000000
noncomputable section
namespace Go.Proofs.YtpcnidmmkknndaaGreatDoor
section
open Go Go.Aw Go.ChangeShapes Go.WideShapes Go.ChangeAt Go.RowKit
def Co:Rows.seltextBackUptoRow.wfByText (Rows.OpenSpec.upto Rows.seltextBackSpec)=true:=by kernel_rfl
def Cq:Tryz.pinned.checked.prog.mainIs=some (true, "f43b45cd2ab8153972a20ec23f4c42ff99b23d6a802022ed84a9f576846e514c".toList):=by kernel_rfl
def Cr:true=Tryz.pinned.checked.prog.looks []:=by kernel_rfl
def Cs:false=Rows.seltextBackUptoRow.goesBy Tryz.pinned.checked.prog:=by kernel_rfl
def Cu:Tryz.prog.funcNamed "vitrine/vitrinelaw08.SeltextBack" = some 3:=by kernel_rfl
def Cv:([22,9].all fun u=>!Tryz.prog.wantsStandIn u)=true:=by kernel_rfl
theorem seltextBack_holds:Rows.SeltextBackUptoCardSaid:=
 Claim7.holds_tied_plain_at .later [] [.data,  .data,  .data,  .data,  .sentinel,  .sentinel,  .pinned] true (true, "f43b45cd2ab8153972a20ec23f4c42ff99b23d6a802022ed84a9f576846e514c") true
  Bq (fun _ h=>by cases h) Co (fun _ h=>by cases h) seltextBackUpto_row_tie rfl ⟨rfl,rfl⟩ Cq rfl
  (fun f fn hf hfn=>by
   obtain rfl:f=3:=DO (Cu.symm.trans hf) |>.symm;obtain rfl:fn=Tryz.f3:=(DO (Tryz.func3.symm.trans hfn)).symm;exact⟨Cr,fun j t ht=>by
    rw[Tryz.params3]at ht;have hm:t∈[22,9]:=by have:=Array.mem_of_getElem? ht;simpa using this
    exact (show Tryz.prog.wantsStandIn t=false by simpa using At.1 Cv t hm)⟩)
  Cs
#print axioms seltextBack_holds
end
end Go.Proofs.YtpcnidmmkknndaaGreatDoor
end
