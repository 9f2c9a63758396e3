/-
 A part that is no selector makes all of a list none,but is left out in is and where: the statement's second form,its card tied.
 No conditions.
-/
import Derived.SevenTiedAt
import Derived.Test.YtpcnidmmkknndaaGreatDoorRowSeltextParts
set_option linter.unusedVariables false
set_option linter.unusedSimpArgs false
set_option linter.defProp false
set_option autoImplicit true
set_option maxRecDepth 1000000
set_option maxHeartbeats 16000000
noncomputable section
namespace Go.Proofs.YtpcnidmmkknndaaGreatDoor
section
open Go Go.Aw Go.ChangeShapes Go.WideShapes Go.ChangeAt Go.RowKit
def A9:Rows.seltextPartsUptoRow.wfByText (Rows.OpenSpec.upto Rows.seltextPartsSpec)=true:=by kernel_rfl
def Ba:Tryz.pinned.checked.prog.mainIs=some (true, "f43b45cd2ab8153972a20ec23f4c42ff99b23d6a802022ed84a9f576846e514c".toList):=by kernel_rfl
def Bb:true=Tryz.pinned.checked.prog.looks []:=by kernel_rfl
def Bc:false=Rows.seltextPartsUptoRow.goesBy Tryz.pinned.checked.prog:=by kernel_rfl
def Be:Tryz.prog.funcNamed "vitrine/vitrinelaw08.SeltextParts" = some 5:=by kernel_rfl
def Bf:([22,3].all fun u=>!Tryz.prog.wantsStandIn u)=true:=by kernel_rfl
theorem seltextParts_holds:Rows.SeltextPartsUptoCardSaid:=
 Claim7.holds_tied_plain_at .later [] [.data,  .data,  .data,  .data,  .sentinel,  .sentinel,  .pinned] true (true, "f43b45cd2ab8153972a20ec23f4c42ff99b23d6a802022ed84a9f576846e514c") true
  zG (fun _ h=>by cases h) A9 (fun _ h=>by cases h) seltextPartsUpto_row_tie rfl ⟨rfl,rfl⟩ Ba rfl
  (fun f fn hf hfn=>by
   obtain rfl:f=5:=DO (Be.symm.trans hf) |>.symm;obtain rfl:fn=Tryz.f5:=(DO (Tryz.func5.symm.trans hfn)).symm;exact⟨Bb,fun j t ht=>by
    rw[Tryz.params5]at ht;have hm:t∈[22,3]:=by have:=Array.mem_of_getElem? ht;simpa using this
    exact (show Tryz.prog.wantsStandIn t=false by simpa using At.1 Bf t hm)⟩)
  Bc
#print axioms seltextParts_holds
end
end Go.Proofs.YtpcnidmmkknndaaGreatDoor
end
