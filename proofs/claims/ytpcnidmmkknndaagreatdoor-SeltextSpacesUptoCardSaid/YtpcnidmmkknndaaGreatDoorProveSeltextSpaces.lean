/-
 Spaces around a list,a capital letter in front,two lists with a comma between them: the statement's second form,its card tied.
 No conditions.
-/
import Derived.SevenTiedAt
import Derived.Test.YtpcnidmmkknndaaGreatDoorRowSeltextSpaces
set_option linter.unusedVariables false
set_option linter.unusedSimpArgs false
set_option maxRecDepth 1000000
set_option maxHeartbeats 16000000
noncomputable section
namespace Go.Proofs.YtpcnidmmkknndaaGreatDoor
section
open Go Go.Aw Go.ChangeShapes Go.WideShapes Go.ChangeAt Go.RowKit
theorem zU:Rows.seltextSpacesUptoRow.wfByText (Rows.OpenSpec.upto Rows.seltextSpacesSpec)=true:=by kernel_rfl
theorem zW:Tryz.pinned.checked.prog.mainIs=some (true, "f43b45cd2ab8153972a20ec23f4c42ff99b23d6a802022ed84a9f576846e514c".toList):=by kernel_rfl
theorem zY:true=Tryz.pinned.checked.prog.looks []:=by kernel_rfl
theorem zZ:false=Rows.seltextSpacesUptoRow.goesBy Tryz.pinned.checked.prog:=by kernel_rfl
theorem z6:Tryz.prog.funcNamed "vitrine/vitrinelaw08.SeltextSpaces" = some 4:=by kernel_rfl
theorem z8:([22].all fun u=>!Tryz.prog.wantsStandIn u)=true:=by kernel_rfl
theorem seltextSpaces_holds:Rows.SeltextSpacesUptoCardSaid:=
 Claim7.holds_tied_plain_at .later [] [.data,.data,.data,.data,.sentinel,.sentinel,.pinned] true (true, "f43b45cd2ab8153972a20ec23f4c42ff99b23d6a802022ed84a9f576846e514c") true
  yR (fun _ h=>by cases h) zU (fun _ h=>by cases h) seltextSpacesUpto_row_tie rfl ⟨rfl,rfl⟩ zW rfl
  (fun f fn hf hfn=>by
   obtain rfl:f=4:=DO (z6.symm.trans hf) |>.symm;obtain rfl:fn=Tryz.f4:=(DO (Tryz.func4.symm.trans hfn)).symm;exact⟨zY,fun j t ht=>by
    rw[Tryz.params4]at ht;have hm:t∈[22]:=by have:=Array.mem_of_getElem? ht;simpa using this
    exact (show Tryz.prog.wantsStandIn t=false by simpa using At.1 z8 t hm)⟩)
  zZ
#print axioms seltextSpaces_holds
end
end Go.Proofs.YtpcnidmmkknndaaGreatDoor
end
