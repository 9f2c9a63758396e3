/-
 ":visited" matches nothing, ":link" all links,also within other selectors: the statement's second form,its card tied.
 No conditions.
-/
import Derived.SevenTiedAt
import Derived.Test.YtkfakehconamoaaGreatDoorRowQueryLinks
set_option linter.unusedVariables false
set_option linter.unusedSimpArgs false
set_option linter.defProp false
set_option autoImplicit true
set_option maxRecDepth 1000000
set_option maxHeartbeats 16000000
noncomputable section
namespace Go.Proofs.YtkfakehconamoaaGreatDoor
section
open Go Go.Aw Go.ChangeShapes Go.WideShapes Go.ChangeAt Go.RowKit
theorem CE:Rows.queryLinksUptoRow.wfByText (Rows.OpenSpec.upto Rows.queryLinksSpec)=true:=by kernel_rfl
theorem CF:Tryz.pinned.checked.prog.mainIs=some (true, "3665751982fbac7748dff38b8162a45a895b0b9655b16775e4daf8907363fcd4".toList):=by kernel_rfl
theorem CG:true=Tryz.pinned.checked.prog.looks []:=by kernel_rfl
theorem CH:false=Rows.queryLinksUptoRow.goesBy Tryz.pinned.checked.prog:=by kernel_rfl
theorem CI:Tryz.prog.funcNamed "vitrine/vitrinelaw24.QueryLinks" = some 3:=by kernel_rfl
theorem CJ:([24,3,9].all fun u=>!Tryz.prog.wantsStandIn u)=true:=by kernel_rfl
theorem queryLinks_holds:Rows.QueryLinksUptoCardSaid:=
 Claim7.holds_tied_plain_at .later [] [.data,  .data,  .data,  .data,  .sentinel,  .sentinel,  .pinned] true (true, "3665751982fbac7748dff38b8162a45a895b0b9655b16775e4daf8907363fcd4") true
  Bc (fun _ h=>by cases h) CE (fun _ h=>by cases h) queryLinksUpto_row_tie rfl ⟨rfl,rfl⟩ CF rfl
  (fun f fn hf hfn=>by
   obtain rfl:f=3:=GO (CI.symm.trans hf) |>.symm;obtain rfl:fn=Tryz.f3:=(GO (Tryz.func3.symm.trans hfn)).symm;exact⟨CG,fun j t ht=>by
    rw[Tryz.params3]at ht;have hm:t∈[24,3,9]:=by have:=Array.mem_of_getElem? ht;simpa using this
    exact (show Tryz.prog.wantsStandIn t=false by simpa using AT.1 CJ t hm)⟩)
  CH
#print axioms queryLinks_holds
end
end Go.Proofs.YtkfakehconamoaaGreatDoor
end
