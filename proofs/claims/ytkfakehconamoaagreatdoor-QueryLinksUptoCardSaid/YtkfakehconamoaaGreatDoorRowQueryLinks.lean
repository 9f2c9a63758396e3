/-
 ":visited" matches nothing, ":link" all links,also within other selectors: the row.
 No conditions.
-/
import Derived.Test.YtkfakehconamoaaGreatDoorZj
set_option linter.unusedVariables false
set_option linter.unusedSimpArgs false
set_option linter.defProp false
set_option autoImplicit true
set_option maxRecDepth 1000000
set_option maxHeartbeats 16000000
open Go.Proofs.Tryz renaming prog→p_
noncomputable section
namespace Go.Proofs.YtkfakehconamoaaGreatDoor
section
open Go Go.Aw Go.ChangeShapes Go.WideShapes Go.ChangeAt Go.RowKit
theorem fu{a b:Bool}(h:a=true)(k:b=true):(a&&b)=true:=by rw[h,k];rfl
theorem Ct:(Rows.queryLinksUptoRow.wf (OpenSpec.ofChange (Rows.OpenSpec.upto Rows.queryLinksSpec).bare))=true:=by kernel_rfl
theorem Cu:(laidOutB p_)=true:=by kernel_rfl
theorem Cv:(mapsRowed p_)=true:=by kernel_rfl
theorem Cw:(Tryz.f3.params.all (p_.readableRec ·))=true:=by kernel_rfl
theorem Cy:(namedTie p_ Rows.queryLinksUptoRow.named (Rows.OpenSpec.upto Rows.queryLinksSpec).bare.vars)=true:=by kernel_rfl
theorem Cz:((Rows.queryLinksUptoRow.stops == []))=true:=by kernel_rfl
theorem CA:((p_.stops == []))=true:=by kernel_rfl
theorem CB:((Rows.queryLinksUptoRow.knobs == []))=true:=by kernel_rfl
theorem CC:((p_.stopKnobs == []))=true:=by kernel_rfl
theorem CD:((Rows.queryLinksUptoRow.inPlace == p_.inPlace 3))=true:=by kernel_rfl
theorem Az:((Rows.queryLinksUptoRow.unfollowed == p_.unfollowed 3))=true:=by kernel_rfl
theorem AA:((Rows.queryLinksUptoRow.recurses == p_.recurses 3))=true:=by kernel_rfl
theorem AB:((Rows.queryLinksUptoRow.named == p_.varsNamed 3))=true:=by kernel_rfl
theorem AD:((Rows.queryLinksUptoRow.maps == (Tryz.f3.params.toList++(Rows.OpenSpec.upto Rows.queryLinksSpec).bare.plain.varTypes p_).any (p_.mapsRec ·)))=true:=by kernel_rfl
theorem AE:((Rows.queryLinksUptoRow.ifaces == (Tryz.f3.params.toList++(Rows.OpenSpec.upto Rows.queryLinksSpec).bare.plain.varTypes p_).any (p_.ifacesRec ·)))=true:=by kernel_rfl
theorem AF:((Rows.queryLinksUptoRow.mapsOut == p_.mapsAmong Tryz.f3.resultTypes.toList))=true:=by kernel_rfl
theorem AG:((Rows.queryLinksUptoRow.loops == (Tryz.f3.params.toList++(Rows.OpenSpec.upto Rows.queryLinksSpec).bare.plain.varTypes p_).any (p_.loopsFrom ·)))=true:=by kernel_rfl
theorem AH:((Rows.queryLinksUptoRow.wideKeys == (Tryz.f3.params.toList++(Rows.OpenSpec.upto Rows.queryLinksSpec).bare.plain.varTypes p_++Tryz.f3.resultTypes.toList).any (p_.wideKeysFrom ·)))=true:=by kernel_rfl
theorem AI:((Rows.OpenSpec.upto Rows.queryLinksSpec).bare.vars.all (p_.varReadable ·))=true:=by kernel_rfl
theorem AJ:(Tryz.f3.resultTypes.all (fun t=>p_.readableRec t&&decide (t<p_.types.size)))=true:=by kernel_rfl
theorem AK:((Rows.queryLinksUptoRow.ifacesOut == Tryz.f3.resultTypes.toList.any (p_.ifacesRec ·)))=true:=by kernel_rfl
theorem AL:((Rows.queryLinksUptoRow.loopsOut == Tryz.f3.resultTypes.toList.any (p_.loopsFrom ·)))=true:=by kernel_rfl
theorem AM:((Rows.queryLinksUptoRow.plainKeys == p_.plainKeys))=true:=by kernel_rfl
theorem AN:(Rows.queryLinksUptoRow.shortTexts.isNone)=true:=by kernel_rfl
theorem AO:(p_.stopsHeard)=true:=by kernel_rfl
theorem AP:(p_.mayEnter)=true:=by kernel_rfl
theorem AQ:((Rows.queryLinksUptoRow.lifted == p_.liftsFinal))=true:=by kernel_rfl
theorem AR:((p_.make == some Rows.queryLinksUptoRow.make))=true:=by kernel_rfl
theorem AU:((Rows.queryLinksUptoRow.kinds == (if Rows.queryLinksUptoRow.domain.isEmpty then [] else Tryz.f3.params.toList.map fun t=>match p_.underlying t with|some (.int k)=>some k|_=>none)))=true:=by kernel_rfl
theorem AX:((Rows.queryLinksUptoRow.pinned == Rows.queryLinksUptoRow.pinnedBy))=true:=by kernel_rfl
theorem AY:((Rows.queryLinksUptoRow.veiled == (Tryz.f3.params.toList++(Rows.OpenSpec.upto Rows.queryLinksSpec).bare.plain.varTypes p_++Tryz.f3.resultTypes.toList).any (p_.veiledRec ·)))=true:=by kernel_rfl
theorem AZ:(Rows.queryLinksUptoRow.veiledFits p_ Tryz.f3.params.toList (Tryz.f3.params.toList++(Rows.OpenSpec.upto Rows.queryLinksSpec).bare.plain.varTypes p_++Tryz.f3.resultTypes.toList))=true:=by kernel_rfl
theorem vn:joinedFacts p_ 3 Tryz.f3 (Rows.OpenSpec.upto Rows.queryLinksSpec).bare Rows.queryLinksUptoRow=true:=by
 unfold joinedFacts;exact (fu (fu (fu (fu (fu (fu (fu (fu (fu (fu (fu (fu (fu (fu (fu (fu (fu (fu (fu (fu (fu (fu (fu (fu (fu (fu (fu (fu (fu (fu (fu Ct Cu) Cv) Cw) Cy) Cz) CA) CB) CC) CD) Az) AA) AB) AD) AE) AF) AG) AH) AI) AJ) AK) AL) AM) AN) AO) AP) AQ) AR) AU) AX) AY) AZ)
theorem vQ:p_.funcNamed Rows.queryLinksUptoRow.func=some 3:=by kernel_rfl
theorem xp:Tryz.f3.isInstance p_ Rows.queryLinksUptoRow.origin Rows.queryLinksUptoRow.targs:=uP (by kernel_rfl)
theorem xq:Tryz.f3.isWrapper p_ Rows.queryLinksUptoRow.wrapper Rows.queryLinksUptoRow.mainSum:=by unfold Func.isWrapper;first|(rw[if_pos (by decide +kernel)];kernel_rfl)|(rw[if_neg (by decide +kernel)];exact⟨rfl,rfl⟩)
theorem Bc:Rows.QueryLinksUptoSaid:=
 OpenClaim.holds_of_cond 3 Tryz.f3 rfl rfl rfl rfl rfl rfl rfl ⟨rfl,rfl,rfl,rfl,rfl⟩ rfl rfl rfl rfl rfl vQ Tryz.func3 vn xp xq
  (fun os started H enc _ F=>xr os started H enc F)
end
end Go.Proofs.YtkfakehconamoaaGreatDoor
end
