/-
 What is written is read as the same;one text for each list;what is read is valid: the row.
 No conditions.
-/
import Derived.Test.YtpcnidmmkknndaaGreatDoorZj
set_option linter.unusedVariables false
set_option linter.unusedSimpArgs false
set_option linter.defProp false
set_option autoImplicit true
set_option maxRecDepth 1000000
set_option maxHeartbeats 16000000
open Go.Proofs.Tryz renaming prog→p_
noncomputable section
namespace Go.Proofs.YtpcnidmmkknndaaGreatDoor
section
open Go Go.Aw Go.ChangeShapes Go.WideShapes Go.ChangeAt Go.RowKit
def fX(h:a=true)(k:b=true):(a&&b)=true:=by rw[h,k];rfl
def BU:(Rows.seltextBackUptoRow.wf (OpenSpec.ofChange (Rows.OpenSpec.upto Rows.seltextBackSpec).bare))=true:=by kernel_rfl
def BV:(laidOutB p_)=true:=by kernel_rfl
def BW:(mapsRowed p_)=true:=by kernel_rfl
def BX:(Tryz.f3.params.all (p_.readableRec ·))=true:=by kernel_rfl
def BZ:(namedTie p_ Rows.seltextBackUptoRow.named (Rows.OpenSpec.upto Rows.seltextBackSpec).bare.vars)=true:=by kernel_rfl
def B0:((Rows.seltextBackUptoRow.stops == []))=true:=by kernel_rfl
def B1:((p_.stops == []))=true:=by kernel_rfl
def B3:((Rows.seltextBackUptoRow.knobs == []))=true:=by kernel_rfl
def B4:((p_.stopKnobs == []))=true:=by kernel_rfl
def B5:((Rows.seltextBackUptoRow.inPlace == p_.inPlace 3))=true:=by kernel_rfl
def AH:((Rows.seltextBackUptoRow.unfollowed == p_.unfollowed 3))=true:=by kernel_rfl
def AI:((Rows.seltextBackUptoRow.recurses == p_.recurses 3))=true:=by kernel_rfl
def AJ:((Rows.seltextBackUptoRow.named == p_.varsNamed 3))=true:=by kernel_rfl
def AK:((Rows.seltextBackUptoRow.maps == (Tryz.f3.params.toList++(Rows.OpenSpec.upto Rows.seltextBackSpec).bare.plain.varTypes p_).any (p_.mapsRec ·)))=true:=by kernel_rfl
def AL:((Rows.seltextBackUptoRow.ifaces == (Tryz.f3.params.toList++(Rows.OpenSpec.upto Rows.seltextBackSpec).bare.plain.varTypes p_).any (p_.ifacesRec ·)))=true:=by kernel_rfl
def AM:((Rows.seltextBackUptoRow.mapsOut == p_.mapsAmong Tryz.f3.resultTypes.toList))=true:=by kernel_rfl
def AN:((Rows.seltextBackUptoRow.loops == (Tryz.f3.params.toList++(Rows.OpenSpec.upto Rows.seltextBackSpec).bare.plain.varTypes p_).any (p_.loopsFrom ·)))=true:=by kernel_rfl
def AO:((Rows.seltextBackUptoRow.wideKeys == (Tryz.f3.params.toList++(Rows.OpenSpec.upto Rows.seltextBackSpec).bare.plain.varTypes p_++Tryz.f3.resultTypes.toList).any (p_.wideKeysFrom ·)))=true:=by kernel_rfl
def AP:((Rows.OpenSpec.upto Rows.seltextBackSpec).bare.vars.all (p_.varReadable ·))=true:=by kernel_rfl
def AQ:(Tryz.f3.resultTypes.all (fun t=>p_.readableRec t&&decide (t<p_.types.size)))=true:=by kernel_rfl
def AR:((Rows.seltextBackUptoRow.ifacesOut == Tryz.f3.resultTypes.toList.any (p_.ifacesRec ·)))=true:=by kernel_rfl
def AU:((Rows.seltextBackUptoRow.loopsOut == Tryz.f3.resultTypes.toList.any (p_.loopsFrom ·)))=true:=by kernel_rfl
def AX:((Rows.seltextBackUptoRow.plainKeys == p_.plainKeys))=true:=by kernel_rfl
def AY:(Rows.seltextBackUptoRow.shortTexts.isNone)=true:=by kernel_rfl
def AZ:(p_.stopsHeard)=true:=by kernel_rfl
def A0:(p_.mayEnter)=true:=by kernel_rfl
def A1:((Rows.seltextBackUptoRow.lifted == p_.liftsFinal))=true:=by kernel_rfl
def A2:((p_.make == some Rows.seltextBackUptoRow.make))=true:=by kernel_rfl
def A3:((Rows.seltextBackUptoRow.kinds == (if Rows.seltextBackUptoRow.domain.isEmpty then [] else Tryz.f3.params.toList.map fun t=>match p_.underlying t with|some (.int k)=>some k|_=>none)))=true:=by kernel_rfl
def A4:((Rows.seltextBackUptoRow.pinned == Rows.seltextBackUptoRow.pinnedBy))=true:=by kernel_rfl
def A5:((Rows.seltextBackUptoRow.veiled == (Tryz.f3.params.toList++(Rows.OpenSpec.upto Rows.seltextBackSpec).bare.plain.varTypes p_++Tryz.f3.resultTypes.toList).any (p_.veiledRec ·)))=true:=by kernel_rfl
def A6:(Rows.seltextBackUptoRow.veiledFits p_ Tryz.f3.params.toList (Tryz.f3.params.toList++(Rows.OpenSpec.upto Rows.seltextBackSpec).bare.plain.varTypes p_++Tryz.f3.resultTypes.toList))=true:=by kernel_rfl
def vF:joinedFacts p_ 3 Tryz.f3 (Rows.OpenSpec.upto Rows.seltextBackSpec).bare Rows.seltextBackUptoRow=true:=by
 unfold joinedFacts;exact (fX (fX (fX (fX (fX (fX (fX (fX (fX (fX (fX (fX (fX (fX (fX (fX (fX (fX (fX (fX (fX (fX (fX (fX (fX (fX (fX (fX (fX (fX (fX BU BV) BW) BX) BZ) B0) B1) B3) B4) B5) AH) AI) AJ) AK) AL) AM) AN) AO) AP) AQ) AR) AU) AX) AY) AZ) A0) A1) A2) A3) A4) A5) A6)
def wR:p_.funcNamed Rows.seltextBackUptoRow.func=some 3:=by kernel_rfl
def xj:Tryz.f3.isInstance p_ Rows.seltextBackUptoRow.origin Rows.seltextBackUptoRow.targs:=oN (by kernel_rfl)
def xk:Tryz.f3.isWrapper p_ Rows.seltextBackUptoRow.wrapper Rows.seltextBackUptoRow.mainSum:=by unfold Func.isWrapper;first|(rw[if_pos (by decide +kernel)];kernel_rfl)|(rw[if_neg (by decide +kernel)];exact⟨rfl,rfl⟩)
def Bq:Rows.SeltextBackUptoSaid:=
 OpenClaim.holds_of_cond 3 Tryz.f3 rfl rfl rfl rfl rfl rfl rfl ⟨rfl,rfl,rfl,rfl,rfl⟩ rfl rfl rfl rfl rfl wR Tryz.func3 vF xj xk
  (fun os started H enc _ F=>xx os started H enc F)
end
end Go.Proofs.YtpcnidmmkknndaaGreatDoor
end
