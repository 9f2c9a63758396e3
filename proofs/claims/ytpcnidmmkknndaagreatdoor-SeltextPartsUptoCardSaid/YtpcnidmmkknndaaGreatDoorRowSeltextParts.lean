/-
 A part that is no selector makes all of a list none,but is left out in is and where: the row.
 No conditions.
-/
import Derived.Test.YtpcnidmmkknndaaGreatDoorZj
set_option linter.unusedVariables false
set_option linter.unusedSimpArgs false
set_option linter.defProp false
set_option autoImplicit true
set_option maxRecDepth 1000000
set_option maxHeartbeats 16000000
open Go.Proofs.Tryz renaming prog→p_
noncomputable section
namespace Go.Proofs.YtpcnidmmkknndaaGreatDoor
section
open Go Go.Aw Go.ChangeShapes Go.WideShapes Go.ChangeAt Go.RowKit
def fY(h:a=true)(k:b=true):(a&&b)=true:=by rw[h,k];rfl
def AO:(Rows.seltextPartsUptoRow.wf (OpenSpec.ofChange (Rows.OpenSpec.upto Rows.seltextPartsSpec).bare))=true:=by kernel_rfl
def AP:(laidOutB p_)=true:=by kernel_rfl
def AQ:(mapsRowed p_)=true:=by kernel_rfl
def AR:(Tryz.f5.params.all (p_.readableRec ·))=true:=by kernel_rfl
def AU:(namedTie p_ Rows.seltextPartsUptoRow.named (Rows.OpenSpec.upto Rows.seltextPartsSpec).bare.vars)=true:=by kernel_rfl
def AX:((Rows.seltextPartsUptoRow.stops == []))=true:=by kernel_rfl
def AY:((p_.stops == []))=true:=by kernel_rfl
def AZ:((Rows.seltextPartsUptoRow.knobs == []))=true:=by kernel_rfl
def A0:((p_.stopKnobs == []))=true:=by kernel_rfl
def A1:((Rows.seltextPartsUptoRow.inPlace == p_.inPlace 5))=true:=by kernel_rfl
def yW:((Rows.seltextPartsUptoRow.unfollowed == p_.unfollowed 5))=true:=by kernel_rfl
def yX:((Rows.seltextPartsUptoRow.recurses == p_.recurses 5))=true:=by kernel_rfl
def yY:((Rows.seltextPartsUptoRow.named == p_.varsNamed 5))=true:=by kernel_rfl
def yZ:((Rows.seltextPartsUptoRow.maps == (Tryz.f5.params.toList++(Rows.OpenSpec.upto Rows.seltextPartsSpec).bare.plain.varTypes p_).any (p_.mapsRec ·)))=true:=by kernel_rfl
def y8:((Rows.seltextPartsUptoRow.ifaces == (Tryz.f5.params.toList++(Rows.OpenSpec.upto Rows.seltextPartsSpec).bare.plain.varTypes p_).any (p_.ifacesRec ·)))=true:=by kernel_rfl
def y9:((Rows.seltextPartsUptoRow.mapsOut == p_.mapsAmong Tryz.f5.resultTypes.toList))=true:=by kernel_rfl
def za:((Rows.seltextPartsUptoRow.loops == (Tryz.f5.params.toList++(Rows.OpenSpec.upto Rows.seltextPartsSpec).bare.plain.varTypes p_).any (p_.loopsFrom ·)))=true:=by kernel_rfl
def zb:((Rows.seltextPartsUptoRow.wideKeys == (Tryz.f5.params.toList++(Rows.OpenSpec.upto Rows.seltextPartsSpec).bare.plain.varTypes p_++Tryz.f5.resultTypes.toList).any (p_.wideKeysFrom ·)))=true:=by kernel_rfl
def zc:((Rows.OpenSpec.upto Rows.seltextPartsSpec).bare.vars.all (p_.varReadable ·))=true:=by kernel_rfl
def zd:(Tryz.f5.resultTypes.all (fun t=>p_.readableRec t&&decide (t<p_.types.size)))=true:=by kernel_rfl
def ze:((Rows.seltextPartsUptoRow.ifacesOut == Tryz.f5.resultTypes.toList.any (p_.ifacesRec ·)))=true:=by kernel_rfl
def zf:((Rows.seltextPartsUptoRow.loopsOut == Tryz.f5.resultTypes.toList.any (p_.loopsFrom ·)))=true:=by kernel_rfl
def zg:((Rows.seltextPartsUptoRow.plainKeys == p_.plainKeys))=true:=by kernel_rfl
def zh:(Rows.seltextPartsUptoRow.shortTexts.isNone)=true:=by kernel_rfl
def zi:(p_.stopsHeard)=true:=by kernel_rfl
def zj:(p_.mayEnter)=true:=by kernel_rfl
def zk:((Rows.seltextPartsUptoRow.lifted == p_.liftsFinal))=true:=by kernel_rfl
def zm:((p_.make == some Rows.seltextPartsUptoRow.make))=true:=by kernel_rfl
def zn:((Rows.seltextPartsUptoRow.kinds == (if Rows.seltextPartsUptoRow.domain.isEmpty then [] else Tryz.f5.params.toList.map fun t=>match p_.underlying t with|some (.int k)=>some k|_=>none)))=true:=by kernel_rfl
def zo:((Rows.seltextPartsUptoRow.pinned == Rows.seltextPartsUptoRow.pinnedBy))=true:=by kernel_rfl
def zq:((Rows.seltextPartsUptoRow.veiled == (Tryz.f5.params.toList++(Rows.OpenSpec.upto Rows.seltextPartsSpec).bare.plain.varTypes p_++Tryz.f5.resultTypes.toList).any (p_.veiledRec ·)))=true:=by kernel_rfl
def zr:(Rows.seltextPartsUptoRow.veiledFits p_ Tryz.f5.params.toList (Tryz.f5.params.toList++(Rows.OpenSpec.upto Rows.seltextPartsSpec).bare.plain.varTypes p_++Tryz.f5.resultTypes.toList))=true:=by kernel_rfl
def uw:joinedFacts p_ 5 Tryz.f5 (Rows.OpenSpec.upto Rows.seltextPartsSpec).bare Rows.seltextPartsUptoRow=true:=by
 unfold joinedFacts;exact (fY (fY (fY (fY (fY (fY (fY (fY (fY (fY (fY (fY (fY (fY (fY (fY (fY (fY (fY (fY (fY (fY (fY (fY (fY (fY (fY (fY (fY (fY (fY AO AP) AQ) AR) AU) AX) AY) AZ) A0) A1) yW) yX) yY) yZ) y8) y9) za) zb) zc) zd) ze) zf) zg) zh) zi) zj) zk) zm) zn) zo) zq) zr)
def vp:p_.funcNamed Rows.seltextPartsUptoRow.func=some 5:=by kernel_rfl
def wG:Tryz.f5.isInstance p_ Rows.seltextPartsUptoRow.origin Rows.seltextPartsUptoRow.targs:=oN (by kernel_rfl)
def wH:Tryz.f5.isWrapper p_ Rows.seltextPartsUptoRow.wrapper Rows.seltextPartsUptoRow.mainSum:=by unfold Func.isWrapper;first|(rw[if_pos (by decide +kernel)];kernel_rfl)|(rw[if_neg (by decide +kernel)];exact⟨rfl,rfl⟩)
def zG:Rows.SeltextPartsUptoSaid:=
 OpenClaim.holds_of_cond 5 Tryz.f5 rfl rfl rfl rfl rfl rfl rfl ⟨rfl,rfl,rfl,rfl,rfl⟩ rfl rfl rfl rfl rfl vp Tryz.func5 uw wG wH
  (fun os started H enc _ F=>wJ os started H enc F)
end
end Go.Proofs.YtpcnidmmkknndaaGreatDoor
end
