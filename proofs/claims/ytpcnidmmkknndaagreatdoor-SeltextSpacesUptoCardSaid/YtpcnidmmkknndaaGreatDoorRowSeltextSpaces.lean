/-
 : the row.
 No conditions.
-/
import Derived.Test.YtpcnidmmkknndaaGreatDoorZj
set_option linter.unusedVariables false
set_option linter.unusedSimpArgs false
set_option maxRecDepth 1000000
set_option maxHeartbeats 16000000
open Go.Proofs.Tryz renaming prog→p_
noncomputable section
namespace Go.Proofs.YtpcnidmmkknndaaGreatDoor
section
open Go Go.Aw Go.ChangeShapes Go.WideShapes Go.ChangeAt Go.RowKit
theorem fY{a b:Bool}(h:a=true)(k:b=true):(a&&b)=true:=by rw[h,k];rfl
theorem zF:(Rows.seltextSpacesUptoRow.wf (OpenSpec.ofChange (Rows.OpenSpec.upto Rows.seltextSpacesSpec).bare))=true:=by kernel_rfl
theorem zG:(laidOutB p_)=true:=by kernel_rfl
theorem zH:(mapsRowed p_)=true:=by kernel_rfl
theorem zI:(Tryz.f4.params.all (p_.readableRec ·))=true:=by kernel_rfl
theorem zJ:(namedTie p_ Rows.seltextSpacesUptoRow.named (Rows.OpenSpec.upto Rows.seltextSpacesSpec).bare.vars)=true:=by kernel_rfl
theorem zK:((Rows.seltextSpacesUptoRow.stops == []))=true:=by kernel_rfl
theorem zL:((p_.stops == []))=true:=by kernel_rfl
theorem zM:((Rows.seltextSpacesUptoRow.knobs == []))=true:=by kernel_rfl
theorem zN:((p_.stopKnobs == []))=true:=by kernel_rfl
theorem zO:((Rows.seltextSpacesUptoRow.inPlace == p_.inPlace 4))=true:=by kernel_rfl
theorem yv:((Rows.seltextSpacesUptoRow.unfollowed == p_.unfollowed 4))=true:=by kernel_rfl
theorem yw:((Rows.seltextSpacesUptoRow.recurses == p_.recurses 4))=true:=by kernel_rfl
theorem yx:((Rows.seltextSpacesUptoRow.named == p_.varsNamed 4))=true:=by kernel_rfl
theorem yy:((Rows.seltextSpacesUptoRow.maps == (Tryz.f4.params.toList++(Rows.OpenSpec.upto Rows.seltextSpacesSpec).bare.plain.varTypes p_).any (p_.mapsRec ·)))=true:=by kernel_rfl
theorem yz:((Rows.seltextSpacesUptoRow.ifaces == (Tryz.f4.params.toList++(Rows.OpenSpec.upto Rows.seltextSpacesSpec).bare.plain.varTypes p_).any (p_.ifacesRec ·)))=true:=by kernel_rfl
theorem yA:((Rows.seltextSpacesUptoRow.mapsOut == p_.mapsAmong Tryz.f4.resultTypes.toList))=true:=by kernel_rfl
theorem yB:((Rows.seltextSpacesUptoRow.loops == (Tryz.f4.params.toList++(Rows.OpenSpec.upto Rows.seltextSpacesSpec).bare.plain.varTypes p_).any (p_.loopsFrom ·)))=true:=by kernel_rfl
theorem yC:((Rows.seltextSpacesUptoRow.wideKeys == (Tryz.f4.params.toList++(Rows.OpenSpec.upto Rows.seltextSpacesSpec).bare.plain.varTypes p_++Tryz.f4.resultTypes.toList).any (p_.wideKeysFrom ·)))=true:=by kernel_rfl
theorem yD:((Rows.OpenSpec.upto Rows.seltextSpacesSpec).bare.vars.all (p_.varReadable ·))=true:=by kernel_rfl
theorem yE:(Tryz.f4.resultTypes.all (fun t=>p_.readableRec t&&decide (t<p_.types.size)))=true:=by kernel_rfl
theorem yF:((Rows.seltextSpacesUptoRow.ifacesOut == Tryz.f4.resultTypes.toList.any (p_.ifacesRec ·)))=true:=by kernel_rfl
theorem yG:((Rows.seltextSpacesUptoRow.loopsOut == Tryz.f4.resultTypes.toList.any (p_.loopsFrom ·)))=true:=by kernel_rfl
theorem yH:((Rows.seltextSpacesUptoRow.plainKeys == p_.plainKeys))=true:=by kernel_rfl
theorem yI:(Rows.seltextSpacesUptoRow.shortTexts.isNone)=true:=by kernel_rfl
theorem yJ:(p_.stopsHeard)=true:=by kernel_rfl
theorem yK:(p_.mayEnter)=true:=by kernel_rfl
theorem yL:((Rows.seltextSpacesUptoRow.lifted == p_.liftsFinal))=true:=by kernel_rfl
theorem yM:((p_.make == some Rows.seltextSpacesUptoRow.make))=true:=by kernel_rfl
theorem yN:((Rows.seltextSpacesUptoRow.kinds == (if Rows.seltextSpacesUptoRow.domain.isEmpty then [] else Tryz.f4.params.toList.map fun t=>match p_.underlying t with|some (.int k)=>some k|_=>none)))=true:=by kernel_rfl
theorem yO:((Rows.seltextSpacesUptoRow.pinned == Rows.seltextSpacesUptoRow.pinnedBy))=true:=by kernel_rfl
theorem yP:((Rows.seltextSpacesUptoRow.veiled == (Tryz.f4.params.toList++(Rows.OpenSpec.upto Rows.seltextSpacesSpec).bare.plain.varTypes p_++Tryz.f4.resultTypes.toList).any (p_.veiledRec ·)))=true:=by kernel_rfl
theorem yQ:(Rows.seltextSpacesUptoRow.veiledFits p_ Tryz.f4.params.toList (Tryz.f4.params.toList++(Rows.OpenSpec.upto Rows.seltextSpacesSpec).bare.plain.varTypes p_++Tryz.f4.resultTypes.toList))=true:=by kernel_rfl
theorem tK:joinedFacts p_ 4 Tryz.f4 (Rows.OpenSpec.upto Rows.seltextSpacesSpec).bare Rows.seltextSpacesUptoRow=true:=by
 unfold joinedFacts;exact (fY (fY (fY (fY (fY (fY (fY (fY (fY (fY (fY (fY (fY (fY (fY (fY (fY (fY (fY (fY (fY (fY (fY (fY (fY (fY (fY (fY (fY (fY (fY zF zG) zH) zI) zJ) zK) zL) zM) zN) zO) yv) yw) yx) yy) yz) yA) yB) yC) yD) yE) yF) yG) yH) yI) yJ) yK) yL) yM) yN) yO) yP) yQ)
theorem uo:p_.funcNamed Rows.seltextSpacesUptoRow.func=some 4:=by kernel_rfl
theorem vn:Tryz.f4.isInstance p_ Rows.seltextSpacesUptoRow.origin Rows.seltextSpacesUptoRow.targs:=oN (by kernel_rfl)
theorem vo:Tryz.f4.isWrapper p_ Rows.seltextSpacesUptoRow.wrapper Rows.seltextSpacesUptoRow.mainSum:=by unfold Func.isWrapper;first|(rw[if_pos (by decide +kernel)];kernel_rfl)|(rw[if_neg (by decide +kernel)];exact⟨rfl,rfl⟩)
theorem yR:Rows.SeltextSpacesUptoSaid:=
 OpenClaim.holds_of_cond 4 Tryz.f4 rfl rfl rfl rfl rfl rfl rfl ⟨rfl,rfl,rfl,rfl,rfl⟩ rfl rfl rfl rfl rfl uo Tryz.func4 tK vn vo
  (fun os started H enc _ F=>vG os started H enc F)
end
end Go.Proofs.YtpcnidmmkknndaaGreatDoor
end
