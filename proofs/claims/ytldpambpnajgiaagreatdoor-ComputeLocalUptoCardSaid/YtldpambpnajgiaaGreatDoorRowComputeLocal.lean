/-
 Locality: the row.
 No conditions.
-/
import Derived.Test.YtldpambpnajgiaaGreatDoorZo
set_option linter.unusedVariables false
set_option linter.unusedSimpArgs false
set_option maxRecDepth 1000000
set_option maxHeartbeats 16000000
open Go.Proofs.Tryz renaming prog→p_
noncomputable section
namespace Go.Proofs.YtldpambpnajgiaaGreatDoor
section
open Go Go.Aw Go.ChangeShapes Go.WideShapes Go.ChangeAt Go.RowKit
theorem dP{a b:Bool}(h:a=true)(k:b=true):(a&&b)=true:=by rw[h,k];rfl
theorem CS:(Rows.computeLocalUptoRow.wf (OpenSpec.ofChange (Rows.OpenSpec.upto Rows.computeLocalSpec).bare))=true:=by kernel_rfl
theorem CT:(laidOutB p_)=true:=by kernel_rfl
theorem CU:(mapsRowed p_)=true:=by kernel_rfl
theorem CV:(Tryz.f3.params.all (p_.readableRec ·))=true:=by kernel_rfl
theorem CW:(namedTie p_ Rows.computeLocalUptoRow.named (Rows.OpenSpec.upto Rows.computeLocalSpec).bare.vars)=true:=by kernel_rfl
theorem CX:((Rows.computeLocalUptoRow.stops == []))=true:=by kernel_rfl
theorem CY:((p_.stops == []))=true:=by kernel_rfl
theorem CZ:((Rows.computeLocalUptoRow.knobs == []))=true:=by kernel_rfl
theorem C0:((p_.stopKnobs == []))=true:=by kernel_rfl
theorem C1:((Rows.computeLocalUptoRow.inPlace == p_.inPlace 3))=true:=by kernel_rfl
theorem Be:((Rows.computeLocalUptoRow.unfollowed == p_.unfollowed 3))=true:=by kernel_rfl
theorem Bf:((Rows.computeLocalUptoRow.recurses == p_.recurses 3))=true:=by kernel_rfl
theorem Bg:((Rows.computeLocalUptoRow.named == p_.varsNamed 3))=true:=by kernel_rfl
theorem Bh:((Rows.computeLocalUptoRow.maps == (Tryz.f3.params.toList++(Rows.OpenSpec.upto Rows.computeLocalSpec).bare.plain.varTypes p_).any (p_.mapsRec ·)))=true:=by kernel_rfl
theorem Bi:((Rows.computeLocalUptoRow.ifaces == (Tryz.f3.params.toList++(Rows.OpenSpec.upto Rows.computeLocalSpec).bare.plain.varTypes p_).any (p_.ifacesRec ·)))=true:=by kernel_rfl
theorem Bj:((Rows.computeLocalUptoRow.mapsOut == p_.mapsAmong Tryz.f3.resultTypes.toList))=true:=by kernel_rfl
theorem Bk:((Rows.computeLocalUptoRow.loops == (Tryz.f3.params.toList++(Rows.OpenSpec.upto Rows.computeLocalSpec).bare.plain.varTypes p_).any (p_.loopsFrom ·)))=true:=by kernel_rfl
theorem Bl:((Rows.computeLocalUptoRow.wideKeys == (Tryz.f3.params.toList++(Rows.OpenSpec.upto Rows.computeLocalSpec).bare.plain.varTypes p_++Tryz.f3.resultTypes.toList).any (p_.wideKeysFrom ·)))=true:=by kernel_rfl
theorem Bn:((Rows.OpenSpec.upto Rows.computeLocalSpec).bare.vars.all (p_.varReadable ·))=true:=by kernel_rfl
theorem Bo:(Tryz.f3.resultTypes.all (fun t=>p_.readableRec t&&decide (t<p_.types.size)))=true:=by kernel_rfl
theorem Bp:((Rows.computeLocalUptoRow.ifacesOut == Tryz.f3.resultTypes.toList.any (p_.ifacesRec ·)))=true:=by kernel_rfl
theorem Bq:((Rows.computeLocalUptoRow.loopsOut == Tryz.f3.resultTypes.toList.any (p_.loopsFrom ·)))=true:=by kernel_rfl
theorem Br:((Rows.computeLocalUptoRow.plainKeys == p_.plainKeys))=true:=by kernel_rfl
theorem Bt:(Rows.computeLocalUptoRow.shortTexts.isNone)=true:=by kernel_rfl
theorem Bu:(p_.stopsHeard)=true:=by kernel_rfl
theorem Bv:(p_.mayEnter)=true:=by kernel_rfl
theorem Bw:((Rows.computeLocalUptoRow.lifted == p_.liftsFinal))=true:=by kernel_rfl
theorem Bz:((p_.make == some Rows.computeLocalUptoRow.make))=true:=by kernel_rfl
theorem BA:((Rows.computeLocalUptoRow.kinds == (if Rows.computeLocalUptoRow.domain.isEmpty then [] else Tryz.f3.params.toList.map fun t=>match p_.underlying t with|some (.int k)=>some k|_=>none)))=true:=by kernel_rfl
theorem BB:((Rows.computeLocalUptoRow.pinned == Rows.computeLocalUptoRow.pinnedBy))=true:=by kernel_rfl
theorem BC:((Rows.computeLocalUptoRow.veiled == (Tryz.f3.params.toList++(Rows.OpenSpec.upto Rows.computeLocalSpec).bare.plain.varTypes p_++Tryz.f3.resultTypes.toList).any (p_.veiledRec ·)))=true:=by kernel_rfl
theorem BD:(Rows.computeLocalUptoRow.veiledFits p_ Tryz.f3.params.toList (Tryz.f3.params.toList++(Rows.OpenSpec.upto Rows.computeLocalSpec).bare.plain.varTypes p_++Tryz.f3.resultTypes.toList))=true:=by kernel_rfl
theorem vO:joinedFacts p_ 3 Tryz.f3 (Rows.OpenSpec.upto Rows.computeLocalSpec).bare Rows.computeLocalUptoRow=true:=by
 unfold joinedFacts;exact (dP (dP (dP (dP (dP (dP (dP (dP (dP (dP (dP (dP (dP (dP (dP (dP (dP (dP (dP (dP (dP (dP (dP (dP (dP (dP (dP (dP (dP (dP (dP CS CT) CU) CV) CW) CX) CY) CZ) C0) C1) Be) Bf) Bg) Bh) Bi) Bj) Bk) Bl) Bn) Bo) Bp) Bq) Br) Bt) Bu) Bv) Bw) Bz) BA) BB) BC) BD)
theorem xf:p_.funcNamed Rows.computeLocalUptoRow.func=some 3:=by kernel_rfl
theorem xZ:Tryz.f3.isInstance p_ Rows.computeLocalUptoRow.origin Rows.computeLocalUptoRow.targs:=uP (by kernel_rfl)
theorem x4:Tryz.f3.isWrapper p_ Rows.computeLocalUptoRow.wrapper Rows.computeLocalUptoRow.mainSum:=by unfold Func.isWrapper;first|(rw[if_pos (by decide +kernel)];kernel_rfl)|(rw[if_neg (by decide +kernel)];exact⟨rfl,rfl⟩)
theorem AX:Rows.ComputeLocalUptoSaid:=
 OpenClaim.holds_of_cond 3 Tryz.f3 rfl rfl rfl rfl rfl rfl rfl ⟨rfl,rfl,rfl,rfl,rfl⟩ rfl rfl rfl rfl rfl xf Tryz.func3 vO xZ x4
  (fun os started H enc _ F=>xY os started H enc F)
end
end Go.Proofs.YtldpambpnajgiaaGreatDoor
end
