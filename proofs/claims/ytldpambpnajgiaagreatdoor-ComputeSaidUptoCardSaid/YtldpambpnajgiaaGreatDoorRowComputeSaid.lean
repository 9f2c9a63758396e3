/-
 What counts is what is computed: the row.
 No conditions.
-/
import Derived.Test.YtldpambpnajgiaaGreatDoorZo
set_option linter.unusedVariables false
set_option linter.unusedSimpArgs false
set_option maxRecDepth 1000000
set_option maxHeartbeats 16000000
open Go.Proofs.Tryz renaming prog→p_
noncomputable section
namespace Go.Proofs.YtldpambpnajgiaaGreatDoor
section
open Go Go.Aw Go.ChangeShapes Go.WideShapes Go.ChangeAt Go.RowKit
open Go.Proofs.YtldpambpnajgiaaGreatDoor.Rows renaming computeSaidUptoRow→R_,computeSaidSpec→S_
theorem dP{a b:Bool}(h:a=true)(k:b=true):(a&&b)=true:=by rw[h,k];rfl
theorem EE:(R_.wf (OpenSpec.ofChange (Rows.OpenSpec.upto S_).bare))=true:=by kernel_rfl
theorem EF:(laidOutB p_)=true:=by kernel_rfl
theorem EG:(mapsRowed p_)=true:=by kernel_rfl
theorem EH:(Tryz.f4.params.all (p_.readableRec ·))=true:=by kernel_rfl
theorem EI:(namedTie p_ R_.named (Rows.OpenSpec.upto S_).bare.vars)=true:=by kernel_rfl
theorem EJ:((R_.stops == []))=true:=by kernel_rfl
theorem EK:((p_.stops == []))=true:=by kernel_rfl
theorem EN:((R_.knobs == []))=true:=by kernel_rfl
theorem EO:((p_.stopKnobs == []))=true:=by kernel_rfl
theorem EP:((R_.inPlace == p_.inPlace 4))=true:=by kernel_rfl
theorem C3:((R_.unfollowed == p_.unfollowed 4))=true:=by kernel_rfl
theorem C4:((R_.recurses == p_.recurses 4))=true:=by kernel_rfl
theorem C5:((R_.named == p_.varsNamed 4))=true:=by kernel_rfl
theorem C6:((R_.maps == (Tryz.f4.params.toList++(Rows.OpenSpec.upto S_).bare.plain.varTypes p_).any (p_.mapsRec ·)))=true:=by kernel_rfl
theorem C7:((R_.ifaces == (Tryz.f4.params.toList++(Rows.OpenSpec.upto S_).bare.plain.varTypes p_).any (p_.ifacesRec ·)))=true:=by kernel_rfl
theorem C8:((R_.mapsOut == p_.mapsAmong Tryz.f4.resultTypes.toList))=true:=by kernel_rfl
theorem C9:((R_.loops == (Tryz.f4.params.toList++(Rows.OpenSpec.upto S_).bare.plain.varTypes p_).any (p_.loopsFrom ·)))=true:=by kernel_rfl
theorem Da:((R_.wideKeys == (Tryz.f4.params.toList++(Rows.OpenSpec.upto S_).bare.plain.varTypes p_++Tryz.f4.resultTypes.toList).any (p_.wideKeysFrom ·)))=true:=by kernel_rfl
theorem Db:((Rows.OpenSpec.upto S_).bare.vars.all (p_.varReadable ·))=true:=by kernel_rfl
theorem Dd:(Tryz.f4.resultTypes.all (fun t=>p_.readableRec t&&decide (t<p_.types.size)))=true:=by kernel_rfl
theorem De:((R_.ifacesOut == Tryz.f4.resultTypes.toList.any (p_.ifacesRec ·)))=true:=by kernel_rfl
theorem Df:((R_.loopsOut == Tryz.f4.resultTypes.toList.any (p_.loopsFrom ·)))=true:=by kernel_rfl
theorem Dg:((R_.plainKeys == p_.plainKeys))=true:=by kernel_rfl
theorem Dh:(R_.shortTexts.isNone)=true:=by kernel_rfl
theorem Di:(p_.stopsHeard)=true:=by kernel_rfl
theorem Dj:(p_.mayEnter)=true:=by kernel_rfl
theorem Dk:((R_.lifted == p_.liftsFinal))=true:=by kernel_rfl
theorem Dl:((p_.make == some R_.make))=true:=by kernel_rfl
theorem Dm:((R_.kinds == (if R_.domain.isEmpty then [] else Tryz.f4.params.toList.map fun t=>match p_.underlying t with|some (.int k)=>some k|_=>none)))=true:=by kernel_rfl
theorem Dn:((R_.pinned == R_.pinnedBy))=true:=by kernel_rfl
theorem Dp:((R_.veiled == (Tryz.f4.params.toList++(Rows.OpenSpec.upto S_).bare.plain.varTypes p_++Tryz.f4.resultTypes.toList).any (p_.veiledRec ·)))=true:=by kernel_rfl
theorem Dq:(R_.veiledFits p_ Tryz.f4.params.toList (Tryz.f4.params.toList++(Rows.OpenSpec.upto S_).bare.plain.varTypes p_++Tryz.f4.resultTypes.toList))=true:=by kernel_rfl
theorem xg:joinedFacts p_ 4 Tryz.f4 (Rows.OpenSpec.upto S_).bare R_=true:=by
 unfold joinedFacts;exact (dP (dP (dP (dP (dP (dP (dP (dP (dP (dP (dP (dP (dP (dP (dP (dP (dP (dP (dP (dP (dP (dP (dP (dP (dP (dP (dP (dP (dP (dP (dP EE EF) EG) EH) EI) EJ) EK) EN) EO) EP) C3) C4) C5) C6) C7) C8) C9) Da) Db) Dd) De) Df) Dg) Dh) Di) Dj) Dk) Dl) Dm) Dn) Dp) Dq)
theorem ya:p_.funcNamed R_.func=some 4:=by kernel_rfl
theorem y7:Tryz.f4.isInstance p_ R_.origin R_.targs:=uP (by kernel_rfl)
theorem y8:Tryz.f4.isWrapper p_ R_.wrapper R_.mainSum:=by unfold Func.isWrapper;first|(rw[if_pos (by decide +kernel)];kernel_rfl)|(rw[if_neg (by decide +kernel)];exact⟨rfl,rfl⟩)
theorem Cj:Rows.ComputeSaidUptoSaid:=
 OpenClaim.holds_of_cond 4 Tryz.f4 rfl rfl rfl rfl rfl rfl rfl ⟨rfl,rfl,rfl,rfl,rfl⟩ rfl rfl rfl rfl rfl ya Tryz.func4 xg y7 y8
  (fun os started H enc _ F=>yx os started H enc F)
end
end Go.Proofs.YtldpambpnajgiaaGreatDoor
end
