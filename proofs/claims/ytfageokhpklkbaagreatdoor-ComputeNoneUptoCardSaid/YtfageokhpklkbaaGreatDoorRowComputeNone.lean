/-
 No declarations,a style,a root's size: the row.
 No conditions: the given statement.
-/
import Derived.Test.YtfageokhpklkbaaGreatDoorZ1
set_option linter.unusedVariables false
set_option linter.unusedSimpArgs false
namespace Go.Proofs.YtfageokhpklkbaaGreatDoor
open Go Go.Aw Go.ChangeShapes Go.WideShapes Go.ChangeAt Go.RowKit
set_option maxRecDepth 1000000
theorem dN {a b : Bool} (h : a = true) (k : b = true) : (a && b) = true:=by rw [h,k];rfl
theorem tC : (Rows.computeNoneUptoRow.wf (OpenSpec.ofChange (Rows.OpenSpec.upto Rows.computeNoneSpec).bare)) = true:=by kernel_rfl
theorem tD : (laidOutB Tryz.prog) = true:=by kernel_rfl
theorem tE : (mapsRowed Tryz.prog) = true:=by kernel_rfl
theorem tF : (Tryz.f3.params.all (Tryz.prog.readableRec ·)) = true:=by kernel_rfl
theorem tG : (namedTie Tryz.prog Rows.computeNoneUptoRow.named (Rows.OpenSpec.upto Rows.computeNoneSpec).bare.vars) = true:=by kernel_rfl
theorem tI : ((Rows.computeNoneUptoRow.stops == [])) = true:=by kernel_rfl
theorem tJ : ((Tryz.prog.stops == [])) = true:=by kernel_rfl
theorem tK : ((Rows.computeNoneUptoRow.knobs == [])) = true:=by kernel_rfl
theorem tL : ((Tryz.prog.stopKnobs == [])) = true:=by kernel_rfl
theorem tN : ((Rows.computeNoneUptoRow.inPlace == Tryz.prog.inPlace 3)) = true:=by kernel_rfl
theorem rU : ((Rows.computeNoneUptoRow.unfollowed == Tryz.prog.unfollowed 3)) = true:=by kernel_rfl
theorem rV : ((Rows.computeNoneUptoRow.recurses == Tryz.prog.recurses 3)) = true:=by kernel_rfl
theorem rW : ((Rows.computeNoneUptoRow.named == Tryz.prog.varsNamed 3)) = true:=by kernel_rfl
theorem rX : ((Rows.computeNoneUptoRow.maps == (Tryz.f3.params.toList ++ (Rows.OpenSpec.upto Rows.computeNoneSpec).bare.plain.varTypes Tryz.prog).any (Tryz.prog.mapsRec ·))) = true:=by kernel_rfl
theorem rY : ((Rows.computeNoneUptoRow.ifaces == (Tryz.f3.params.toList ++ (Rows.OpenSpec.upto Rows.computeNoneSpec).bare.plain.varTypes Tryz.prog).any (Tryz.prog.ifacesRec ·))) = true:=by kernel_rfl
theorem rZ : ((Rows.computeNoneUptoRow.mapsOut == Tryz.prog.mapsAmong Tryz.f3.resultTypes.toList)) = true:=by kernel_rfl
theorem r6 : ((Rows.computeNoneUptoRow.loops == (Tryz.f3.params.toList ++ (Rows.OpenSpec.upto Rows.computeNoneSpec).bare.plain.varTypes Tryz.prog).any (Tryz.prog.loopsFrom ·))) = true:=by kernel_rfl
theorem r7 : ((Rows.computeNoneUptoRow.wideKeys == (Tryz.f3.params.toList ++ (Rows.OpenSpec.upto Rows.computeNoneSpec).bare.plain.varTypes Tryz.prog ++ Tryz.f3.resultTypes.toList).any (Tryz.prog.wideKeysFrom ·))) = true:=by kernel_rfl
theorem r8 : ((Rows.OpenSpec.upto Rows.computeNoneSpec).bare.vars.all (Tryz.prog.varReadable ·)) = true:=by kernel_rfl
theorem r9 : (Tryz.f3.resultTypes.all (fun t=>Tryz.prog.readableRec t && decide (t < Tryz.prog.types.size))) = true:=by kernel_rfl
theorem sa : ((Rows.computeNoneUptoRow.ifacesOut == Tryz.f3.resultTypes.toList.any (Tryz.prog.ifacesRec ·))) = true:=by kernel_rfl
theorem sc : ((Rows.computeNoneUptoRow.loopsOut == Tryz.f3.resultTypes.toList.any (Tryz.prog.loopsFrom ·))) = true:=by kernel_rfl
theorem se : ((Rows.computeNoneUptoRow.plainKeys == Tryz.prog.plainKeys)) = true:=by kernel_rfl
theorem sf : (Rows.computeNoneUptoRow.shortTexts.isNone) = true:=by kernel_rfl
theorem sh : (Tryz.prog.stopsHeard) = true:=by kernel_rfl
theorem si : (Tryz.prog.mayEnter) = true:=by kernel_rfl
theorem sj : ((Rows.computeNoneUptoRow.lifted == Tryz.prog.liftsFinal)) = true:=by kernel_rfl
theorem sk : ((Tryz.prog.make == some Rows.computeNoneUptoRow.make)) = true:=by kernel_rfl
theorem sm : ((Rows.computeNoneUptoRow.kinds == (if Rows.computeNoneUptoRow.domain.isEmpty then [] else Tryz.f3.params.toList.map fun t=>match Tryz.prog.underlying t with|some (.int k)=>some k|_=>none))) = true:=by kernel_rfl
theorem so : ((Rows.computeNoneUptoRow.pinned == Rows.computeNoneUptoRow.pinnedBy)) = true:=by kernel_rfl
theorem sq : ((Rows.computeNoneUptoRow.veiled == (Tryz.f3.params.toList ++ (Rows.OpenSpec.upto Rows.computeNoneSpec).bare.plain.varTypes Tryz.prog ++ Tryz.f3.resultTypes.toList).any (Tryz.prog.veiledRec ·))) = true:=by kernel_rfl
theorem sr : (Rows.computeNoneUptoRow.veiledFits Tryz.prog Tryz.f3.params.toList (Tryz.f3.params.toList ++ (Rows.OpenSpec.upto Rows.computeNoneSpec).bare.plain.varTypes Tryz.prog ++ Tryz.f3.resultTypes.toList)) = true:=by kernel_rfl
theorem nq : joinedFacts Tryz.prog 3 Tryz.f3 (Rows.OpenSpec.upto Rows.computeNoneSpec).bare Rows.computeNoneUptoRow = true:=by
 unfold joinedFacts
 exact (dN (dN (dN (dN (dN (dN (dN (dN (dN (dN (dN (dN (dN (dN (dN (dN (dN (dN (dN (dN (dN (dN (dN (dN (dN (dN (dN (dN (dN (dN (dN tC tD) tE) tF) tG) tI) tJ) tK) tL) tN) rU) rV) rW) rX) rY) rZ) r6) r7) r8) r9) sa) sc) se) sf) sh) si) sj) sk) sm) so) sq) sr)
theorem nT : Tryz.prog.funcNamed Rows.computeNoneUptoRow.func = some 3:=by kernel_rfl
theorem oR : Tryz.f3.isInstance Tryz.prog Rows.computeNoneUptoRow.origin Rows.computeNoneUptoRow.targs:=of_decide_eq_true (by kernel_rfl)
theorem oS : Tryz.f3.isWrapper Tryz.prog Rows.computeNoneUptoRow.wrapper Rows.computeNoneUptoRow.mainSum:=by unfold Func.isWrapper;first|(rw [if_pos (by decide +kernel)];kernel_rfl)|(rw [if_neg (by decide +kernel)];exact ⟨rfl,rfl⟩)
theorem rq : Rows.ComputeNoneUptoSaid :=
 OpenClaim.holds_of_cond 3 Tryz.f3 rfl rfl rfl rfl rfl rfl rfl ⟨rfl,rfl,rfl,rfl,rfl⟩ rfl rfl rfl rfl rfl nT Tryz.func3 nq oR oS
  (fun os started H enc _ F=>ot os started H enc F)
end Go.Proofs.YtfageokhpklkbaaGreatDoor

