/-
  Errors of queries: the row.
  No conditions: the given statement.
-/
import Derived.Test.YtdngilegbpgjgaaGreatDoorLiftQueryNames
set_option linter.unusedVariables false
set_option linter.unusedSimpArgs false
namespace Go.Proofs.YtdngilegbpgjgaaGreatDoor
open Go Go.Aw Go.ChangeShapes Go.WideShapes Go.ChangeAt Go.RowKit
set_option maxRecDepth 1000000
theorem and2 {a b : Bool} (h : a = true) (k : b = true) : (a && b) = true := by rw [h, k]; rfl
theorem kfQueryNames0 : (Rows.queryNamesRow.wf (OpenSpec.ofChange Rows.queryNamesSpec)) = true := by kernel_rfl
theorem kfQueryNames1 : (laidOutB Tryz.prog) = true := by kernel_rfl
theorem kfQueryNames2 : (mapsRowed Tryz.prog) = true := by kernel_rfl
theorem kfQueryNames3 : (Tryz.f4.params.all (Tryz.prog.readableRec ·)) = true := by kernel_rfl
theorem kfQueryNames4 : (namedTie Tryz.prog Rows.queryNamesRow.named Rows.queryNamesSpec.vars) = true := by kernel_rfl
theorem kfQueryNames5 : ((Rows.queryNamesRow.stops == [])) = true := by kernel_rfl
theorem kfQueryNames6 : ((Tryz.prog.stops == [])) = true := by kernel_rfl
theorem kfQueryNames7 : ((Rows.queryNamesRow.knobs == [])) = true := by kernel_rfl
theorem kfQueryNames8 : ((Tryz.prog.stopKnobs == [])) = true := by kernel_rfl
theorem kfQueryNames9 : ((Rows.queryNamesRow.inPlace == Tryz.prog.inPlace 4)) = true := by kernel_rfl
theorem kfQueryNames10 : ((Rows.queryNamesRow.unfollowed == Tryz.prog.unfollowed 4)) = true := by kernel_rfl
theorem kfQueryNames11 : ((Rows.queryNamesRow.recurses == Tryz.prog.recurses 4)) = true := by kernel_rfl
theorem kfQueryNames12 : ((Rows.queryNamesRow.named == Tryz.prog.varsNamed 4)) = true := by kernel_rfl
theorem kfQueryNames13 : ((Rows.queryNamesRow.maps == (Tryz.f4.params.toList ++ Rows.queryNamesSpec.plain.varTypes Tryz.prog).any (Tryz.prog.mapsRec ·))) = true := by kernel_rfl
theorem kfQueryNames14 : ((Rows.queryNamesRow.ifaces == (Tryz.f4.params.toList ++ Rows.queryNamesSpec.plain.varTypes Tryz.prog).any (Tryz.prog.ifacesRec ·))) = true := by kernel_rfl
theorem kfQueryNames15 : ((Rows.queryNamesRow.mapsOut == Tryz.prog.mapsAmong Tryz.f4.resultTypes.toList)) = true := by kernel_rfl
theorem kfQueryNames16 : ((Rows.queryNamesRow.loops == (Tryz.f4.params.toList ++ Rows.queryNamesSpec.plain.varTypes Tryz.prog).any (Tryz.prog.loopsFrom ·))) = true := by kernel_rfl
theorem kfQueryNames17 : ((Rows.queryNamesRow.wideKeys == (Tryz.f4.params.toList ++ Rows.queryNamesSpec.plain.varTypes Tryz.prog ++ Tryz.f4.resultTypes.toList).any (Tryz.prog.wideKeysFrom ·))) = true := by kernel_rfl
theorem kfQueryNames18 : (Rows.queryNamesSpec.vars.all (Tryz.prog.varReadable ·)) = true := by kernel_rfl
theorem kfQueryNames19 : (Tryz.f4.resultTypes.all (fun t => Tryz.prog.readableRec t && decide (t < Tryz.prog.types.size))) = true := by kernel_rfl
theorem kfQueryNames20 : ((Rows.queryNamesRow.ifacesOut == Tryz.f4.resultTypes.toList.any (Tryz.prog.ifacesRec ·))) = true := by kernel_rfl
theorem kfQueryNames21 : ((Rows.queryNamesRow.loopsOut == Tryz.f4.resultTypes.toList.any (Tryz.prog.loopsFrom ·))) = true := by kernel_rfl
theorem kfQueryNames22 : ((Rows.queryNamesRow.plainKeys == Tryz.prog.plainKeys)) = true := by kernel_rfl
theorem kfQueryNames23 : (Rows.queryNamesRow.shortTexts.isNone) = true := by kernel_rfl
theorem kfQueryNames24 : (Tryz.prog.stopsHeard) = true := by kernel_rfl
theorem kfQueryNames25 : (Tryz.prog.mayEnter) = true := by kernel_rfl
theorem kfQueryNames26 : ((Rows.queryNamesRow.lifted == Tryz.prog.liftsFinal)) = true := by kernel_rfl
theorem kfQueryNames27 : ((Tryz.prog.make == some Rows.queryNamesRow.make)) = true := by kernel_rfl
theorem kfQueryNames28 : ((Rows.queryNamesRow.kinds == (if Rows.queryNamesRow.domain.isEmpty then [] else Tryz.f4.params.toList.map fun t => match Tryz.prog.underlying t with | some (.int k) => some k | _ => none))) = true := by kernel_rfl
theorem kfQueryNames29 : ((Rows.queryNamesRow.pinned == Rows.queryNamesRow.pinnedBy)) = true := by kernel_rfl
theorem kfQueryNames30 : ((Rows.queryNamesRow.veiled == (Tryz.f4.params.toList ++ Rows.queryNamesSpec.plain.varTypes Tryz.prog ++ Tryz.f4.resultTypes.toList).any (Tryz.prog.veiledRec ·))) = true := by kernel_rfl
theorem kfQueryNames31 : (Rows.queryNamesRow.veiledFits Tryz.prog Tryz.f4.params.toList (Tryz.f4.params.toList ++ Rows.queryNamesSpec.plain.varTypes Tryz.prog ++ Tryz.f4.resultTypes.toList)) = true := by kernel_rfl
theorem kfQueryNames_closed : joinedFacts Tryz.prog 4 Tryz.f4 Rows.queryNamesSpec Rows.queryNamesRow = true := by
  unfold joinedFacts
  exact (and2 (and2 (and2 (and2 (and2 (and2 (and2 (and2 (and2 (and2 (and2 (and2 (and2 (and2 (and2 (and2 (and2 (and2 (and2 (and2 (and2 (and2 (and2 (and2 (and2 (and2 (and2 (and2 (and2 (and2 (and2 kfQueryNames0 kfQueryNames1) kfQueryNames2) kfQueryNames3) kfQueryNames4) kfQueryNames5) kfQueryNames6) kfQueryNames7) kfQueryNames8) kfQueryNames9) kfQueryNames10) kfQueryNames11) kfQueryNames12) kfQueryNames13) kfQueryNames14) kfQueryNames15) kfQueryNames16) kfQueryNames17) kfQueryNames18) kfQueryNames19) kfQueryNames20) kfQueryNames21) kfQueryNames22) kfQueryNames23) kfQueryNames24) kfQueryNames25) kfQueryNames26) kfQueryNames27) kfQueryNames28) kfQueryNames29) kfQueryNames30) kfQueryNames31)
theorem kfQueryNames_named : Tryz.prog.funcNamed Rows.queryNamesRow.func = some 4 := by kernel_rfl
theorem kfQueryNames_inst : Tryz.f4.isInstance Tryz.prog Rows.queryNamesRow.origin Rows.queryNamesRow.targs := of_decide_eq_true (by kernel_rfl)
theorem kfQueryNames_wrap : Tryz.f4.isWrapper Tryz.prog Rows.queryNamesRow.wrapper Rows.queryNamesRow.mainSum := by unfold Func.isWrapper; first | (rw [if_pos (by decide +kernel)]; kernel_rfl) | (rw [if_neg (by decide +kernel)]; exact ⟨rfl, rfl⟩)
theorem queryNames_row : Rows.QueryNamesSaid :=
  OpenClaim.holds_of_wide 4 Tryz.f4 rfl rfl rfl rfl rfl rfl rfl ⟨rfl, rfl, rfl, rfl, rfl⟩ rfl rfl rfl rfl rfl kfQueryNames_named Tryz.func4 kfQueryNames_closed kfQueryNames_inst kfQueryNames_wrap
    (fun os started H enc _ => queryNames_lifted os started H enc)
end Go.Proofs.YtdngilegbpgjgaaGreatDoor
