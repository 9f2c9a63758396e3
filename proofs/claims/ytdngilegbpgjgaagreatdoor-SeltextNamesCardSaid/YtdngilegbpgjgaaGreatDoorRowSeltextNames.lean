/-
  Examples of selectors, limits and errors: the row.
  No conditions: the given statement.
-/
import Derived.Test.YtdngilegbpgjgaaGreatDoorLiftSeltextNames
set_option linter.unusedVariables false
set_option linter.unusedSimpArgs false
namespace Go.Proofs.YtdngilegbpgjgaaGreatDoor
open Go Go.Aw Go.ChangeShapes Go.WideShapes Go.ChangeAt Go.RowKit
set_option maxRecDepth 1000000
theorem and2 {a b : Bool} (h : a = true) (k : b = true) : (a && b) = true := by rw [h, k]; rfl
theorem kfSeltextNames0 : (Rows.seltextNamesRow.wf (OpenSpec.ofChange Rows.seltextNamesSpec)) = true := by kernel_rfl
theorem kfSeltextNames1 : (laidOutB Tryz.prog) = true := by kernel_rfl
theorem kfSeltextNames2 : (mapsRowed Tryz.prog) = true := by kernel_rfl
theorem kfSeltextNames3 : (Tryz.f3.params.all (Tryz.prog.readableRec ·)) = true := by kernel_rfl
theorem kfSeltextNames4 : (namedTie Tryz.prog Rows.seltextNamesRow.named Rows.seltextNamesSpec.vars) = true := by kernel_rfl
theorem kfSeltextNames5 : ((Rows.seltextNamesRow.stops == [])) = true := by kernel_rfl
theorem kfSeltextNames6 : ((Tryz.prog.stops == [])) = true := by kernel_rfl
theorem kfSeltextNames7 : ((Rows.seltextNamesRow.knobs == [])) = true := by kernel_rfl
theorem kfSeltextNames8 : ((Tryz.prog.stopKnobs == [])) = true := by kernel_rfl
theorem kfSeltextNames9 : ((Rows.seltextNamesRow.inPlace == Tryz.prog.inPlace 3)) = true := by kernel_rfl
theorem kfSeltextNames10 : ((Rows.seltextNamesRow.unfollowed == Tryz.prog.unfollowed 3)) = true := by kernel_rfl
theorem kfSeltextNames11 : ((Rows.seltextNamesRow.recurses == Tryz.prog.recurses 3)) = true := by kernel_rfl
theorem kfSeltextNames12 : ((Rows.seltextNamesRow.named == Tryz.prog.varsNamed 3)) = true := by kernel_rfl
theorem kfSeltextNames13 : ((Rows.seltextNamesRow.maps == (Tryz.f3.params.toList ++ Rows.seltextNamesSpec.plain.varTypes Tryz.prog).any (Tryz.prog.mapsRec ·))) = true := by kernel_rfl
theorem kfSeltextNames14 : ((Rows.seltextNamesRow.ifaces == (Tryz.f3.params.toList ++ Rows.seltextNamesSpec.plain.varTypes Tryz.prog).any (Tryz.prog.ifacesRec ·))) = true := by kernel_rfl
theorem kfSeltextNames15 : ((Rows.seltextNamesRow.mapsOut == Tryz.prog.mapsAmong Tryz.f3.resultTypes.toList)) = true := by kernel_rfl
theorem kfSeltextNames16 : ((Rows.seltextNamesRow.loops == (Tryz.f3.params.toList ++ Rows.seltextNamesSpec.plain.varTypes Tryz.prog).any (Tryz.prog.loopsFrom ·))) = true := by kernel_rfl
theorem kfSeltextNames17 : ((Rows.seltextNamesRow.wideKeys == (Tryz.f3.params.toList ++ Rows.seltextNamesSpec.plain.varTypes Tryz.prog ++ Tryz.f3.resultTypes.toList).any (Tryz.prog.wideKeysFrom ·))) = true := by kernel_rfl
theorem kfSeltextNames18 : (Rows.seltextNamesSpec.vars.all (Tryz.prog.varReadable ·)) = true := by kernel_rfl
theorem kfSeltextNames19 : (Tryz.f3.resultTypes.all (fun t => Tryz.prog.readableRec t && decide (t < Tryz.prog.types.size))) = true := by kernel_rfl
theorem kfSeltextNames20 : ((Rows.seltextNamesRow.ifacesOut == Tryz.f3.resultTypes.toList.any (Tryz.prog.ifacesRec ·))) = true := by kernel_rfl
theorem kfSeltextNames21 : ((Rows.seltextNamesRow.loopsOut == Tryz.f3.resultTypes.toList.any (Tryz.prog.loopsFrom ·))) = true := by kernel_rfl
theorem kfSeltextNames22 : ((Rows.seltextNamesRow.plainKeys == Tryz.prog.plainKeys)) = true := by kernel_rfl
theorem kfSeltextNames23 : (Rows.seltextNamesRow.shortTexts.isNone) = true := by kernel_rfl
theorem kfSeltextNames24 : (Tryz.prog.stopsHeard) = true := by kernel_rfl
theorem kfSeltextNames25 : (Tryz.prog.mayEnter) = true := by kernel_rfl
theorem kfSeltextNames26 : ((Rows.seltextNamesRow.lifted == Tryz.prog.liftsFinal)) = true := by kernel_rfl
theorem kfSeltextNames27 : ((Tryz.prog.make == some Rows.seltextNamesRow.make)) = true := by kernel_rfl
theorem kfSeltextNames28 : ((Rows.seltextNamesRow.kinds == (if Rows.seltextNamesRow.domain.isEmpty then [] else Tryz.f3.params.toList.map fun t => match Tryz.prog.underlying t with | some (.int k) => some k | _ => none))) = true := by kernel_rfl
theorem kfSeltextNames29 : ((Rows.seltextNamesRow.pinned == Rows.seltextNamesRow.pinnedBy)) = true := by kernel_rfl
theorem kfSeltextNames30 : ((Rows.seltextNamesRow.veiled == (Tryz.f3.params.toList ++ Rows.seltextNamesSpec.plain.varTypes Tryz.prog ++ Tryz.f3.resultTypes.toList).any (Tryz.prog.veiledRec ·))) = true := by kernel_rfl
theorem kfSeltextNames31 : (Rows.seltextNamesRow.veiledFits Tryz.prog Tryz.f3.params.toList (Tryz.f3.params.toList ++ Rows.seltextNamesSpec.plain.varTypes Tryz.prog ++ Tryz.f3.resultTypes.toList)) = true := by kernel_rfl
theorem kfSeltextNames_closed : joinedFacts Tryz.prog 3 Tryz.f3 Rows.seltextNamesSpec Rows.seltextNamesRow = true := by
  unfold joinedFacts
  exact (and2 (and2 (and2 (and2 (and2 (and2 (and2 (and2 (and2 (and2 (and2 (and2 (and2 (and2 (and2 (and2 (and2 (and2 (and2 (and2 (and2 (and2 (and2 (and2 (and2 (and2 (and2 (and2 (and2 (and2 (and2 kfSeltextNames0 kfSeltextNames1) kfSeltextNames2) kfSeltextNames3) kfSeltextNames4) kfSeltextNames5) kfSeltextNames6) kfSeltextNames7) kfSeltextNames8) kfSeltextNames9) kfSeltextNames10) kfSeltextNames11) kfSeltextNames12) kfSeltextNames13) kfSeltextNames14) kfSeltextNames15) kfSeltextNames16) kfSeltextNames17) kfSeltextNames18) kfSeltextNames19) kfSeltextNames20) kfSeltextNames21) kfSeltextNames22) kfSeltextNames23) kfSeltextNames24) kfSeltextNames25) kfSeltextNames26) kfSeltextNames27) kfSeltextNames28) kfSeltextNames29) kfSeltextNames30) kfSeltextNames31)
theorem kfSeltextNames_named : Tryz.prog.funcNamed Rows.seltextNamesRow.func = some 3 := by kernel_rfl
theorem kfSeltextNames_inst : Tryz.f3.isInstance Tryz.prog Rows.seltextNamesRow.origin Rows.seltextNamesRow.targs := of_decide_eq_true (by kernel_rfl)
theorem kfSeltextNames_wrap : Tryz.f3.isWrapper Tryz.prog Rows.seltextNamesRow.wrapper Rows.seltextNamesRow.mainSum := by unfold Func.isWrapper; first | (rw [if_pos (by decide +kernel)]; kernel_rfl) | (rw [if_neg (by decide +kernel)]; exact ⟨rfl, rfl⟩)
theorem seltextNames_row : Rows.SeltextNamesSaid :=
  OpenClaim.holds_of_wide 3 Tryz.f3 rfl rfl rfl rfl rfl rfl rfl ⟨rfl, rfl, rfl, rfl, rfl⟩ rfl rfl rfl rfl rfl kfSeltextNames_named Tryz.func3 kfSeltextNames_closed kfSeltextNames_inst kfSeltextNames_wrap
    (fun os started H enc _ => seltextNames_lifted os started H enc)
end Go.Proofs.YtdngilegbpgjgaaGreatDoor
