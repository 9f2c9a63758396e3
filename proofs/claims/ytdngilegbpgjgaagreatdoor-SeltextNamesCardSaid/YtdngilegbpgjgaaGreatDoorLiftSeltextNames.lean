/-
  Examples of selectors, limits and errors: the call returns true from any start.
  No conditions: the given statement.
-/
import Derived.Test.YtdngilegbpgjgaaGreatDoorStart
import Derived.Test.YtdngilegbpgjgaaGreatDoorSnRun
set_option linter.unusedVariables false
set_option linter.unusedSimpArgs false
namespace Go.Proofs.YtdngilegbpgjgaaGreatDoor
open Go Go.Aw Go.ChangeShapes Go.WideShapes Go.ChangeAt Go.RowKit

set_option maxRecDepth 100000 in
theorem seltextNames_lifted (os : Os) (started : os.Started) (H : Type) (enc : TypeId × Value → H) :
    ReturnsInHanded {} Tryz.checked os 3 .any (fun w args => (Rows.seltextNamesSpec.pre enc Tryz.prog Tryz.f3 Rows.seltextNamesRow.domain false w args ∧ laidMetH Tryz.prog laidL w) ∧ sizedMet enc Tryz.prog Tryz.f3 (OpenSpec.ofChange Rows.seltextNamesSpec) false w args)
      (Rows.seltextNamesSpec.post enc Tryz.prog Tryz.f3 false true false false) := by
  refine returns_shaped (C := Tryz.checked) (X := fun w _ => laidMetH Tryz.prog laidL w) (fun _ _ _ hh h => h.of_heap hh) ownKnob0 started (by kernel_rfl) Tryz.func3
    (ChangeSpec.witness_shaped (enc := enc) (C := Tryz.checked) (os := os) (X := fun w _ => laidMetH Tryz.prog laidL w) false (World.laidAll Tryz.prog os laidL) #[] 8 (World.laidAll_os _ _ _) (start_shaped os _) (by kernel_rfl) (by kernel_rfl) (by kernel_rfl) (start_met os _)) ?_
  intro W base args ds gs before hval0 hW hL hsh
  have hW' := hW
  obtain ⟨p, q, hA0, hV, rfl, hfz, hnd⟩ := hW
  have hA : DataW.TrodAll enc Tryz.prog W 0 (fun _ => true) true Tryz.f3.params.toList args.toList ds p := hA0
  rw [Tryz.params3] at hA
  obtain ⟨e1, rfl, rfl⟩ := trodAll_nil hA
  obtain ⟨rfl, rfl⟩ := trodVars_none hV
  have e1 : args = #[] := by apply Array.ext'; simpa using e1
  subst e1
  obtain ⟨m, hm, hs⟩ := maxLen_of hsh
  letI : MaxL := ⟨m⟩
  refine (conSn.calls (W := W) (vs := []) (gok_of hL hm hs) (by simp)).mono fun e W' ⟨he, hb⟩ => ?_
  exact ⟨_, he, post_true laidOut0 (by kernel_rfl) (by kernel_rfl) (by kernel_rfl) Tryz.underlying4 hW' rfl hb⟩
end Go.Proofs.YtdngilegbpgjgaaGreatDoor
