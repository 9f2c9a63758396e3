/-
  Checking, counting and writing selectors give the reference's results: the call returns true from any start.
  No conditions: the given statement, its second form.
-/
import Derived.Test.YthblflmjingcfaaGreatDoorZ1
import Derived.Test.YthblflmjingcfaaGreatDoorI1
set_option linter.unusedVariables false
set_option linter.unusedSimpArgs false
namespace Go.Proofs.YthblflmjingcfaaGreatDoor
open Go Go.Aw Go.Sel Go.ChangeShapes Go.WideShapes Go.ChangeAt Go.RowKit

set_option maxRecDepth 100000 in
theorem seltextWrites_lifted (os : Os) (started : os.Started) (H : Type) (enc : TypeId × Value → H) (F : Stop.Interp) :
    ReturnsInHanded {} Tryz.checked os 3 .any (fun w args => ((Rows.OpenSpec.upto Rows.seltextWritesSpec).pre enc Tryz.prog Tryz.f3 Rows.seltextWritesUptoRow.domain false w args ∧ laidMetH Tryz.prog laidL w) ∧ sizedMet enc Tryz.prog Tryz.f3 (Rows.OpenSpec.upto Rows.seltextWritesSpec) false w args)
      (((Rows.OpenSpec.upto Rows.seltextWritesSpec).at F).post enc Tryz.prog Tryz.f3 false true false false) := by
  refine returns_shaped_cond (C := Tryz.checked) (k := Rows.uptoSmall) rfl (X := fun w _ => laidMetH Tryz.prog laidL w) (fun _ _ _ hh h => h.of_heap hh) ownKnob0 started (by kernel_rfl) Tryz.func3
    (witness_cond (enc := enc) (C := Tryz.checked) (os := os) (k := Rows.uptoSmall) rfl (X := fun w _ => laidMetH Tryz.prog laidL w) false (World.laidAll Tryz.prog os laidL) #[.slice none 0 0] 8 (World.laidAll_os _ _ _) (start_shaped os _) (by kernel_rfl) (x := ([.nil], [], [])) (by kernel_rfl) (by kernel_rfl) (by kernel_rfl) (by kernel_rfl) (start_met os _)) ?_
  intro W base args ds gs before hval0 hW hkk hL hsh
  have hval : ∀ (j : Nat) t v, Tryz.f3.params[j]? = some t → args[j]? = some v → Value.okWide Tryz.prog W .any base t v := hval0
  have hW' := hW
  obtain ⟨p, q, hA0, hV, rfl, hfz, hnd⟩ := hW
  have hA : DataW.TrodAll enc Tryz.prog W 0 (fun _ => true) true Tryz.f3.params.toList args.toList ds p := hA0
  rw [Tryz.params3] at hA hval
  obtain ⟨v0, vs, d0, ds', p0, p1, ea, rfl, rfl, h0, h1⟩ := trodAll_cons hA
  obtain ⟨rfl, rfl, rfl⟩ := trodAll_nil h1
  have ea : args = #[v0] := by apply Array.ext'; simpa using ea
  subst ea
  obtain ⟨rfl, rfl⟩ := trodVars_none hV
  have hv := hval 0 22 v0 rfl rfl
  obtain ⟨l, rl, hz, hgl⟩ := listG_of (fun cs e => by subst e; simp [Value.okWide, Cell.okWide, Cell.ok, Tryz.underlying22] at hv) (fun cs e => by subst e; simp [Value.okWide, Cell.okWide, Cell.ok, Tryz.underlying22] at hv) h0
  have hb : Rows.uptoBulk d0 ≤ 1048576 := by
    simp only [Rows.uptoSmall, List.append_nil, Rows.uptoBulkAll, decide_eq_true_eq] at hkk
    omega
  obtain ⟨m, hm, hs⟩ := maxLen_of hsh
  letI : MaxL := ⟨m⟩
  refine ((con_SeltextWrites l (by omega) hgl).calls (W := W) (vs := [v0]) (gok_of hL hm hs) (by simpa using rl)).mono fun e W' ⟨he, hb⟩ => ?_
  exact ⟨_, he, post_true laidOut0 (by kernel_rfl) (by kernel_rfl) (by kernel_rfl) Tryz.underlying4 hW' rfl hb⟩
end Go.Proofs.YthblflmjingcfaaGreatDoor
