/-
  The weights of lists by either way: the call returns true from any start.
  No conditions: the given statement, its second form.
-/
import Derived.Test.YtlapkmobmgffoaaRfw
import Derived.Test.YtlapkmobmgffoaaOpn
import Derived.JoinedCond
set_option linter.unusedVariables false
set_option linter.unusedSimpArgs false
namespace Go.Proofs.Ytlapkmobmgffoaa
open Go Go.Aw Go.Sel Go.ChangeShapes Go.WideShapes Go.ChangeAt Go.RowKit

set_option maxRecDepth 100000 in
theorem weighLists_lifted (os : Os) (started : os.Started) (H : Type) (enc : TypeId × Value → H) (F : Stop.Interp) :
    ReturnsInHanded {} Try.checked os 3 .any ((Rows.OpenSpec.upto Rows.weighListsSpec).pre6 enc Try.prog Try.f3 Rows.weighListsUptoRow.domain false)
      (((Rows.OpenSpec.upto Rows.weighListsSpec).at F).post enc Try.prog Try.f3 false true false false) := by
  refine returnsInHanded_of_cond (C := Try.checked) (k := Rows.uptoSmall) rfl (by kernel_rfl) started (by kernel_rfl) Try.func3
    (OpenSpec.witness (enc := enc) (C := Try.checked) (os := os) (k := Rows.uptoSmall) rfl false ⟨#[], #[.slice none 0 0], []⟩ 8 (by kernel_rfl) (by kernel_rfl) (by kernel_rfl) (x := ([.nil], [], [])) (by kernel_rfl) (by kernel_rfl) (by kernel_rfl)) ?_
  intro W base args ds gs before hval0 hW hcnd hkk _
  have hval : ∀ (j : Nat) t v, Try.f3.params[j]? = some t → args[j]? = some v → Value.okWide Try.prog W .any base t v := hval0
  have hW' := hW
  obtain ⟨p, q, hA0, hV, rfl, hfz, hnd⟩ := hW
  have hA : DataW.TrodAll enc Try.prog W 0 (fun _ => true) true Try.f3.params.toList args.toList ds p := hA0
  rw [Try.params3] at hA hval
  obtain ⟨v0, vs, d0, ds', p0, p1, ea, rfl, rfl, h0, h1⟩ := trodAll_cons hA
  obtain ⟨rfl, rfl, rfl⟩ := trodAll_nil h1
  have ea : args = #[v0] := by apply Array.ext'; simpa using ea
  subst ea
  obtain ⟨rfl, rfl⟩ := trodVars_none hV
  have hv := hval 0 22 v0 rfl rfl
  obtain ⟨l, rl, hz⟩ := list_of (fun cs e => by subst e; simp [Value.okWide, Cell.okWide, Cell.ok, Try.underlying22] at hv) (fun cs e => by subst e; simp [Value.okWide, Cell.okWide, Cell.ok, Try.underlying22] at hv) h0
  have hb : Rows.uptoBulk d0 ≤ 1048576 := by
    simp only [Rows.uptoSmall, List.append_nil, Rows.uptoBulkAll, decide_eq_true_eq] at hkk
    omega
  letI : Laid := ⟨fun _ => none, fun _ _ e => by cases e⟩
  refine ((con_WeighLists l (by omega)).calls (W := W) (vs := [v0]) (fun g cs e => by cases e) (by simpa using rl)).mono fun e W' ⟨he, hb⟩ => ?_
  exact ⟨_, he, post_true (by kernel_rfl) (by kernel_rfl) (by kernel_rfl) (by kernel_rfl) Try.underlying4 hW' rfl hb⟩
end Go.Proofs.Ytlapkmobmgffoaa
