/-
  Check, Rank and Before by either way: the call returns true from any start.
  No conditions: the given statement, its second form.
-/
import Derived.Test.YtlapkmobmgffoaaDoorStartC
import Derived.Test.YtlapkmobmgffoaaDoorOpnV
import Derived.Test.YtlapkmobmgffoaaDoorSrtH
set_option linter.unusedVariables false
set_option linter.unusedSimpArgs false
namespace Go.Proofs.YtlapkmobmgffoaaDoor
open Go Go.Aw Go.Nst Go.ChangeShapes Go.WideShapes Go.ChangeAt Go.RowKit

set_option maxRecDepth 100000 in
theorem sorterRanks_lifted (os : Os) (started : os.Started) (H : Type) (enc : TypeId × Value → H) (F : Stop.Interp) :
    ReturnsInHanded {} Tryd.checked os 3 .any (fun w args => ((Rows.OpenSpec.upto Rows.sorterRanksSpec).pre enc Tryd.prog Tryd.f3 Rows.sorterRanksUptoRow.domain false w args ∧ laidMetH Tryd.prog laidL w) ∧ sizedMet enc Tryd.prog Tryd.f3 (Rows.OpenSpec.upto Rows.sorterRanksSpec) false w args)
      (((Rows.OpenSpec.upto Rows.sorterRanksSpec).at F).post enc Tryd.prog Tryd.f3 false true false false) := by
  refine returns_shaped_cond (C := Tryd.checked) (k := Rows.uptoSmall) rfl (X := fun w _ => laidMetH Tryd.prog laidL w) (fun _ _ _ hh h => h.of_heap hh) ownKnob0 started (by kernel_rfl) Tryd.func3
    (witness_cond (enc := enc) (C := Tryd.checked) (os := os) (k := Rows.uptoSmall) rfl (X := fun w _ => laidMetH Tryd.prog laidL w) false (World.laidAll Tryd.prog os laidL) #[.agg #[.string ⟨#[]⟩, .slice none 0 0, .string ⟨#[]⟩, .bool false, .int .u8 0, .bool false, .int .i64 0, .int .i64 0, .int .i64 0, .int .i64 0, .int .i64 0], .agg #[.string ⟨#[]⟩, .slice none 0 0, .string ⟨#[]⟩, .bool false, .int .u8 0, .bool false, .int .i64 0, .int .i64 0, .int .i64 0, .int .i64 0, .int .i64 0]] 8 (World.laidAll_os _ _ _) (start_shaped os _) (by kernel_rfl) (x := ([.agg [.agg [.lit (.string []), .nil, .lit (.string [])], .lit (.bool false), .lit (.int .u8 0), .lit (.bool false), .lit (.int .i64 0), .agg [.lit (.int .i64 0), .lit (.int .i64 0), .lit (.int .i64 0)], .lit (.int .i64 0)], .agg [.agg [.lit (.string []), .nil, .lit (.string [])], .lit (.bool false), .lit (.int .u8 0), .lit (.bool false), .lit (.int .i64 0), .agg [.lit (.int .i64 0), .lit (.int .i64 0), .lit (.int .i64 0)], .lit (.int .i64 0)]], [], [])) (by kernel_rfl) (by kernel_rfl) (by kernel_rfl) (by kernel_rfl) (start_met os _)) ?_
  intro W base args ds gs before hval0 hW hkk hL hsh
  have hval : ∀ (j : Nat) t v, Tryd.f3.params[j]? = some t → args[j]? = some v → Value.okWide Tryd.prog W .any base t v := hval0
  have hW' := hW
  obtain ⟨p, q, hA0, hV, rfl, hfz, hnd⟩ := hW
  have hA : DataW.TrodAll enc Tryd.prog W 0 (fun _ => true) true Tryd.f3.params.toList args.toList ds p := hA0
  rw [Tryd.params3] at hA hval
  obtain ⟨v0, vs, d0, ds', p0, p1, ea, rfl, rfl, h0, h1⟩ := trodAll_cons hA
  obtain ⟨v1, vs1, d1, ds1, p2, p3, ea1, rfl, rfl, h2, h3⟩ := trodAll_cons h1
  obtain ⟨rfl, rfl, rfl⟩ := trodAll_nil h3
  have ea : args = #[v0, v1] := by apply Array.ext'; simpa [ea1] using ea
  subst ea
  obtain ⟨rfl, rfl⟩ := trodVars_none hV
  have hv := hval 0 28 v0 rfl rfl
  have hu := hval 1 28 v1 rfl rfl
  obtain ⟨a, ra, za⟩ := decl_of (let ⟨cs, e, _⟩ := okWide_struct Tryd.underlying28 hv; ⟨cs, e⟩) h0
  obtain ⟨b, rb, zb⟩ := decl_of (let ⟨cs, e, _⟩ := okWide_struct Tryd.underlying28 hu; ⟨cs, e⟩) h2
  have hb : Rows.uptoBulk d0 + Rows.uptoBulk d1 ≤ 1048576 := by
    simp only [Rows.uptoSmall, List.append_nil, Rows.uptoBulkAll, decide_eq_true_eq] at hkk
    omega
  unfold szD at za zb
  refine ((con_SorterRanks a b ⟨by omega, by omega, by omega⟩ ⟨by omega, by omega, by omega⟩).calls (W := W) (vs := [v0, v1]) (gok_of hL) (by simpa using ⟨ra, rb⟩)).mono fun e W' ⟨he, hb⟩ => ?_
  exact ⟨_, he, post_true laidOut0 (by kernel_rfl) (by kernel_rfl) (by kernel_rfl) Tryd.underlying4 hW' rfl hb⟩
end Go.Proofs.YtlapkmobmgffoaaDoor
