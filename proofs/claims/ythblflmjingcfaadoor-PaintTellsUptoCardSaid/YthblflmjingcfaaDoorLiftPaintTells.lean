/-
  Check, Was and Colors by either way: the call returns true from any start.
  No conditions: the given statement, its second form.
-/
import Derived.Test.YthblflmjingcfaaDoorZ1
import Derived.Test.YthblflmjingcfaaDoorO1
import Derived.Test.YthblflmjingcfaaDoorS4
set_option linter.unusedVariables false
set_option linter.unusedSimpArgs false
namespace Go.Proofs.YthblflmjingcfaaDoor
open Go Go.Aw Go.Nst Go.ChangeShapes Go.WideShapes Go.ChangeAt Go.RowKit

set_option maxRecDepth 100000 in
theorem paintTells_lifted (os : Os) (started : os.Started) (H : Type) (enc : TypeId × Value → H) (F : Stop.Interp) :
    ReturnsInHanded {} Tryd.checked os 3 .any (fun w args => ((Rows.OpenSpec.upto Rows.paintTellsSpec).pre enc Tryd.prog Tryd.f3 Rows.paintTellsUptoRow.domain false w args ∧ laidMetH Tryd.prog laidL w) ∧ sizedMet enc Tryd.prog Tryd.f3 (Rows.OpenSpec.upto Rows.paintTellsSpec) false w args)
      (((Rows.OpenSpec.upto Rows.paintTellsSpec).at F).post enc Tryd.prog Tryd.f3 false true false false) := by
  refine returns_shaped_cond (C := Tryd.checked) (k := Rows.uptoSmall) rfl (X := fun w _ => laidMetH Tryd.prog laidL w) (fun _ _ _ hh h => h.of_heap hh) ownKnob0 started (by kernel_rfl) Tryd.func3
    (witness_cond (enc := enc) (C := Tryd.checked) (os := os) (k := Rows.uptoSmall) rfl (X := fun w _ => laidMetH Tryd.prog laidL w) false (World.laidAll Tryd.prog os laidL) #[.slice none 0 0, .string ⟨#[]⟩, .agg #[.slice none 0 0, .slice none 0 0], .agg #[.slice none 0 0, .slice none 0 0], .bool false] 8 (World.laidAll_os _ _ _) (start_shaped os _) (by kernel_rfl) (x := ([.nil, .lit (.string []), .agg [.nil, .nil], .agg [.nil, .nil], .lit (.bool false)], [], [])) (by kernel_rfl) (by kernel_rfl) (by kernel_rfl) (by kernel_rfl) (start_met os _)) ?_
  intro W base args ds gs before hval0 hW hkk hL hsh
  have hval : ∀ (j : Nat) t v, Tryd.f3.params[j]? = some t → args[j]? = some v → Value.okWide Tryd.prog W .any base t v := hval0
  have hW' := hW
  obtain ⟨p, q, hA0, hV, rfl, hfz, hnd⟩ := hW
  have hA : DataW.TrodAll enc Tryd.prog W 0 (fun _ => true) true Tryd.f3.params.toList args.toList ds p := hA0
  rw [Tryd.params3] at hA hval
  obtain ⟨v0, vs, d0, ds', p0, p1, ea, rfl, rfl, h0, h1⟩ := trodAll_cons hA
  obtain ⟨v1, vs1, d1, ds1, p2, p3, ea1, rfl, rfl, h2, h3⟩ := trodAll_cons h1
  obtain ⟨v2, vs2, d2, ds2, p4, p5, ea2, rfl, rfl, h4, h5⟩ := trodAll_cons h3
  obtain ⟨v3, vs3, d3, ds3, p6, p7, ea3, rfl, rfl, h6, h7⟩ := trodAll_cons h5
  obtain ⟨v4, vs4, d4, ds4, p8, p9, ea4, rfl, rfl, h8, h9⟩ := trodAll_cons h7
  obtain ⟨rfl, rfl, rfl⟩ := trodAll_nil h9
  have ea : args = #[v0, v1, v2, v3, v4] := by apply Array.ext'; simpa [ea1, ea2, ea3, ea4] using ea
  subst ea
  obtain ⟨rfl, rfl⟩ := trodVars_none hV
  have hb : Rows.uptoBulk d0 + Rows.uptoBulk d1 + Rows.uptoBulk d2 + Rows.uptoBulk d3 + Rows.uptoBulk d4 ≤ 1048576 := by
    simp only [Rows.uptoSmall, List.append_nil, Rows.uptoBulkAll, decide_eq_true_eq] at hkk
    omega
  have w0 := hval 0 22 v0 rfl rfl
  have w2 := hval 2 26 v2 rfl rfl
  have w3 := hval 3 26 v3 rfl rfl
  obtain ⟨l, rl, hl⟩ := hist_of (fun cs e => by subst e; simp [Value.okWide, Cell.okWide, Cell.ok, Tryd.underlying22] at w0) (fun cs e => by subst e; simp [Value.okWide, Cell.okWide, Cell.ok, Tryd.underlying22] at w0) h0 (by omega)
  have w1 := hval 1 9 v1 rfl rfl
  obtain ⟨f1, h2⟩ := h2
  obtain ⟨t1, et1, e1', ht1⟩ := DataW.trod_string Tryd.underlying9 h2
  have q1 : v1 = .string t1 := by
    have e : v1.cells.toList = [v1] := by
      cases v1 <;> first | rfl | (simp [Value.okWide, Cell.okWide, Cell.ok, Tryd.underlying9] at w1)
    rw [e] at et1
    simpa using et1
  subst q1
  have z1 : t1.data.toList.length ≤ 1048576 := by
    simp only [Prod.mk.injEq] at e1'
    obtain ⟨rfl, _⟩ := e1'
    rw [Rows.uptoBulk] at hb
    omega
  obtain ⟨a, ra, oa, la⟩ := style_of (let ⟨cs, e, _⟩ := okWide_struct Tryd.underlying26 w2; ⟨cs, e⟩) h4 (by omega)
  obtain ⟨b, rb, ob, lb⟩ := style_of (let ⟨cs, e, _⟩ := okWide_struct Tryd.underlying26 w3; ⟨cs, e⟩) h6 (by omega)
  have w4 := hval 4 4 v4 rfl rfl
  obtain ⟨f4, h8⟩ := h8
  obtain ⟨was, et4, _⟩ := DataW.trod_bool Tryd.underlying4 h8
  have q4 : v4 = .bool was := by
    have e : v4.cells.toList = [v4] := by
      cases v4 <;> first | rfl | (simp [Value.okWide, Cell.okWide, Cell.ok, Tryd.underlying4] at w4)
    rw [e] at et4
    simpa using et4
  subst q4
  refine ((con_PaintTells l t1.data.toList a b was hl (by omega) oa ob la lb).calls (W := W) (vs := [v0, .string t1, v2, v3, .bool was]) (gok_of hL) (by simpa using ⟨rl, by simpa using ht1, ra, rb⟩)).mono fun e W' ⟨he, hb⟩ => ?_
  exact ⟨_, he, post_true laidOut0 (by kernel_rfl) (by kernel_rfl) (by kernel_rfl) Tryd.underlying4 hW' rfl hb⟩
end Go.Proofs.YthblflmjingcfaaDoor
