/-
  Weights compared and added by either way give the same answers, whatever two weights come in.
  No conditions: the given statement for every input.
-/
import Derived.Test.YtedaaincibcbkaaFin
import Derived.Test.YtedaaincibcbkaaT1
import Derived.Test.YtedaaincibcbkaaRows
namespace Go.Proofs.Ytedaaincibcbkaa
open Go Go.Aw Go.ChangeShapes Go.WideShapes Go.ChangeAt Go.RowKit

theorem opens23 : Opens Try.prog 23 (fun l : List Int => l.flatMap fun n => [int n]) (fun l => l.length = 3 ∧ ∀ n ∈ l, (Lit.int .i64 n).wf = true) :=
  opens_array Try.underlying23 (by kernel_rfl) (opens_int Try.underlying3 (by kernel_rfl))

set_option maxRecDepth 100000 in
theorem weight_of {H : Type} {enc : TypeId × Value → H} {W : World} {base : Nat} {v : Value} {d : DataW H} {ps : List MemPlace} (hval : Value.okWide Try.prog W .any base 23 v) (h : DataW.Trod enc Try.prog W 0 (fun _ => true) true 23 v d ps) :
    ∃ a : W3, Rep [] (old W) W (w3 a) v := by
  obtain ⟨l, ⟨hl, _⟩, hr⟩ := Opens.agg opens23 (okWide_array Try.underlying23 hval) h
  match l, hl, hr with
  | [x, y, z], _, hr => exact ⟨(x, y, z), by simpa [w3] using hr⟩

set_option maxRecDepth 100000 in
theorem weighSums_lifted (os : Os) (started : os.Started) (H : Type) (enc : TypeId × Value → H) :
    ReturnsInHanded {} Try.checked os 3 .any (Rows.weighSumsSpec.pre6 enc Try.prog Try.f3 Rows.weighSumsRow.domain false) (Rows.weighSumsSpec.post enc Try.prog Try.f3 false true false false) := by
  refine returnsInHanded_of_change (C := Try.checked) (by kernel_rfl) started (by kernel_rfl) Try.func3
    (ChangeSpec.witness6 (enc := enc) (C := Try.checked) false ⟨#[], #[.agg #[.int .i64 0, .int .i64 0, .int .i64 0], .agg #[.int .i64 0, .int .i64 0, .int .i64 0]], []⟩ 8 (by kernel_rfl) (by kernel_rfl) (by kernel_rfl) (by kernel_rfl)) ?_
  intro W base args ds gs before hval0 hW hcnd _
  have hval : ∀ (j : Nat) t v, Try.f3.params[j]? = some t → args[j]? = some v → Value.okWide Try.prog W .any base t v := hval0
  have hW' := hW
  obtain ⟨p, q, hA0, hV, rfl, hfz, hnd⟩ := hW
  have hA : DataW.TrodAll enc Try.prog W 0 (fun _ => true) true Try.f3.params.toList args.toList ds p := hA0
  rw [Try.params3] at hA hval
  obtain ⟨v0, v1, d0, d1, p0, p1, rfl, rfl, rfl, h0, h1⟩ := trodAll_two hA
  obtain ⟨rfl, rfl⟩ := trodVars_none hV
  obtain ⟨a, ra⟩ := weight_of (hval 0 23 v0 rfl rfl) h0
  obtain ⟨b, rb⟩ := weight_of (hval 1 23 v1 rfl rfl) h1
  refine ((law_con a b).calls (W := W) (vs := [v0, v1]) (by simpa using ⟨ra, rb⟩)).mono fun e W' ⟨he, hb⟩ => ?_
  exact ⟨_, he, post_true (by kernel_rfl) (by kernel_rfl) (by kernel_rfl) (by kernel_rfl) Try.underlying4 hW' rfl hb⟩

theorem weighSums_holds : Rows.WeighSumsSaid :=
  OpenClaim.holds_of_wide 3 Try.f3 rfl rfl rfl rfl rfl rfl rfl ⟨rfl, rfl, rfl, rfl, rfl⟩ rfl rfl rfl rfl rfl (by kernel_rfl) Try.func3 (by kernel_rfl)
    (of_decide_eq_true (by kernel_rfl)) (by unfold Func.isWrapper; first | (rw [if_pos (by decide +kernel)]; kernel_rfl) | (rw [if_neg (by decide +kernel)]; exact ⟨rfl, rfl⟩))
    (fun os started H enc _ => weighSums_lifted os started H enc)
#print axioms weighSums_holds
end Go.Proofs.Ytedaaincibcbkaa
