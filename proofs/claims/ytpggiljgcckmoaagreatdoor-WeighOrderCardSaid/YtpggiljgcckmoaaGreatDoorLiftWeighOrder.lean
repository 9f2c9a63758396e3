/-
  The order of weights: the call returns true from any start.
  No conditions: the given statement.
-/
import Derived.Test.YtpggiljgcckmoaaGreatDoorStart
import Derived.Test.YtpggiljgcckmoaaGreatDoorAlRun
import Derived.Test.YtpggiljgcckmoaaGreatDoorWOrdLaw
namespace Go.Proofs.YtpggiljgcckmoaaGreatDoor
open Go Go.Aw Go.ChangeShapes Go.WideShapes Go.ChangeAt Go.RowKit
theorem opens_weight : Opens Tryz.prog 28 (fun l : List Int => l.flatMap fun n => [int n]) (fun l => l.length = 3 ∧ ∀ n ∈ l, (Lit.int .i64 n).wf = true) :=
  opens_array Tryz.underlying28 (by kernel_rfl) (opens_int Tryz.underlying3 (by kernel_rfl))
set_option maxRecDepth 100000 in
theorem weight_of {H : Type} {enc : TypeId × Value → H} {W : World} {base : Nat} {v : Value} {d : DataW H} {ps : List MemPlace} (hval : Value.okWide Tryz.prog W .any base 28 v) (h : DataW.Trod enc Tryz.prog W 0 (fun _ => true) true 28 v d ps) :
    ∃ a : W3, Rep [] (old W) W (w3 a) v := by
  obtain ⟨l, ⟨hl, _⟩, hr⟩ := Opens.agg opens_weight (okWide_array Tryz.underlying28 hval) h
  match l, hl, hr with
  | [x, y, z], _, hr => exact ⟨(x, y, z), by simpa [w3] using hr⟩
set_option maxRecDepth 100000 in
theorem weighOrder_lifted (os : Os) (started : os.Started) (H : Type) (enc : TypeId × Value → H) :
    ReturnsInHanded {} Tryz.checked os 6 .any (fun w args => (Rows.weighOrderSpec.pre enc Tryz.prog Tryz.f6 Rows.weighOrderRow.domain false w args ∧ laidMetH Tryz.prog laidL w) ∧ sizedMet enc Tryz.prog Tryz.f6 (OpenSpec.ofChange Rows.weighOrderSpec) false w args)
      (Rows.weighOrderSpec.post enc Tryz.prog Tryz.f6 false true false false) := by
  refine returnsInHanded_of_change_and (C := Tryz.checked) (X := fun w _ => laidMetH Tryz.prog laidL w) (fun _ _ _ hh h => h.of_heap hh) ownKnob0 started (by kernel_rfl) Tryz.func6
    (ChangeSpec.witness_shaped (enc := enc) (C := Tryz.checked) (os := os) (X := fun w _ => laidMetH Tryz.prog laidL w) false (World.laidAll Tryz.prog os laidL) #[.agg #[.int .i64 0, .int .i64 0, .int .i64 0], .agg #[.int .i64 0, .int .i64 0, .int .i64 0], .agg #[.int .i64 0, .int .i64 0, .int .i64 0]] 8 (World.laidAll_os _ _ _) (start_shaped os _) (by kernel_rfl) (by kernel_rfl) (by kernel_rfl) (start_met os _)) ?_
  intro W base args ds gs before hval0 hW _ _ hL _
  have hval : ∀ (j : Nat) t v, Tryz.f6.params[j]? = some t → args[j]? = some v → Value.okWide Tryz.prog W .any base t v := hval0
  have hW' := hW
  obtain ⟨p, q, hA0, hV, rfl, hfz, hnd⟩ := hW
  have hA : DataW.TrodAll enc Tryz.prog W 0 (fun _ => true) true Tryz.f6.params.toList args.toList ds p := hA0
  rw [Tryz.params6] at hA hval
  obtain ⟨v0, v1, v2, d0, d1, d2, p0, p1, p2, rfl, rfl, rfl, h0, h1, h2⟩ := trodAll_three hA
  obtain ⟨rfl, rfl⟩ := trodVars_none hV
  obtain ⟨a, ra⟩ := weight_of (hval 0 28 v0 rfl rfl) h0
  obtain ⟨b, rb⟩ := weight_of (hval 1 28 v1 rfl rfl) h1
  obtain ⟨c, rc⟩ := weight_of (hval 2 28 v2 rfl rfl) h2
  refine ((con_order conAl a b c).calls (W := W) (vs := [v0, v1, v2]) (gok_of hL) (by simpa using ⟨ra, rb, rc⟩)).mono fun e W' ⟨he, hb⟩ => ?_
  exact ⟨_, he, post_true laidOut0 (by kernel_rfl) (by kernel_rfl) (by kernel_rfl) Tryz.underlying4 hW' rfl hb⟩
end Go.Proofs.YtpggiljgcckmoaaGreatDoor
