/-
  Loops whose rounds leave memory behind: what lies behind the first places is let go; nil slices that grow from now on.
  No conditions: lemmas.
-/
import Derived.Test.YtpggiljgcckmoaaGreatDoorExec3
import Derived.Test.YtpggiljgcckmoaaGreatDoorWalk
namespace Go.Aw
open Go Go.RowKit
variable [Laid]
/-- What lies behind the first 'M' places is let go, where nothing names it. -/
theorem Wk.cutL {L M : Nat} {h : Heap} {s : List AV} (hL : L ≤ M) (hM : M ≤ h.length) (hb : ∀ e ∈ h.take M, entB M e) (hs : ∀ a ∈ s, Bd M a) : Wk L s h s (h.take M) :=
  ⟨by simp; omega, rfl, fun base ι S w vs r k => by
    obtain ⟨hE, hT⟩ := k.cut hM hb
    exact ⟨_, _, hE.mono hL (Nat.le_refl _), RepL.mk r.length fun i a v e f => by
      obtain ⟨u, hu, ru⟩ := r.get i a e
      rw [f] at hu
      cases hu
      exact Rep.evoB hE a v (hs a (List.mem_of_getElem? e)) ru, hT⟩⟩
/-- The nil slice is one with nothing in it. -/
theorem Wk.nil {n : Nat} {s : List AV} {h : Heap} (hn : n ≤ h.length) (i : Nat) (hi : s[i]? = some (.v (.slice none 0 0))) : Wk n s h (s.set i .emp) h := by
  refine ⟨hn, by simp, fun base ι S w vs r k => ?_⟩
  obtain ⟨v, hv, rv⟩ := r.get i _ hi
  rw [Rep_v] at rv
  subst rv
  have r2 := r.set i .emp (.slice none 0 0) (by rw [Rep]; exact ⟨_, rfl⟩)
  have : vs.set i (.slice none 0 0) = vs := by
    refine List.ext_getElem? fun j => ?_
    by_cases q : j = i
    · subst q; rw [List.getElem?_set_self (List.getElem?_eq_some_iff.1 hv).1, hv]
    · rw [List.getElem?_set_ne (Ne.symm q)]
  rw [this] at r2
  exact ⟨ι, S, Evo.refl _ _ _ _ _, r2, k⟩
end Go.Aw
