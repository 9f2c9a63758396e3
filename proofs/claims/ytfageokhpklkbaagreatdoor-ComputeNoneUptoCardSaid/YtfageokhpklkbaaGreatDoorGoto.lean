/-
 Runs of a function whose code jumps back to a label.
 No conditions: definitions and lemmas over any program.
-/
import Derived.Test.YtfageokhpklkbaaGreatDoorL4
import Derived.ScopeJumps
set_option linter.unusedVariables false
set_option linter.unusedSimpArgs false
namespace Go.Aw
open Go Go.RowKit
theorem w8 {p : Nat → Prop} (h : ∃ k,p k) : ∃ k,p k ∧ ∀ j,p j → k ≤ j:=by
 obtain ⟨k,hk⟩:=h
 induction k using Nat.strongRecOn with
 | _ k ih =>
   by_cases q : ∃ j,j < k ∧ p j
   ·obtain ⟨j,hj,pj⟩:=q
    exact ih j hj pj
   ·exact ⟨k,hk,fun j pj=>Nat.le_of_not_lt fun z=>q ⟨j,z,pj⟩⟩
open Classical in
noncomputable def sA (p : Nat → Prop) : Nat:=if h : ∃ k,p k then Classical.choose (w8 h) else 0
theorem pV {p : Nat → Prop} (h : ∃ k,p k) : p (sA p) ∧ ∀ j,p j → sA p ≤ j:=by
 unfold sA
 rw [dif_pos h]
 exact Classical.choose_spec (w8 h)
theorem uU {P : Program} {a : Act} {w : World} {Q : Exit → Act → World → Prop} {c rest : Code} (l : Nat) (J : Nat → Act → World → Prop) (hf : findLabel c l = some rest) (first : c.wp P (Exit.jump l (fun a w=>∃ k,J k a w) Q) a w)
 (pass : ∀ k a w,J k a w → rest.wp P (Exit.jump l (fun a' w' => ∃ k',k' < k ∧ J k' a' w') Q) a w) : (Code.scope c).wp P Q a w:=by
 refine wp_scope_jumps l (fun a w=>∃ k,J k a w) (fun a w=>sA fun k=>J k a w) hf first fun a w h=>?_
 obtain ⟨h1,h2⟩:=pV h
 refine wp_mono (pass _ a w h1) fun e a' w' z=>?_
 cases e with
 | goto l' =>
   obtain ⟨rfl,k',hk,hJ⟩:=z
   exact ⟨rfl,⟨k',hJ⟩,Nat.lt_of_le_of_lt ((pV (p:=fun k=>J k a' w') ⟨k',hJ⟩).2 k' hJ) hk⟩
 | normal=>exact z
 | exit id=>exact z
 | ret=>exact z
 | panic ch=>exact z
 | outgrown=>exact z
section
variable [Laid]
variable {P : Program} {call : aw} {own : Nat → Nat → Bool} {n F : Nat}
end
end Go.Aw

