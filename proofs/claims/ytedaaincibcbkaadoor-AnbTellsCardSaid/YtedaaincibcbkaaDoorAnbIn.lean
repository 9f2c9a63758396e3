/-
  Progressions: contracts of In and All, of the program and of the reference, at every input.
  No conditions.
-/
import Derived.Test.YtedaaincibcbkaaDoorWTells
import Derived.Test.YtedaaincibcbkaaDoorLaw
import Derived.Test.YtedaaincibcbkaaDoorCuts
namespace Go.Proofs.YtedaaincibcbkaaDoor
open Go Go.Aw Go.AnbLaw
set_option maxRecDepth 100000
variable [Laid]
def anbA (A B : Int) : AV := .agg [int A, int B]
omit [Laid] in
@[simp] theorem anbA_pure (A B : Int) : Aw.Pure (anbA A B) := by simp [anbA]
def okN (n : Int) : Bool := decide (-1000000000 ≤ n) && decide (n ≤ 1000000000)
theorem con_within (n : Int) : Con Tryd.prog 43 [int n] (bool (okN n)) := by
  refine (V43 _).gives (by simp) (by simp) ?_
  unfold W43
  by_cases h1 : -1000000000 ≤ n
  · simp [h1]
    exact .pure (by simp) (by simp [okN, h1])
  · simp [h1]
    exact .pure (by simp) (by simp [okN, h1])
def ckA (A B : Int) : Int := if okN A && okN B then 0 else 8
theorem con_check (A B : Int) : Con Tryd.prog 13 [anbA A B] (int (ckA A B)) := by
  refine (V13 _).gives (by simp) (by simp) ?_
  unfold W13
  simp [anbA]
  refine iCall_con (by kernel_rfl) (con_within A) ?_
  cases hA : okN A
  · simp
    exact .pure (by simp) (by simp [ckA, hA])
  · simp
    refine iCall_con (by kernel_rfl) (con_within B) ?_
    cases hB : okN B <;> simp <;> exact .pure (by simp) (by simp [ckA, hA, hB])
theorem con_has (A B p : Int) (hB : okN B = true) (hp : okN p = true) : Con Tryd.prog 37 [anbA A B, int p] (bool (hasP A B p)) := by
  refine (V37 _ _).gives (by simp) (by simp) ?_
  unfold W37
  simp only [okN, Bool.and_eq_true, decide_eq_true_eq] at hB hp
  have hin : inI (p - B) := by unfold inI; omega
  simp [anbA, hin]
  (repeat' first | intro _ | apply And.intro)
  all_goals first | omega | refine .pure (by simp) ?_
  all_goals (unfold hasP; (repeat' split) <;> first | omega | rfl | (simp; done) | (simp; omega) | (exfalso; omega))
/-- What In answers. -/
def inE (A B p : Int) : Int := if ckA A B = 0 then (if 1 ≤ p ∧ p ≤ 1000000000 then 0 else 2) else 8
def inB (A B p : Int) : Bool := if inE A B p = 0 then hasP A B p else false
omit [Laid] in
theorem ck_cases (A B : Int) : (ckA A B = 0 ∧ okN A = true ∧ okN B = true) ∨ (ckA A B = 8 ∧ (okN A && okN B) = false) := by
  unfold ckA
  cases hA : okN A <;> cases hB : okN B <;> simp
theorem con_in (A B p : Int) : Con Tryd.prog 7 [anbA A B, int p] (.tup [bool (inB A B p), int (inE A B p)]) := by
  refine (V7 _ _).gives (by simp) (by simp) ?_
  unfold W7
  simp [anbA]
  refine iCall_con (by kernel_rfl) (con_check A B) ?_
  rcases ck_cases A B with ⟨hc, hA, hB⟩ | ⟨hc, _⟩
  · rw [hc]
    simp
    (repeat' first | (with_reducible intro _) | (with_reducible apply And.intro))
    all_goals first
      | (refine iCall_con (by kernel_rfl) (con_has A B p hB (by simp [okN]; omega)) ?_
         exact .pure (by simp) (by simp [inE, inB, hc, show 1 ≤ p ∧ p ≤ 1000000000 by omega]))
      | exact .pure (by simp) (by simp [inE, inB, hc, show ¬ (1 ≤ p ∧ p ≤ 1000000000) by omega])
  · rw [hc]
    simp
    exact .pure (by simp) (by simp [inE, inB, hc])
def rowsOf (l : List Int) : List (List AV) := l.map fun n => [int n]
omit [Laid] in
theorem rowsOf_pure (l : List Int) : PureR (rowsOf l) := by
  induction l with
  | nil => simp [rowsOf]
  | cons n l ih => simp [rowsOf] at ih ⊢; exact ih
omit [Laid] in
theorem rowsOf_tl (f : AV → AV) (L : Nat) (h : Heap) (l : List Int) : tlR f L h (rowsOf l) = rowsOf l := by
  induction l with
  | nil => simp [rowsOf, tlR]
  | cons n l ih => simp [rowsOf, tlR, tlL, tlA] at ih ⊢; exact ih
omit [Laid] in
theorem rowsOf_bd (M : Nat) (l : List Int) : BdR M (rowsOf l) := by
  induction l with
  | nil => simp [rowsOf, BdR]
  | cons n l ih => simp [rowsOf, BdR, BdL, Bd] at ih ⊢; exact ih
omit [Laid] in
theorem rowsOf_len (l : List Int) : (rowsOf l).length = l.length := by simp [rowsOf]
end Go.Proofs.YtedaaincibcbkaaDoor
