/-
  Progressions: contracts of the code; the law of the sum.
  No conditions.
-/
import Derived.Test.YtedaaincibcbkaaGreatDoorWAnb
import Derived.Test.YtedaaincibcbkaaGreatDoorLaw
import Derived.Test.YtedaaincibcbkaaGreatDoorUse
namespace Go.Proofs.YtedaaincibcbkaaGreatDoor
open Go Go.Aw Go.AnbLaw
set_option maxRecDepth 100000
variable [Laid]
def anbA (A B : Int) : AV := .agg [int A, int B]
omit [Laid] in
@[simp] theorem anbA_pure (A B : Int) : Aw.Pure (anbA A B) := by simp [anbA]
def okN (n : Int) : Bool := decide (-1000000000 ≤ n) && decide (n ≤ 1000000000)
theorem con44 (n : Int) : Con Tryz.prog 44 [int n] (bool (okN n)) := by
  refine (V44 _).gives (by simp) (by simp) ?_
  unfold W44
  by_cases h1 : -1000000000 ≤ n
  · simp [h1]
    exact .pure (by simp) (by simp [okN, h1])
  · simp [h1]
    exact .pure (by simp) (by simp [okN, h1])
def ckA (A B : Int) : Int := if okN A && okN B then 0 else 8
theorem con25 (A B : Int) : Con Tryz.prog 25 [anbA A B] (int (ckA A B)) := by
  refine (V25 _).gives (by simp) (by simp) ?_
  unfold W25
  simp [anbA]
  refine iCall_con (by kernel_rfl) (con44 A) ?_
  cases hA : okN A
  · simp
    exact .pure (by simp) (by simp [ckA, hA])
  · simp
    refine iCall_con (by kernel_rfl) (con44 B) ?_
    cases hB : okN B <;> simp <;> exact .pure (by simp) (by simp [ckA, hA, hB])
theorem con43 (A B p : Int) (hB : okN B = true) (hp : okN p = true) : Con Tryz.prog 43 [anbA A B, int p] (bool (hasP A B p)) := by
  refine (V43 _ _).gives (by simp) (by simp) ?_
  unfold W43
  simp only [okN, Bool.and_eq_true, decide_eq_true_eq] at hB hp
  have hin : inI (p - B) := by unfold inI; omega
  simp [anbA, hin]
  (repeat' first | intro _ | apply And.intro)
  all_goals first | omega | refine .pure (by simp) ?_
  all_goals (unfold hasP; (repeat' split) <;> first | omega | rfl | (simp; done) | (simp; omega) | (exfalso; omega))
theorem con23 (A B p : Int) (hA : okN A = true) (hB : okN B = true) (h1 : 1 ≤ p) (h2 : p ≤ 1000000000) : Con Tryz.prog 23 [anbA A B, int p] (.tup [bool (hasP A B p), int 0]) := by
  refine (V23 _ _).gives (by simp) (by simp) ?_
  unfold W23
  have hc : ckA A B = 0 := by simp [ckA, hA, hB]
  simp [anbA]
  refine iCall_con (by kernel_rfl) (con25 A B) ?_
  rw [hc]
  simp
  refine ⟨fun _ => ⟨fun _ => by exfalso; omega, fun _ => ?_⟩, fun _ => by exfalso; omega⟩
  refine iCall_con (by kernel_rfl) (con43 A B p hB (by simp [okN]; omega)) ?_
  exact .pure (by simp) rfl
theorem con16 (A B : Int) : Con Tryz.prog 16 [anbA A B] (bool (okN A && okN B)) := by
  refine (V16 _).gives (by simp) (by simp) ?_
  unfold W16
  simp [anbA]
  (repeat' first | intro _ | apply And.intro)
  all_goals first | omega | (refine .pure (by simp) ?_; simp_all [okN]; done) | (refine .pure (by simp) ?_; simp [okN]; omega)

/-- What the sum says: in range, by the sum; else the examples alone. -/
theorem con6 (h17 : Con Tryz.prog 17 [] (bool true)) (A B p : Int) : Con Tryz.prog 6 [anbA A B, int p] (bool true) := by
  refine (V6 _ _).gives (by simp) (by simp) ?_
  unfold W6
  have alive : ∀ {h : Heap} {K : AV → Heap → Prop}, K (bool true) h → iCall Tryz.prog (.fn (.func 17) [] []) [] h K := fun k => iCall_con (by kernel_rfl) h17 k
  have fin : ∀ {h : Heap}, Gives (bool true) (bool true) h := .pure (by simp) rfl
  by_cases hr : -200 ≤ A ∧ A ≤ 200 ∧ -200 ≤ B ∧ B ≤ 200 ∧ 1 ≤ p ∧ p ≤ 200
  · obtain ⟨h1, h2, h3, h4, h5, h6⟩ := hr
    have n1 : ¬ A < -200 := by omega
    have n2 : ¬ 200 < A := by omega
    have n3 : ¬ B < -200 := by omega
    have n4 : ¬ 200 < B := by omega
    have n5 : ¬ p < 1 := by omega
    have n6 : ¬ 200 < p := by omega
    simp only [anbA, iNew_r, vcells, iFad_o, iLoad_o, iBin_ii]
    simp [n1, n2, n3, n4, n5, n6]
    refine iLoop_of (α := Nat) (fun n => n ≤ 401) (fun n => [bool (sumTo A B p n), int n]) (fun _ => [.blk ⟨36, [int A, int B], true⟩]) (fun n => 401 - n) 0 (by omega) (Wk.refl _ _ _ (by simp)) ?_
    intro n hn
    rcases Nat.lt_or_ge n 401 with q | q
    · have i1 : -90000 ≤ A * (n : Int) ∧ A * (n : Int) ≤ 90000 := by
        have := Int.mul_le_mul_of_nonneg_right h1 (show (0 : Int) ≤ (n : Int) by omega)
        have := Int.mul_le_mul_of_nonneg_right h2 (show (0 : Int) ≤ (n : Int) by omega)
        omega
      have j1 : inI (A * (n : Int)) := by unfold inI; omega
      have j2 : inI (A * (n : Int) + B) := by unfold inI; omega
      have j3 : inI ((n : Int) + 1) := by unfold inI; omega
      have hle : (n : Int) ≤ 400 := by omega
      cases hs : sumTo A B p n
      · simp [hle, j1, j2, j3]
        exact ⟨n + 1, by omega, by
          have e : sumTo A B p (n + 1) = decide (A * (n : Int) + B = p) := by simp [sumTo, hs]
          rw [e]
          simpa using Wk.refl _ _ _ (by simp), by omega⟩
      · simp [hle, j1, j2, j3]
        exact ⟨n + 1, by omega, by
          have e : sumTo A B p (n + 1) = true := by simp [sumTo, hs]
          rw [e]
          simpa using Wk.refl _ _ _ (by simp), by omega⟩
    · obtain rfl : n = 401 := by omega
      simp
      refine iCall_con (by kernel_rfl) (con23 A B p (by simp [okN]; omega) (by simp [okN]; omega) h5 (by omega)) ?_
      simp [← sum_law A B p h3 h4 h5 h6]
      exact alive fin
  · simp [anbA]
    (repeat' first | exact alive fin | refine And.intro ?_ ?_ | refine fun (_ : _ < _) => ?_ | refine fun (_ : _ ≤ _) => ?_)
    all_goals (exfalso; omega)

end Go.Proofs.YtedaaincibcbkaaGreatDoor
