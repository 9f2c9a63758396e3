/-
  Progressions: contracts of All, of the program and of the reference; the reference's In and Check.
  No conditions.
-/
import Derived.Test.YtedaaincibcbkaaDoorAnbIn
import Derived.Test.YtedaaincibcbkaaDoorMore
namespace Go.Proofs.YtedaaincibcbkaaDoor
open Go Go.Aw Go.AnbLaw
set_option maxRecDepth 100000
variable [Laid]
def hAll (A B : Int) (n : Nat) : Heap := [.blk ⟨23, [int A, int B], true⟩, .tok 3 1 n]
def allE (A B m : Int) : Int := if ckA A B = 0 then (if 0 ≤ m ∧ m ≤ 64 then 0 else 2) else 8
def allL (A B m : Int) : List Int := if allE A B m = 0 then places A B m.toNat else []
theorem con_all (A B m : Int) : Con Tryd.prog 9 [anbA A B, int m] (.tup [.sl 1 (rowsOf (allL A B m)), int (allE A B m)]) := by
  refine (V9 _ _).gives (by simp) (by simp [rowsOf_pure]) ?_
  unfold W9
  refine w_new (by simp [anbA]) ?_
  refine w_loadA rfl rfl (Nat.le_refl 2) ?_
  refine w_call rfl (by kernel_rfl) (con_check A B) ?_
  rcases ck_cases A B with ⟨hc, hA, hB⟩ | ⟨hc, _⟩
  rotate_left
  · rw [hc]
    refine w_neq true rfl rfl rfl ?_
    refine w_cond_t rfl ?_
    refine Gives.rle (s := .tup [.v (.slice none 0 0), int 8]) (.pure (by simp) rfl) ?_
    simp only [allE, allL, hc]
    exact RLe.tup2 (RLe.nil 1) (RLe.refl _)
  rw [hc]
  refine w_neq false rfl rfl rfl ?_
  refine w_cond_f rfl ?_
  have bad : ¬ (0 ≤ m ∧ m ≤ 64) → ∀ g, Gives (.tup [.sl 1 (rowsOf (allL A B m)), int (allE A B m)]) (.tup [.v (.slice none 0 0), int 2]) g := by
    intro hm g
    refine Gives.rle (s := .tup [.v (.slice none 0 0), int 2]) (.pure (by simp) rfl) ?_
    simp only [allE, allL, hc, hm]
    exact RLe.tup2 (RLe.nil 1) (RLe.refl _)
  by_cases h1 : m < 0
  · refine w_lss true rfl rfl (decide_eq_true h1) ?_
    refine w_let ?_
    refine w_guard_n rfl ?_
    refine w_and ?_
    refine w_pick_t rfl ?_
    refine w_cond_t rfl ?_
    exact bad (by omega) _
  refine w_lss false rfl rfl (decide_eq_false h1) ?_
  refine w_let ?_
  refine w_guard_y rfl ?_
  by_cases h2 : 64 < m
  · refine w_gtr true rfl rfl (decide_eq_true h2) ?_
    refine w_and ?_
    refine w_pick_f rfl ?_
    refine w_cond_t rfl ?_
    exact bad (by omega) _
  refine w_gtr false rfl rfl (decide_eq_false h2) ?_
  refine w_and ?_
  refine w_pick_f rfl ?_
  refine w_cond_f rfl ?_
  have hm : 0 ≤ m ∧ m ≤ 64 := by omega
  have e0 : allE A B m = 0 := by simp [allE, hc, hm]
  have e1 : allL A B m = places A B m.toNat := by simp [allL, e0]
  rw [e0, e1]
  refine iLoop_of (α := Nat) (fun n => (n : Int) ≤ m) (fun n => [.sb 1 1 (rowsOf (places A B n)), int n]) (fun n => hAll A B (places A B n).length) (fun n => m.toNat - n) 0 (by simpa using hm.1) ?_ ?_
  · have a := Wk.nil (n := 1) (s := [.v (.slice none 0 0), int 0]) (h := [.blk ⟨23, [int A, int B], true⟩]) (by simp) 0 rfl
    have b := Wk.tok (n := 1) (s := [.emp, int 0]) (h := [.blk ⟨23, [int A, int B], true⟩]) (by simp) 0 3 1 rfl
    exact a.trans b
  · intro n hn
    have hin : inI ((n : Int) + 1) := by unfold inI; omega
    rcases Int.lt_or_le (n : Int) m with q | q
    · refine w_lss true rfl rfl (decide_eq_true q) ?_
      refine w_cond_t rfl ?_
      refine w_let ?_
      refine w_loadA rfl rfl (Nat.le_refl 2) ?_
      refine w_add rfl rfl hin ?_
      refine w_call rfl (by kernel_rfl) (con_has A B ((n : Int) + 1) hB (by simp [okN]; omega)) ?_
      cases hh : hasP A B ((n : Int) + 1)
      · refine w_cond_f rfl ?_
        refine w_and ?_
        refine w_add rfl rfl hin ?_
        refine w_and ?_
        have e : places A B (n + 1) = places A B n := by rw [places, hh]; rfl
        exact ⟨n + 1, by omega, by rw [e]; exact Wk.refl _ _ _ (by simp [hAll]), by omega⟩
      · refine w_cond_t rfl ?_
        refine w_add rfl rfl hin ?_
        have hpl := places_length A B n
        have e : places A B (n + 1) = places A B n ++ [(n : Int) + 1] := by rw [places, hh]; rfl
        have hr : roomA 8 ((places A B n).length + 1) := by unfold roomA maxLen; omega
        simp [hAll, rowsOf, chunks, hr, hin]
        refine ⟨n + 1, by omega, ?_, by omega⟩
        have k := Wk.cutL (L := 1) (M := 2) (h := [.blk ⟨23, [int A, int B], true⟩, .tok 3 1 ((places A B n).length + 1), .blk ⟨3, [int ((n : Int) + 1)], true⟩]) (s := [.sb 1 1 (rowsOf (places A B (n + 1))), int ((n + 1 : Nat) : Int)]) (by omega) (by simp) (by simp [entB, BdL, Bd]) (by
          intro a ha
          simp at ha
          rcases ha with rfl | rfl
          · rw [Bd]
            exact ⟨by omega, rowsOf_bd _ _⟩
          · simp [Bd])
        rw [e] at k ⊢
        simpa [rowsOf] using k
    · obtain rfl : m = (n : Int) := by omega
      refine w_lss false rfl rfl (decide_eq_false (by omega)) ?_
      refine w_cond_f rfl ?_
      refine Gives.of ?_
      simp [tl, tlA, tlL]
      exact rowsOf_tl _ _ _ _

/-! ### The reference -/
theorem con_valid (A B : Int) : Con Tryd.prog 38 [anbA A B] (bool (okN A && okN B)) := by
  refine (V38 _).gives (by simp) (by simp) ?_
  unfold W38
  simp [anbA]
  (repeat' first | (with_reducible intro _) | (with_reducible apply And.intro))
  all_goals first | omega | (refine .pure (by simp) ?_; simp_all [okN]; done) | (refine .pure (by simp) ?_; simp [okN]; omega)
theorem con_rCheck (A B : Int) : Con Tryd.prog 14 [anbA A B] (int (ckA A B)) := by
  refine (V14 _).gives (by simp) (by simp) ?_
  unfold W14
  simp [anbA]
  refine iCall_con (by kernel_rfl) (con_valid A B) ?_
  cases hv : (okN A && okN B) <;> simp <;> exact .pure (by simp) (by simp [ckA, hv])
omit [Laid] in
theorem has_ref (A B p : Int) (hA : A ≠ 0) : hasP A B p = (decide ((p - B).tmod A = 0) && decide (0 ≤ (p - B).tdiv A)) := by
  rw [Bool.eq_iff_iff, hasP_iff]
  simp only [Bool.and_eq_true, decide_eq_true_eq, tmod_dvd]
  have key : A ∣ p - B → (0 ≤ (p - B).tdiv A ↔ (0 < A ∧ B ≤ p) ∨ (A < 0 ∧ p ≤ B)) := by
    rintro ⟨k, hk⟩
    rw [hk, Int.mul_tdiv_cancel_left _ hA]
    rcases Int.lt_or_gt_of_ne hA with h | h
    · constructor
      · intro h0
        have := Int.mul_nonpos_of_nonpos_of_nonneg (Int.le_of_lt h) h0
        exact .inr ⟨h, by omega⟩
      · rintro (⟨h1, _⟩ | ⟨_, h2⟩)
        · omega
        · rcases Int.lt_or_le k 0 with q | q
          · have := Int.mul_pos_of_neg_of_neg h q; omega
          · exact q
    · constructor
      · intro h0
        have := Int.mul_nonneg (Int.le_of_lt h) h0
        exact .inl ⟨h, by omega⟩
      · rintro (⟨_, h2⟩ | ⟨h1, _⟩)
        · rcases Int.lt_or_le k 0 with q | q
          · have := Int.mul_neg_of_pos_of_neg h q; omega
          · exact q
        · omega
  constructor
  · rintro (⟨h1, h2, h3⟩ | ⟨h1, h2, h3⟩ | ⟨h1, _⟩)
    · exact ⟨h3, (key h3).2 (.inl ⟨h1, h2⟩)⟩
    · exact ⟨h3, (key h3).2 (.inr ⟨h1, h2⟩)⟩
    · exact absurd h1 hA
  · rintro ⟨h3, h4⟩
    rcases (key h3).1 h4 with ⟨h1, h2⟩ | ⟨h1, h2⟩
    · exact .inl ⟨h1, h2, h3⟩
    · exact .inr (.inl ⟨h1, h2, h3⟩)
theorem con_rHas (A B p : Int) (hA : okN A = true) (hB : okN B = true) (hp : okN p = true) : Con Tryd.prog 39 [anbA A B, int p] (bool (hasP A B p)) := by
  refine (V39 _ _).gives (by simp) (by simp) ?_
  unfold W39
  simp only [okN, Bool.and_eq_true, decide_eq_true_eq] at hA hB hp
  have hin : inI (p - B) := by unfold inI; omega
  have hwr : IntKind.i64.wrap ((p - B).tdiv A) = (p - B).tdiv A := by
    have h1 := Int.natAbs_tdiv_le_natAbs (p - B) A
    have : -9223372036854775808 ≤ (p - B).tdiv A ∧ (p - B).tdiv A < 9223372036854775808 := by omega
    rw [IntKind.wrap_i64]
    omega
  by_cases h0 : A = 0
  · subst h0
    simp [anbA, hin]
    refine .pure (by simp) ?_
    simp [hasP]
  · simp [anbA, hin, h0, hwr]
    (repeat' first | (with_reducible intro _) | (with_reducible apply And.intro))
    all_goals refine .pure (by simp) ?_
    all_goals (rw [has_ref A B p h0]; simp_all)
theorem con_rIn (A B p : Int) : Con Tryd.prog 8 [anbA A B, int p] (.tup [bool (inB A B p), int (inE A B p)]) := by
  refine (V8 _ _).gives (by simp) (by simp) ?_
  unfold W8
  simp [anbA]
  refine iCall_con (by kernel_rfl) (con_valid A B) ?_
  rcases ck_cases A B with ⟨hc, hA, hB⟩ | ⟨hc, hv⟩
  · simp [hA, hB]
    (repeat' first | (with_reducible intro _) | (with_reducible apply And.intro))
    all_goals first
      | (refine iCall_con (by kernel_rfl) (con_rHas A B p hA hB (by simp [okN]; omega)) ?_
         exact .pure (by simp) (by simp [inE, inB, hc, show 1 ≤ p ∧ p ≤ 1000000000 by omega]))
      | exact .pure (by simp) (by simp [inE, inB, hc, show ¬ (1 ≤ p ∧ p ≤ 1000000000) by omega])
  · rw [hv]
    simp
    exact .pure (by simp) (by simp [inE, inB, hc])
theorem con_rAll (A B m : Int) : Con Tryd.prog 10 [anbA A B, int m] (.tup [.sl 1 (rowsOf (allL A B m)), int (allE A B m)]) := by
  refine (V10 _ _).gives (by simp) (by simp [rowsOf_pure]) ?_
  unfold W10
  refine w_new (by simp [anbA]) ?_
  refine w_loadA rfl rfl (Nat.le_refl 2) ?_
  refine w_call rfl (by kernel_rfl) (con_valid A B) ?_
  rcases ck_cases A B with ⟨hc, hA, hB⟩ | ⟨hc, hv⟩
  rotate_left
  · rw [hv]
    refine w_not_f rfl ?_
    refine w_cond_t rfl ?_
    refine Gives.rle (s := .tup [.v (.slice none 0 0), int 8]) (.pure (by simp) rfl) ?_
    simp only [allE, allL, hc]
    exact RLe.tup2 (RLe.nil 1) (RLe.refl _)
  rw [hA, hB]
  refine w_not_t rfl ?_
  refine w_cond_f rfl ?_
  have bad : ¬ (0 ≤ m ∧ m ≤ 64) → ∀ g, Gives (.tup [.sl 1 (rowsOf (allL A B m)), int (allE A B m)]) (.tup [.v (.slice none 0 0), int 2]) g := by
    intro hm g
    refine Gives.rle (s := .tup [.v (.slice none 0 0), int 2]) (.pure (by simp) rfl) ?_
    simp only [allE, allL, hc, hm]
    exact RLe.tup2 (RLe.nil 1) (RLe.refl _)
  by_cases h1 : m < 0
  · refine w_lss true rfl rfl (decide_eq_true h1) ?_
    refine w_let ?_
    refine w_guard_n rfl ?_
    refine w_and ?_
    refine w_pick_t rfl ?_
    refine w_cond_t rfl ?_
    exact bad (by omega) _
  refine w_lss false rfl rfl (decide_eq_false h1) ?_
  refine w_let ?_
  refine w_guard_y rfl ?_
  by_cases h2 : 64 < m
  · refine w_gtr true rfl rfl (decide_eq_true h2) ?_
    refine w_and ?_
    refine w_pick_f rfl ?_
    refine w_cond_t rfl ?_
    exact bad (by omega) _
  refine w_gtr false rfl rfl (decide_eq_false h2) ?_
  refine w_and ?_
  refine w_pick_f rfl ?_
  refine w_cond_f rfl ?_
  have hm : 0 ≤ m ∧ m ≤ 64 := by omega
  have e0 : allE A B m = 0 := by simp [allE, hc, hm]
  have e1 : allL A B m = places A B m.toNat := by simp [allL, e0]
  rw [e0, e1]
  refine iLoop_of (α := Nat) (fun n => (n : Int) ≤ m) (fun n => [.sb 1 1 (rowsOf (places A B n)), int ((n + 1 : Nat) : Int)]) (fun n => hAll A B (places A B n).length) (fun n => m.toNat - n) 0 (by simpa using hm.1) ?_ ?_
  · have a := Wk.nil (n := 1) (s := [.v (.slice none 0 0), int 1]) (h := [.blk ⟨23, [int A, int B], true⟩]) (by simp) 0 rfl
    have b := Wk.tok (n := 1) (s := [.emp, int 1]) (h := [.blk ⟨23, [int A, int B], true⟩]) (by simp) 0 3 1 rfl
    exact a.trans b
  · intro n hn
    have hin : inI (((n + 1 : Nat) : Int) + 1) := by unfold inI; omega
    rcases Int.lt_or_le (n : Int) m with q | q
    · refine w_leq true rfl rfl (decide_eq_true (by omega)) ?_
      refine w_cond_t rfl ?_
      refine w_let ?_
      refine w_loadA rfl rfl (Nat.le_refl 2) ?_
      refine w_call rfl (by kernel_rfl) (con_rHas A B ((n + 1 : Nat) : Int) hA hB (by simp [okN]; omega)) ?_
      cases hh : hasP A B ((n + 1 : Nat) : Int)
      · refine w_cond_f rfl ?_
        refine w_and ?_
        refine w_add rfl rfl hin ?_
        refine w_and ?_
        have e : places A B (n + 1) = places A B n := by rw [places, show (n : Int) + 1 = ((n + 1 : Nat) : Int) by omega, hh]; rfl
        exact ⟨n + 1, by omega, by rw [e]; exact Wk.refl _ _ _ (by simp [hAll]), by omega⟩
      · refine w_cond_t rfl ?_
        have hpl := places_length A B n
        have e : places A B (n + 1) = places A B n ++ [(n : Int) + 1] := by rw [places, show (n : Int) + 1 = ((n + 1 : Nat) : Int) by omega, hh]; rfl
        have hr : roomA 8 ((places A B n).length + 1) := by unfold roomA maxLen; omega
        have hin' : inI ((n : Int) + 1 + 1) := by unfold inI; omega
        simp [hAll, rowsOf, chunks, hr, hin']
        refine ⟨n + 1, by omega, ?_, by omega⟩
        have k := Wk.cutL (L := 1) (M := 2) (h := [.blk ⟨23, [int A, int B], true⟩, .tok 3 1 ((places A B n).length + 1), .blk ⟨3, [int ((n : Int) + 1)], true⟩]) (s := [.sb 1 1 (rowsOf (places A B (n + 1))), int ((n + 1 + 1 : Nat) : Int)]) (by omega) (by simp) (by simp [entB, BdL, Bd]) (by
          intro a ha
          simp at ha
          rcases ha with rfl | rfl
          · rw [Bd]
            exact ⟨by omega, rowsOf_bd _ _⟩
          · simp [Bd])
        rw [e] at k ⊢
        simpa [rowsOf] using k
    · obtain rfl : m = (n : Int) := by omega
      refine w_leq false rfl rfl (decide_eq_false (by omega)) ?_
      refine w_cond_f rfl ?_
      refine Gives.of ?_
      simp [tl, tlA, tlL]
      exact rowsOf_tl _ _ _ _
end Go.Proofs.YtedaaincibcbkaaDoor
