/-
  Progressions: what being in one comes to. Plain laws on whole numbers.
  No conditions: lemmas.
-/
namespace Go.AnbLaw
def hasP (A B p : Int) : Bool := if 0 < A then decide (0 ≤ p - B) && decide ((p - B).tmod A = 0) else if A < 0 then decide (p - B ≤ 0) && decide ((p - B).tmod A = 0) else decide (p - B = 0)
theorem tmod_dvd (a b : Int) : a.tmod b = 0 ↔ b ∣ a := Int.dvd_iff_tmod_eq_zero.symm
theorem hasP_iff (A B p : Int) : hasP A B p = true ↔ (0 < A ∧ B ≤ p ∧ A ∣ p - B) ∨ (A < 0 ∧ p ≤ B ∧ A ∣ p - B) ∨ (A = 0 ∧ p = B) := by
  unfold hasP
  split
  · rename_i h
    simp only [Bool.and_eq_true, decide_eq_true_eq, tmod_dvd]
    constructor
    · rintro ⟨h1, h2⟩; exact .inl ⟨h, by omega, h2⟩
    · rintro (⟨_, h1, h2⟩ | ⟨h1, _⟩ | ⟨h1, _⟩)
      · exact ⟨by omega, h2⟩
      · omega
      · omega
  · split
    · rename_i h0 h
      simp only [Bool.and_eq_true, decide_eq_true_eq, tmod_dvd]
      constructor
      · rintro ⟨h1, h2⟩; exact .inr (.inl ⟨h, by omega, h2⟩)
      · rintro (⟨h1, _⟩ | ⟨_, h1, h2⟩ | ⟨h1, _⟩)
        · omega
        · exact ⟨by omega, h2⟩
        · omega
    · rename_i h0 h1
      simp only [decide_eq_true_eq]
      constructor
      · intro h; exact .inr (.inr ⟨by omega, by omega⟩)
      · rintro (⟨h, _⟩ | ⟨h, _⟩ | ⟨_, h⟩) <;> omega
def sumTo (A B p : Int) : Nat → Bool
  | 0 => false
  | n + 1 => sumTo A B p n || decide (A * (n : Int) + B = p)
theorem sumTo_iff (A B p : Int) : ∀ n : Nat, sumTo A B p n = true ↔ ∃ m : Nat, m < n ∧ A * (m : Int) + B = p
  | 0 => by simp [sumTo]
  | n + 1 => by
    rw [sumTo, Bool.or_eq_true, sumTo_iff A B p n, decide_eq_true_eq]
    constructor
    · rintro (⟨m, h1, h2⟩ | h)
      · exact ⟨m, by omega, h2⟩
      · exact ⟨n, by omega, h⟩
    · rintro ⟨m, h1, h2⟩
      rcases Nat.lt_or_ge m n with q | q
      · exact .inl ⟨m, q, h2⟩
      · obtain rfl : m = n := by omega
        exact .inr h2
theorem sum_law (A B p : Int) (hB1 : -200 ≤ B) (hB2 : B ≤ 200) (hp1 : 1 ≤ p) (hp2 : p ≤ 200) : hasP A B p = sumTo A B p 401 := by
  rw [Bool.eq_iff_iff, hasP_iff, sumTo_iff]
  constructor
  · rintro (⟨hA, h1, k, hk⟩ | ⟨hA, h1, k, hk⟩ | ⟨rfl, rfl⟩)
    · have k0 : 0 ≤ k := by
        rcases Int.lt_or_le k 0 with q | q
        · have := Int.mul_neg_of_pos_of_neg hA q; omega
        · exact q
      have k1 : k ≤ A * k := by have := Int.mul_le_mul_of_nonneg_right (show 1 ≤ A by omega) k0; omega
      exact ⟨k.toNat, by omega, by rw [Int.toNat_of_nonneg k0]; omega⟩
    · have k0 : 0 ≤ k := by
        rcases Int.lt_or_le k 0 with q | q
        · have := Int.mul_pos_of_neg_of_neg hA q; omega
        · exact q
      have k1 : k ≤ (-A) * k := by have := Int.mul_le_mul_of_nonneg_right (show 1 ≤ -A by omega) k0; omega
      rw [Int.neg_mul] at k1
      exact ⟨k.toNat, by omega, by rw [Int.toNat_of_nonneg k0]; omega⟩
    · exact ⟨0, by omega, by simp⟩
  · rintro ⟨m, hm, he⟩
    have m0 : (0 : Int) ≤ (m : Int) := by omega
    rcases Int.lt_trichotomy A 0 with hA | hA | hA
    · refine .inr (.inl ⟨hA, ?_, (m : Int), by omega⟩)
      have := Int.mul_nonpos_of_nonpos_of_nonneg (Int.le_of_lt hA) m0
      omega
    · subst hA; refine .inr (.inr ⟨rfl, ?_⟩); simp at he; omega
    · refine .inl ⟨hA, ?_, (m : Int), by omega⟩
      have := Int.mul_nonneg (Int.le_of_lt hA) m0
      omega
theorem step_at {A B p : Int} (h : hasP A B p = true) : ¬ ((A = 0 ∧ p ≠ B) ∨ (A < 0 ∧ B < p) ∨ (0 < A ∧ p < B)) := by
  rw [hasP_iff] at h
  rintro (⟨h1, h2⟩ | ⟨h1, h2⟩ | ⟨h1, h2⟩) <;> rcases h with ⟨q1, q2, _⟩ | ⟨q1, q2, _⟩ | ⟨q1, q2⟩ <;> omega
theorem step_first (A B : Int) : hasP A B B = true := by
  rw [hasP_iff]
  rcases Int.lt_trichotomy A 0 with h | h | h
  · exact .inr (.inl ⟨h, Int.le_refl _, 0, by simp⟩)
  · exact .inr (.inr ⟨h, rfl⟩)
  · exact .inl ⟨h, Int.le_refl _, 0, by simp⟩
theorem step_next {A B p : Int} (h : hasP A B p = true) : hasP A B (p + A) = true := by
  rw [hasP_iff] at h ⊢
  rcases h with ⟨h1, h2, k, hk⟩ | ⟨h1, h2, k, hk⟩ | ⟨h1, h2⟩
  · exact .inl ⟨h1, by omega, k + 1, by rw [Int.mul_add]; omega⟩
  · exact .inr (.inl ⟨h1, by omega, k + 1, by rw [Int.mul_add]; omega⟩)
  · exact .inr (.inr ⟨h1, by omega⟩)
/-- The places up to so many. -/
def places (A B : Int) : Nat → List Int
  | 0 => []
  | n + 1 => if hasP A B ((n : Int) + 1) then places A B n ++ [(n : Int) + 1] else places A B n
theorem places_length (A B : Int) : ∀ n, (places A B n).length ≤ n
  | 0 => Nat.le_refl _
  | n + 1 => by
    have := places_length A B n
    unfold places
    split
    · simp; exact this
    · omega
theorem places_pre (A B : Int) {n m : Nat} (h : n ≤ m) : ∃ r, places A B m = places A B n ++ r := by
  induction m with
  | zero => obtain rfl : n = 0 := by omega
            exact ⟨[], by simp⟩
  | succ m ih =>
    rcases Nat.lt_or_ge m n with q | q
    · obtain rfl : n = m + 1 := by omega
      exact ⟨[], by simp⟩
    · obtain ⟨r, hr⟩ := ih q
      have e : places A B (m + 1) = if hasP A B ((m : Int) + 1) then places A B m ++ [(m : Int) + 1] else places A B m := rfl
      rw [e, hr]
      split
      · exact ⟨r ++ [(m : Int) + 1], by simp⟩
      · exact ⟨r, rfl⟩
/-- The next place stands where it should. -/
theorem places_at (A B : Int) {n m : Nat} (h : n < m) (hp : hasP A B ((n : Int) + 1) = true) : (places A B m)[(places A B n).length]? = some ((n : Int) + 1) := by
  obtain ⟨r, hr⟩ := places_pre A B (show n + 1 ≤ m by omega)
  rw [hr]
  have e : places A B (n + 1) = places A B n ++ [(n : Int) + 1] := by rw [places, if_pos hp]
  rw [e]
  simp
end Go.AnbLaw
