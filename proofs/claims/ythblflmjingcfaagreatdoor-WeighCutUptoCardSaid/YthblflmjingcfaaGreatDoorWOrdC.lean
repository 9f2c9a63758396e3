/-
  Weights: valid, compared, added; what the functions hand back.
  No conditions: contracts.
-/
import Derived.Test.YthblflmjingcfaaGreatDoorWOrd
import Derived.Test.YthblflmjingcfaaGreatDoorL5
set_option linter.unusedVariables false
set_option linter.unusedSimpArgs false
namespace Go.Proofs.YthblflmjingcfaaGreatDoor
open Go Go.Aw
set_option maxRecDepth 100000
abbrev Wt3 := Int × Int × Int
def w3 (a : Wt3) : AV := .agg [int a.1, int a.2.1, int a.2.2]
@[simp] theorem w3_pure (a : Wt3) : Aw.Pure (w3 a) := by simp [w3]
@[simp] theorem w3_flat (a : Wt3) : Flat (w3 a) := by simp [w3]
def okI (n : Int) : Bool := decide (0 ≤ n ∧ n ≤ 4000)
def okW (a : Wt3) : Bool := okI a.1 && okI a.2.1 && okI a.2.2
def inW (a : Wt3) : Prop := inI a.1 ∧ inI a.2.1 ∧ inI a.2.2
def addW (a b : Wt3) : Wt3 := (a.1 + b.1, a.2.1 + b.2.1, a.2.2 + b.2.2)
variable [Laid]
def minI (m n : Int) : Int := if n < m then n else m
def maxI (m n : Int) : Int := if m < n then n else m
def i3 (x y z : Int) : AV := .sl 1 [[int x], [int y], [int z]]
omit [Laid] in
@[simp] theorem i3_pure (x y z : Int) : Aw.Pure (i3 x y z) := by simp [i3]
theorem con_min (x y z : Int) : Con Tryz.prog 46 [i3 x y z] (int (minI (minI x y) z)) := by
  refine (V46 _).gives (by simp) (by simp) ?_
  unfold W46
  simp [i3]
  intro _
  refine iLoop_of (α := Nat) (fun k => 1 ≤ k ∧ k ≤ 3) (fun k => [int (if k = 1 then x else if k = 2 then minI x y else minI (minI x y) z), int k]) (fun _ => []) (fun k => 3 - k) 1 (by simp) (Wk.refl _ _ _ (by simp)) ?_
  rintro k ⟨h1, hk⟩
  obtain rfl | rfl | rfl : k = 1 ∨ k = 2 ∨ k = 3 := by omega
  all_goals simp
  · exact fun _ => ⟨by simp [inI], 2, by omega, Wk.le (by simp) (by simp [minI]), by omega⟩
  · exact fun _ => ⟨by simp [inI], 3, by omega, Wk.le (by simp) (by simp [minI]), by omega⟩
  · exact fun _ => .pure (by simp) rfl
theorem con_max (x y z : Int) : Con Tryz.prog 47 [i3 x y z] (int (maxI (maxI x y) z)) := by
  refine (V47 _).gives (by simp) (by simp) ?_
  unfold W47
  simp [i3]
  intro _
  refine iLoop_of (α := Nat) (fun k => 1 ≤ k ∧ k ≤ 3) (fun k => [int (if k = 1 then x else if k = 2 then maxI x y else maxI (maxI x y) z), int k]) (fun _ => []) (fun k => 3 - k) 1 (by simp) (Wk.refl _ _ _ (by simp)) ?_
  rintro k ⟨h1, hk⟩
  obtain rfl | rfl | rfl : k = 1 ∨ k = 2 ∨ k = 3 := by omega
  all_goals simp
  · exact fun _ => ⟨by simp [inI], 2, by omega, Wk.le (by simp) (by simp [maxI]), by omega⟩
  · exact fun _ => ⟨by simp [inI], 3, by omega, Wk.le (by simp) (by simp [maxI]), by omega⟩
  · exact fun _ => .pure (by simp) rfl
theorem con_nan (n : Int) : Con Tryz.prog 121 [int n] (bool false) := by
  refine (V121 _).gives (by simp) (by simp) ?_
  unfold W121
  simp
  exact .pure (by simp) rfl
def cmpI (a b : Int) : Int := if a < b then -1 else if b < a then 1 else 0
theorem con_cmp (a b : Int) : Con Tryz.prog 93 [int a, int b] (int (cmpI a b)) := by
  refine (V93 _ _).gives (by simp) (by simp) ?_
  unfold W93
  refine iCall_con (by kernel_rfl) (con_nan a) (iCall_con (by kernel_rfl) (con_nan b) ?_)
  simp
  exact ⟨fun h => .pure (by simp) (by unfold cmpI; rw [if_pos h]), fun h => ⟨fun h2 => .pure (by simp) (by unfold cmpI; rw [if_neg (by omega), if_pos h2]), fun h2 => .pure (by simp) (by unfold cmpI; rw [if_neg (by omega), if_neg (by omega)])⟩⟩
/-- -1, 0 or 1. -/
def ordW (a b : Wt3) : Int := if cmpI a.1 b.1 ≠ 0 then cmpI a.1 b.1 else if cmpI a.2.1 b.2.1 ≠ 0 then cmpI a.2.1 b.2.1 else cmpI a.2.2 b.2.2
theorem con_lex (a b : Wt3) : Con Tryz.prog 67 [i3 a.1 a.2.1 a.2.2, i3 b.1 b.2.1 b.2.2] (int (ordW a b)) := by
  refine (V67 _ _).gives (by simp) (by simp) ?_
  unfold W67
  simp [i3]
  intro _
  refine iLoop_of (α := Nat) (fun k => k ≤ 3 ∧ (0 < k → cmpI a.1 b.1 = 0) ∧ (1 < k → cmpI a.2.1 b.2.1 = 0) ∧ (2 < k → cmpI a.2.2 b.2.2 = 0)) (fun k => [int k]) (fun _ => []) (fun k => 3 - k) 0 (by simp) (Wk.refl _ _ _ (by simp)) ?_
  rintro k ⟨hk, h0, h1, h2⟩
  obtain rfl | rfl | rfl | rfl : k = 0 ∨ k = 1 ∨ k = 2 ∨ k = 3 := by omega
  all_goals simp
  · intro _
    refine iCall_con (by kernel_rfl) (con_cmp _ _) ?_
    simp
    exact ⟨fun h => .pure (by simp) (by simp [ordW, h]), fun h => ⟨by simp [inI], 1, ⟨by omega, fun _ => h, by omega, by omega⟩, Wk.refl _ _ _ (by simp), by omega⟩⟩
  · intro _
    have h0 := h0 (by omega)
    refine iCall_con (by kernel_rfl) (con_cmp _ _) ?_
    simp
    exact ⟨fun h => .pure (by simp) (by simp [ordW, h0, h]), fun h => ⟨by simp [inI], 2, ⟨by omega, fun _ => h0, fun _ => h, by omega⟩, Wk.refl _ _ _ (by simp), by omega⟩⟩
  · intro _
    have h0 := h0 (by omega)
    have h1 := h1 (by omega)
    refine iCall_con (by kernel_rfl) (con_cmp _ _) ?_
    simp
    exact ⟨fun h => .pure (by simp) (by simp [ordW, h0, h1]), fun h => ⟨by simp [inI], 3, ⟨by omega, fun _ => h0, fun _ => h1, fun _ => h⟩, Wk.refl _ _ _ (by simp), by omega⟩⟩
  · have h0 := h0 (by omega)
    have h1 := h1 (by omega)
    have h2 := h2 (by omega)
    exact fun _ => .pure (by simp) (by simp [ordW, h0, h1, h2])
theorem con_fine (a : Wt3) : Con Tryz.prog 29 [w3 a] (bool (okW a)) := by
  refine (V29 _).gives (by simp) (by simp) ?_
  unfold W29
  simp [w3, maxLen]
  refine iCall_borrow (by kernel_rfl) (con_min a.1 a.2.1 a.2.2) (by simp [i3, tl, tlA, chunks]) (by simp) ?_
  simp
  refine ⟨fun p => ?_, fun p => ?_⟩
  · refine iCall_borrow (by kernel_rfl) (con_max a.1 a.2.1 a.2.2) (by simp [i3, tl, tlA, chunks]) (by simp) ?_
    simp
    refine .pure (by simp) ?_
    simp only [minI] at p
    have : okW a = decide (maxI (maxI a.1 a.2.1) a.2.2 ≤ 4000) := by
      rw [Bool.eq_iff_iff, decide_eq_true_eq]
      simp only [okW, okI, Bool.and_eq_true, decide_eq_true_eq, maxI]
      constructor
      · intro h; split <;> split <;> omega
      · intro h; (repeat' split at p) <;> (repeat' split at h) <;> omega
    simp [this]
  · refine .pure (by simp) ?_
    have e : okW a = false := by
      rw [Bool.eq_false_iff]
      simp only [okW, okI, ne_eq, Bool.and_eq_true, decide_eq_true_eq]
      simp only [minI] at p
      intro h
      (repeat' split at p) <;> omega
    simp [e]
theorem con_compare (a b : Wt3) : Con Tryz.prog 49 [w3 a, w3 b] (int (ordW a b)) := by
  refine (V49 _ _).gives (by simp) (by simp) ?_
  unfold W49
  simp [w3, maxLen]
  refine ⟨_, iCall_borrow (by kernel_rfl) (con_lex a b) (by simp [i3, tl, tlA, chunks]) (by simp) ⟨rfl, rfl⟩, ?_⟩
  exact .pure (by simp) rfl
/-- weigh.add, the sum written over the first weight. -/
theorem con_addTo (a b : Wt3) (hin : inW (addW a b)) {K : AV → Heap → Prop} (k : K (.tup []) [.blk ⟨44, [int (a.1 + b.1), int (a.2.1 + b.2.1), int (a.2.2 + b.2.2)], true⟩, .blk ⟨44, [int b.1, int b.2.1, int b.2.2], true⟩, .blk ⟨44, [int 0, int 0, int 0], true⟩]) :
    iCall Tryz.prog (.fn (.func 30) [] []) [.op 0 0, w3 b] [.blk ⟨44, [int a.1, int a.2.1, int a.2.2], true⟩, .blk ⟨44, [int b.1, int b.2.1, int b.2.2], true⟩, .blk ⟨44, [int 0, int 0, int 0], true⟩] K := by
  refine ⟨by kernel_rfl, ?_⟩
  simp only [List.nil_append, List.append_nil]
  refine (V30 _ _).acall ?_
  unfold W30
  obtain ⟨h0, h1, h2⟩ := hin
  simp only [addW] at h0 h1 h2
  simp [w3]
  refine iLoop_of (α := Nat) (fun k => k ≤ 3) (fun k => [int k]) (fun k => [.blk ⟨44, [int (if 0 < k then a.1 + b.1 else a.1), int (if 1 < k then a.2.1 + b.2.1 else a.2.1), int (if 2 < k then a.2.2 + b.2.2 else a.2.2)], true⟩, .blk ⟨44, [int b.1, int b.2.1, int b.2.2], true⟩, .blk ⟨44, [int 0, int 0, int 0], true⟩, .blk ⟨44, [int b.1, int b.2.1, int b.2.2], true⟩]) (fun k => 3 - k) 0 (by simp) (Wk.refl _ _ _ (by simp)) ?_
  rintro j hk
  obtain rfl | rfl | rfl | rfl : j = 0 ∨ j = 1 ∨ j = 2 ∨ j = 3 := by omega
  all_goals simp
  · exact ⟨h0, by simp [inI], 1, by omega, Wk.refl _ _ _ (by simp), by omega⟩
  · exact ⟨h1, by simp [inI], 2, by omega, Wk.refl _ _ _ (by simp), by omega⟩
  · exact ⟨h2, by simp [inI], 3, by omega, Wk.refl _ _ _ (by simp), by omega⟩
  · exact ⟨_, _, Wk.tell (n := 3) (by simp), by simpa [tl, tlA, tlL, tlH, tlE] using k⟩
def cmpV (a b : Wt3) : Int := if okW a && okW b then ordW a b else 0
def cmpE (a b : Wt3) : Int := if okW a && okW b then 0 else 8
def cmpW (a b : Wt3) : AV := .tup [int (cmpV a b), int (cmpE a b)]
omit [Laid] in
theorem okW_in (a b : Wt3) (ha : okW a = true) (hb : okW b = true) : inW (addW a b) := by
  simp only [okW, okI, Bool.and_eq_true, decide_eq_true_eq] at ha hb
  simp only [inW, addW, inI]
  omega
def sumOk (a b : Wt3) : Bool := okW a && okW b && okW (addW a b)
def sumW (a b : Wt3) : AV := if sumOk a b then .tup [w3 (addW a b), int 0] else .tup [w3 (0, 0, 0), int 8]
omit [Laid] in
@[simp] theorem sumW_pure (a b : Wt3) : Aw.Pure (sumW a b) := by unfold sumW; split <;> simp
theorem con_Sum (a b : Wt3) : Con Tryz.prog 15 [w3 a, w3 b] (sumW a b) := by
  refine (V15 _ _).gives (by simp) (by simp) ?_
  unfold W15
  simp [w3]
  refine iCall_con (by kernel_rfl) (con_fine a) ?_
  cases ha : okW a
  · simp
    exact .pure (by simp) (by simp [sumW, sumOk, ha, w3])
  · simp
    refine iCall_con (by kernel_rfl) (con_fine b) ?_
    cases hb : okW b
    · simp
      exact .pure (by simp) (by simp [sumW, sumOk, ha, hb, w3])
    · simp
      refine con_addTo a b (okW_in a b ha hb) ?_
      simp
      refine iCall_con (by kernel_rfl) (con_fine (addW a b)) ?_
      cases hc : okW (addW a b)
      · simp
        exact .pure (by simp) (by simp [sumW, sumOk, ha, hb, hc, w3])
      · simp
        exact .pure (by simp) (by simp only [addW] at hc; simp [sumW, sumOk, ha, hb, hc, w3, addW])
end Go.Proofs.YthblflmjingcfaaGreatDoor
