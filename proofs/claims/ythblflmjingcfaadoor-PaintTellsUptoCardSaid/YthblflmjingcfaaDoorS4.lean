/-
  Histories and styles that are not great. Check, Was and Colors by either way: the law.
  No conditions.
-/
import Derived.Test.YthblflmjingcfaaDoorS3
import Derived.Test.YthblflmjingcfaaDoorP1
set_option linter.unusedVariables false
set_option linter.unusedSimpArgs false
section
namespace Go.Proofs.YthblflmjingcfaaDoor
open Go Go.Aw Go.Nst
set_option maxRecDepth 1000000
theorem any_bad {α : Type} {l : List α} {p : α → Bool} {n k : Nat} {s : α} (hk : k < n) (h : l[k]? = some s) (hp : p s = true) : (l.take n).any p = true :=
  List.any_eq_true.2 ⟨s, List.mem_of_getElem? (i := k) (by rw [List.getElem?_take, if_pos hk]; exact h), hp⟩
theorem any_good {α : Type} {l : List α} {p : α → Bool} {n k : Nat} (hk : l.length ≤ k ∨ n ≤ k) (h : ∀ i s, i < k → l[i]? = some s → p s = false) : (l.take n).any p = false := by
  rw [List.any_eq_false]
  intro x hx
  obtain ⟨i, hi⟩ := List.mem_iff_getElem?.1 hx
  rw [List.getElem?_take] at hi
  split at hi
  · have := (List.getElem?_eq_some_iff.1 hi).1
    rw [h i x (by omega) hi]; simp
  · cases hi
def gHs (s : Str) : Bool := decide ((200 : Int) < s.length)
def gH (l : List Str) : Bool := (l.take 41).any gHs || decide ((40 : Int) < l.length)
set_option maxHeartbeats 1000000 in
theorem con_hGreat (l : List Str) (hl : l.length < 2 ^ 40) : Con Tryd.prog 5 [.sl 1 (encSt l)] (bool (gH l)) := by
  refine (V5 _).gives (by simp [encSt_pure]) (by simp) ?_
  unfold W5
  refine iLoop_of (α := Nat) (fun k => k ≤ l.length ∧ k ≤ 41 ∧ ∀ i s, i < k → l[i]? = some s → gHs s = false) (fun k => [int k]) (fun _ => []) (fun k => l.length - k) 0 ⟨by omega, by omega, fun i s h => by omega⟩ (Wk.refl _ _ _ (by simp)) ?_
  rintro k ⟨hk, hk2, hall⟩
  refine a_len (n := l.length) rfl (by simp [encSt]) fun _ => ?_
  have done : l.length ≤ k ∨ 41 ≤ k → gH l = decide ((40 : Int) < l.length) := fun h => by unfold gH; rw [any_good h hall]; simp
  rcases Nat.lt_or_ge k l.length with q | q
  · obtain ⟨s, hs⟩ : ∃ x, l[k]? = some x := ⟨l[k], List.getElem?_eq_getElem q⟩
    have q1 : decide ((k : Int) < l.length) = true := by simpa using q
    have hin : inI ((k : Int) + 1) := by unfold inI; omega
    rcases Nat.lt_or_ge k 41 with z | z
    · have q2 : decide ((k : Int) ≤ 40) = true := by simp; omega
      cases hg : gHs s with
      | true =>
        have hg' : decide ((200 : Int) < s.length) = true := hg
        repeat' (first | (with_reducible first | apply w_let | apply w_and | refine And.intro True.intro ?_) | ((with_reducible first | apply a_lss | apply a_leq | apply a_gtr | apply a_geq | apply a_eql | apply a_neq); rfl; rfl) | ((with_reducible first | apply a_eqlS | apply a_neqS | apply a_eqlB | apply a_neqB); rfl; rfl) | ((with_reducible apply w_add); rfl; rfl; first | assumption | (unfold inI; omega)) | ((with_reducible apply w_sub); rfl; rfl; first | assumption | (unfold inI; omega)) | ((with_reducible apply a_not); rfl) | ((with_reducible apply w_pick_t); rfl) | ((with_reducible apply w_pick_f); rfl) | ((with_reducible apply a_cond1); rfl; first | rfl | assumption) | ((with_reducible apply a_cond0); rfl; first | rfl | assumption) | ((with_reducible apply a_guard1); rfl; first | rfl | assumption) | ((with_reducible apply a_guard0); rfl; first | rfl | assumption) | ((with_reducible apply w_guard_u); rfl) | ((with_reducible apply a_pick1); rfl; first | rfl | assumption) | ((with_reducible apply a_pick0); rfl; first | rfl | assumption) | ((with_reducible apply a_pickN); rfl) | ((with_reducible apply a_condN); rfl) | ((with_reducible apply a_guardN); rfl) | ((with_reducible apply w_fad); rfl) | ((with_reducible apply a_fadI); rfl) | ((with_reducible apply w_load); rfl; rfl; rfl) | ((with_reducible apply w_loadI); rfl) | ((with_reducible apply w_loadA); rfl; rfl; first | exact Nat.le_refl _ | exact Nat.le_of_ble_eq_true rfl) | ((with_reducible apply a_eqA); rfl; rfl; rfl) | ((with_reducible apply a_loadAI); rfl; first | rfl | simp) | ((with_reducible apply w_new); first | rfl | simp) | ((with_reducible apply a_store); rfl; rfl; rfl; rfl; (first | exact Nat.le_refl _ | simp); (first | rfl | simp); (first | rfl | simp)) | ((with_reducible apply a_lenS); rfl; intro _) | ((with_reducible apply a_len); rfl; (first | rfl | simp); intro _) | ((with_reducible apply a_build); rfl) | ((with_reducible apply a_extr); rfl; rfl) | (refine a_lenSQ rfl ?_) | (refine a_idx (f := fun s => [.str s]) rfl rfl rfl hs ?_) | ((with_reducible apply a_cond); rfl) | ((with_reducible apply a_guard); rfl) | (with_reducible intro _))
        all_goals exact .pure (by simp) (by simp [gH, any_bad z hs hg])
      | false =>
        have hg' : decide ((200 : Int) < s.length) = false := hg
        repeat' (first | (with_reducible first | apply w_let | apply w_and | refine And.intro True.intro ?_) | ((with_reducible first | apply a_lss | apply a_leq | apply a_gtr | apply a_geq | apply a_eql | apply a_neq); rfl; rfl) | ((with_reducible first | apply a_eqlS | apply a_neqS | apply a_eqlB | apply a_neqB); rfl; rfl) | ((with_reducible apply w_add); rfl; rfl; first | assumption | (unfold inI; omega)) | ((with_reducible apply w_sub); rfl; rfl; first | assumption | (unfold inI; omega)) | ((with_reducible apply a_not); rfl) | ((with_reducible apply w_pick_t); rfl) | ((with_reducible apply w_pick_f); rfl) | ((with_reducible apply a_cond1); rfl; first | rfl | assumption) | ((with_reducible apply a_cond0); rfl; first | rfl | assumption) | ((with_reducible apply a_guard1); rfl; first | rfl | assumption) | ((with_reducible apply a_guard0); rfl; first | rfl | assumption) | ((with_reducible apply w_guard_u); rfl) | ((with_reducible apply a_pick1); rfl; first | rfl | assumption) | ((with_reducible apply a_pick0); rfl; first | rfl | assumption) | ((with_reducible apply a_pickN); rfl) | ((with_reducible apply a_condN); rfl) | ((with_reducible apply a_guardN); rfl) | ((with_reducible apply w_fad); rfl) | ((with_reducible apply a_fadI); rfl) | ((with_reducible apply w_load); rfl; rfl; rfl) | ((with_reducible apply w_loadI); rfl) | ((with_reducible apply w_loadA); rfl; rfl; first | exact Nat.le_refl _ | exact Nat.le_of_ble_eq_true rfl) | ((with_reducible apply a_eqA); rfl; rfl; rfl) | ((with_reducible apply a_loadAI); rfl; first | rfl | simp) | ((with_reducible apply w_new); first | rfl | simp) | ((with_reducible apply a_store); rfl; rfl; rfl; rfl; (first | exact Nat.le_refl _ | simp); (first | rfl | simp); (first | rfl | simp)) | ((with_reducible apply a_lenS); rfl; intro _) | ((with_reducible apply a_len); rfl; (first | rfl | simp); intro _) | ((with_reducible apply a_build); rfl) | ((with_reducible apply a_extr); rfl; rfl) | (refine a_lenSQ rfl ?_) | (refine a_idx (f := fun s => [.str s]) rfl rfl rfl hs ?_) | ((with_reducible apply a_cond); rfl) | ((with_reducible apply a_guard); rfl) | (with_reducible intro _))
        all_goals
          refine ⟨k + 1, ⟨q, by omega, fun i x hi hx => ?_⟩, Wk.refl _ _ _ (by simp), by omega⟩
          rcases Nat.lt_or_ge i k with y | y
          · exact hall i x y hx
          · obtain rfl : i = k := by omega
            rw [hs] at hx; cases hx; exact hg
    · have q2 : decide ((k : Int) ≤ 40) = false := by simp; omega
      repeat' (first | (refine a_len (n := l.length) rfl (by simp [encSt]) fun _ => ?_) | (with_reducible first | apply w_let | apply w_and | refine And.intro True.intro ?_) | ((with_reducible first | apply a_lss | apply a_leq | apply a_gtr | apply a_geq | apply a_eql | apply a_neq); rfl; rfl) | ((with_reducible first | apply a_eqlS | apply a_neqS | apply a_eqlB | apply a_neqB); rfl; rfl) | ((with_reducible apply w_add); rfl; rfl; first | assumption | (unfold inI; omega)) | ((with_reducible apply w_sub); rfl; rfl; first | assumption | (unfold inI; omega)) | ((with_reducible apply a_not); rfl) | ((with_reducible apply w_pick_t); rfl) | ((with_reducible apply w_pick_f); rfl) | ((with_reducible apply a_cond1); rfl; first | rfl | assumption) | ((with_reducible apply a_cond0); rfl; first | rfl | assumption) | ((with_reducible apply a_guard1); rfl; first | rfl | assumption) | ((with_reducible apply a_guard0); rfl; first | rfl | assumption) | ((with_reducible apply w_guard_u); rfl) | ((with_reducible apply a_pick1); rfl; first | rfl | assumption) | ((with_reducible apply a_pick0); rfl; first | rfl | assumption) | ((with_reducible apply a_pickN); rfl) | ((with_reducible apply a_condN); rfl) | ((with_reducible apply a_guardN); rfl) | ((with_reducible apply w_fad); rfl) | ((with_reducible apply a_fadI); rfl) | ((with_reducible apply w_load); rfl; rfl; rfl) | ((with_reducible apply w_loadI); rfl) | ((with_reducible apply w_loadA); rfl; rfl; first | exact Nat.le_refl _ | exact Nat.le_of_ble_eq_true rfl) | ((with_reducible apply a_eqA); rfl; rfl; rfl) | ((with_reducible apply a_loadAI); rfl; first | rfl | simp) | ((with_reducible apply w_new); first | rfl | simp) | ((with_reducible apply a_store); rfl; rfl; rfl; rfl; (first | exact Nat.le_refl _ | simp); (first | rfl | simp); (first | rfl | simp)) | ((with_reducible apply a_lenS); rfl; intro _) | ((with_reducible apply a_len); rfl; (first | rfl | simp); intro _) | ((with_reducible apply a_build); rfl) | ((with_reducible apply a_extr); rfl; rfl) | ((with_reducible apply a_cond); rfl) | ((with_reducible apply a_guard); rfl) | (with_reducible intro _))
      all_goals exact .pure (by simp) (by rw [done (.inr z)])
  · have q1 : decide ((k : Int) < l.length) = false := by simp; omega
    repeat' (first | (refine a_len (n := l.length) rfl (by simp [encSt]) fun _ => ?_) | (with_reducible first | apply w_let | apply w_and | refine And.intro True.intro ?_) | ((with_reducible first | apply a_lss | apply a_leq | apply a_gtr | apply a_geq | apply a_eql | apply a_neq); rfl; rfl) | ((with_reducible first | apply a_eqlS | apply a_neqS | apply a_eqlB | apply a_neqB); rfl; rfl) | ((with_reducible apply w_add); rfl; rfl; first | assumption | (unfold inI; omega)) | ((with_reducible apply w_sub); rfl; rfl; first | assumption | (unfold inI; omega)) | ((with_reducible apply a_not); rfl) | ((with_reducible apply w_pick_t); rfl) | ((with_reducible apply w_pick_f); rfl) | ((with_reducible apply a_cond1); rfl; first | rfl | assumption) | ((with_reducible apply a_cond0); rfl; first | rfl | assumption) | ((with_reducible apply a_guard1); rfl; first | rfl | assumption) | ((with_reducible apply a_guard0); rfl; first | rfl | assumption) | ((with_reducible apply w_guard_u); rfl) | ((with_reducible apply a_pick1); rfl; first | rfl | assumption) | ((with_reducible apply a_pick0); rfl; first | rfl | assumption) | ((with_reducible apply a_pickN); rfl) | ((with_reducible apply a_condN); rfl) | ((with_reducible apply a_guardN); rfl) | ((with_reducible apply w_fad); rfl) | ((with_reducible apply a_fadI); rfl) | ((with_reducible apply w_load); rfl; rfl; rfl) | ((with_reducible apply w_loadI); rfl) | ((with_reducible apply w_loadA); rfl; rfl; first | exact Nat.le_refl _ | exact Nat.le_of_ble_eq_true rfl) | ((with_reducible apply a_eqA); rfl; rfl; rfl) | ((with_reducible apply a_loadAI); rfl; first | rfl | simp) | ((with_reducible apply w_new); first | rfl | simp) | ((with_reducible apply a_store); rfl; rfl; rfl; rfl; (first | exact Nat.le_refl _ | simp); (first | rfl | simp); (first | rfl | simp)) | ((with_reducible apply a_lenS); rfl; intro _) | ((with_reducible apply a_len); rfl; (first | rfl | simp); intro _) | ((with_reducible apply a_build); rfl) | ((with_reducible apply a_extr); rfl; rfl) | ((with_reducible apply a_cond); rfl) | ((with_reducible apply a_guard); rfl) | (with_reducible intro _))
    all_goals exact .pure (by simp) (by rw [done (.inl q)])
def gCu (c : Cu) : Bool := greatV c.value || decide ((100 : Int) < c.name.length)
def accC (l : List Cu) (k : Nat) : Int := ((l.take k).map fun c => szVs 300 0 c.value).sum
def gCs (l : List Cu) : Bool := (l.take 71).any gCu || decide ((70 : Int) < l.length) || decide ((1500 : Int) < accC l 71)
theorem accC_succ {l : List Cu} {k : Nat} {c : Cu} (h : l[k]? = some c) : accC l (k + 1) = accC l k + szVs 300 0 c.value := by
  unfold accC
  rw [List.take_add_one, h]
  simp
theorem accC_le (l : List Cu) (hz : ∀ c ∈ l, zVs c.value < 2 ^ 39) : ∀ k, 0 ≤ accC l k ∧ accC l k ≤ k * 2 ^ 39
  | 0 => by simp [accC]
  | k + 1 => by
    have ih := accC_le l hz k
    cases h : l[k]? with
    | none =>
      have : accC l (k + 1) = accC l k := by unfold accC; rw [List.take_add_one, h]; simp
      rw [this]; omega
    | some c =>
      rw [accC_succ h]
      obtain ⟨a, b, _⟩ := szVs_le 300 0 c.value
      have := hz c (List.mem_of_getElem? h)
      omega
theorem accC_end {l : List Cu} {k : Nat} (h : l.length ≤ k ∨ 71 ≤ k) (hk : k ≤ 71) : accC l 71 = accC l k := by
  rcases h with h | h
  · unfold accC; rw [List.take_of_length_le (by omega), List.take_of_length_le h]
  · obtain rfl : k = 71 := by omega
    rfl
set_option maxHeartbeats 2000000 in
theorem con_cGreat (l : List Cu) (hl : l.length < 2 ^ 40) (hz : ∀ c ∈ l, zVs c.value < 2 ^ 39) : Con Tryd.prog 20 [.sl 2 (encCus l)] (bool (gCs l)) := by
  refine (V20 _).gives (by simp [encCus_pure]) (by simp) ?_
  unfold W20
  refine iLoop_of (α := Nat) (fun k => k ≤ l.length ∧ k ≤ 71 ∧ ∀ i s, i < k → l[i]? = some s → gCu s = false) (fun k => [int (accC l k), int k]) (fun _ => []) (fun k => l.length - k) 0 ⟨by omega, by omega, fun i s h => by omega⟩ (Wk.refl _ _ _ (by simp)) ?_
  rintro k ⟨hk, hk2, hall⟩
  refine a_len (n := l.length) rfl (by simp [encCus]) fun _ => ?_
  have done : l.length ≤ k ∨ 71 ≤ k → gCs l = (decide ((70 : Int) < l.length) || decide ((1500 : Int) < accC l k)) := fun h => by unfold gCs; rw [any_good h hall, accC_end h hk2]; simp
  rcases Nat.lt_or_ge k l.length with q | q
  · obtain ⟨⟨nm, vs⟩, hs⟩ : ∃ x, l[k]? = some x := ⟨l[k], List.getElem?_eq_getElem q⟩
    have q1 : decide ((k : Int) < l.length) = true := by simpa using q
    have hin : inI ((k : Int) + 1) := by unfold inI; omega
    have hzv : zVs vs < 2 ^ 39 := hz _ (List.mem_of_getElem? hs)
    have hG := con_vGreat vs hzv
    have hS := con_Size vs 300 hzv (by omega) (by omega)
    obtain ⟨b1, b2, _⟩ := szVs_le 300 0 vs
    obtain ⟨c1, c2⟩ := accC_le l hz k
    have hacc : accC l (k + 1) = accC l k + szVs 300 0 vs := accC_succ hs
    have hi1 : inI (accC l k + szVs 300 0 vs) := by unfold inI; omega
    rcases Nat.lt_or_ge k 71 with z | z
    · have q2 : decide ((k : Int) ≤ 70) = true := by simp; omega
      repeat' (first | (with_reducible first | apply w_let | apply w_and | refine And.intro True.intro ?_) | ((with_reducible first | apply a_lss | apply a_leq | apply a_gtr | apply a_geq | apply a_eql | apply a_neq); rfl; rfl) | ((with_reducible first | apply a_eqlS | apply a_neqS | apply a_eqlB | apply a_neqB); rfl; rfl) | ((with_reducible apply w_add); rfl; rfl; first | assumption | (unfold inI; omega)) | ((with_reducible apply w_sub); rfl; rfl; first | assumption | (unfold inI; omega)) | ((with_reducible apply a_not); rfl) | ((with_reducible apply w_pick_t); rfl) | ((with_reducible apply w_pick_f); rfl) | ((with_reducible apply a_cond1); rfl; first | rfl | assumption) | ((with_reducible apply a_cond0); rfl; first | rfl | assumption) | ((with_reducible apply a_guard1); rfl; first | rfl | assumption) | ((with_reducible apply a_guard0); rfl; first | rfl | assumption) | ((with_reducible apply w_guard_u); rfl) | ((with_reducible apply a_pick1); rfl; first | rfl | assumption) | ((with_reducible apply a_pick0); rfl; first | rfl | assumption) | ((with_reducible apply a_pickN); rfl) | ((with_reducible apply a_condN); rfl) | ((with_reducible apply a_guardN); rfl) | ((with_reducible apply w_fad); rfl) | ((with_reducible apply a_fadI); rfl) | ((with_reducible apply w_load); rfl; rfl; rfl) | ((with_reducible apply w_loadI); rfl) | ((with_reducible apply w_loadA); rfl; rfl; first | exact Nat.le_refl _ | exact Nat.le_of_ble_eq_true rfl) | ((with_reducible apply a_eqA); rfl; rfl; rfl) | ((with_reducible apply a_loadAI); rfl; first | rfl | simp) | ((with_reducible apply w_new); first | rfl | simp) | ((with_reducible apply a_store); rfl; rfl; rfl; rfl; (first | exact Nat.le_refl _ | simp); (first | rfl | simp); (first | rfl | simp)) | ((with_reducible apply a_lenS); rfl; intro _) | ((with_reducible apply a_len); rfl; (first | rfl | simp); intro _) | ((with_reducible apply a_build); rfl) | ((with_reducible apply a_extr); rfl; rfl) | (refine iCall_con (by kernel_rfl) (hG) ?_) | (refine iCall_con (by kernel_rfl) (hS) ?_) | (refine a_lenSQ rfl ?_) | (refine a_idx (f := encCu) rfl rfl rfl hs ?_) | ((with_reducible apply a_cond); rfl) | ((with_reducible apply a_guard); rfl) | (with_reducible intro _))
      all_goals first
        | (refine ⟨k + 1, ⟨q, by omega, fun i x hi hx => ?_⟩, Wk.le (by simp) (by rw [hacc]; simp), by omega⟩
           rcases Nat.lt_or_ge i k with y | y
           · exact hall i x y hx
           · obtain rfl : i = k := by omega
             rw [hs] at hx; cases hx
             unfold gCu; grind)
        | (refine .pure (by simp) ?_
           simp only [nx_zero, nx_one, AV.v.injEq, Value.bool.injEq]
           have hg : gCu ⟨nm, vs⟩ = true := by unfold gCu; grind
           simp [gCs, any_bad z hs hg])
    · have q2 : decide ((k : Int) ≤ 70) = false := by simp; omega
      repeat' (first | (refine a_len (n := l.length) rfl (by simp [encCus]) fun _ => ?_) | (with_reducible first | apply w_let | apply w_and | refine And.intro True.intro ?_) | ((with_reducible first | apply a_lss | apply a_leq | apply a_gtr | apply a_geq | apply a_eql | apply a_neq); rfl; rfl) | ((with_reducible first | apply a_eqlS | apply a_neqS | apply a_eqlB | apply a_neqB); rfl; rfl) | ((with_reducible apply w_add); rfl; rfl; first | assumption | (unfold inI; omega)) | ((with_reducible apply w_sub); rfl; rfl; first | assumption | (unfold inI; omega)) | ((with_reducible apply a_not); rfl) | ((with_reducible apply w_pick_t); rfl) | ((with_reducible apply w_pick_f); rfl) | ((with_reducible apply a_cond1); rfl; first | rfl | assumption) | ((with_reducible apply a_cond0); rfl; first | rfl | assumption) | ((with_reducible apply a_guard1); rfl; first | rfl | assumption) | ((with_reducible apply a_guard0); rfl; first | rfl | assumption) | ((with_reducible apply w_guard_u); rfl) | ((with_reducible apply a_pick1); rfl; first | rfl | assumption) | ((with_reducible apply a_pick0); rfl; first | rfl | assumption) | ((with_reducible apply a_pickN); rfl) | ((with_reducible apply a_condN); rfl) | ((with_reducible apply a_guardN); rfl) | ((with_reducible apply w_fad); rfl) | ((with_reducible apply a_fadI); rfl) | ((with_reducible apply w_load); rfl; rfl; rfl) | ((with_reducible apply w_loadI); rfl) | ((with_reducible apply w_loadA); rfl; rfl; first | exact Nat.le_refl _ | exact Nat.le_of_ble_eq_true rfl) | ((with_reducible apply a_eqA); rfl; rfl; rfl) | ((with_reducible apply a_loadAI); rfl; first | rfl | simp) | ((with_reducible apply w_new); first | rfl | simp) | ((with_reducible apply a_store); rfl; rfl; rfl; rfl; (first | exact Nat.le_refl _ | simp); (first | rfl | simp); (first | rfl | simp)) | ((with_reducible apply a_lenS); rfl; intro _) | ((with_reducible apply a_len); rfl; (first | rfl | simp); intro _) | ((with_reducible apply a_build); rfl) | ((with_reducible apply a_extr); rfl; rfl) | ((with_reducible apply a_cond); rfl) | ((with_reducible apply a_guard); rfl) | (with_reducible intro _))
      all_goals
        refine .pure (by simp) ?_
        rw [done (.inr z)]
        simp only [nx_zero, nx_one, AV.v.injEq, Value.bool.injEq] at *
        grind
  · have q1 : decide ((k : Int) < l.length) = false := by simp; omega
    repeat' (first | (refine a_len (n := l.length) rfl (by simp [encCus]) fun _ => ?_) | (with_reducible first | apply w_let | apply w_and | refine And.intro True.intro ?_) | ((with_reducible first | apply a_lss | apply a_leq | apply a_gtr | apply a_geq | apply a_eql | apply a_neq); rfl; rfl) | ((with_reducible first | apply a_eqlS | apply a_neqS | apply a_eqlB | apply a_neqB); rfl; rfl) | ((with_reducible apply w_add); rfl; rfl; first | assumption | (unfold inI; omega)) | ((with_reducible apply w_sub); rfl; rfl; first | assumption | (unfold inI; omega)) | ((with_reducible apply a_not); rfl) | ((with_reducible apply w_pick_t); rfl) | ((with_reducible apply w_pick_f); rfl) | ((with_reducible apply a_cond1); rfl; first | rfl | assumption) | ((with_reducible apply a_cond0); rfl; first | rfl | assumption) | ((with_reducible apply a_guard1); rfl; first | rfl | assumption) | ((with_reducible apply a_guard0); rfl; first | rfl | assumption) | ((with_reducible apply w_guard_u); rfl) | ((with_reducible apply a_pick1); rfl; first | rfl | assumption) | ((with_reducible apply a_pick0); rfl; first | rfl | assumption) | ((with_reducible apply a_pickN); rfl) | ((with_reducible apply a_condN); rfl) | ((with_reducible apply a_guardN); rfl) | ((with_reducible apply w_fad); rfl) | ((with_reducible apply a_fadI); rfl) | ((with_reducible apply w_load); rfl; rfl; rfl) | ((with_reducible apply w_loadI); rfl) | ((with_reducible apply w_loadA); rfl; rfl; first | exact Nat.le_refl _ | exact Nat.le_of_ble_eq_true rfl) | ((with_reducible apply a_eqA); rfl; rfl; rfl) | ((with_reducible apply a_loadAI); rfl; first | rfl | simp) | ((with_reducible apply w_new); first | rfl | simp) | ((with_reducible apply a_store); rfl; rfl; rfl; rfl; (first | exact Nat.le_refl _ | simp); (first | rfl | simp); (first | rfl | simp)) | ((with_reducible apply a_lenS); rfl; intro _) | ((with_reducible apply a_len); rfl; (first | rfl | simp); intro _) | ((with_reducible apply a_build); rfl) | ((with_reducible apply a_extr); rfl; rfl) | ((with_reducible apply a_cond); rfl) | ((with_reducible apply a_guard); rfl) | (with_reducible intro _))
    all_goals
      refine .pure (by simp) ?_
      rw [done (.inl q)]
      simp only [nx_zero, nx_one, AV.v.injEq, Value.bool.injEq] at *
      grind
def gVw (v : Vv) : Bool := decide ((100 : Int) < v.word.length)
def gSy (s : Sy) : Bool := (s.vals.take 31).any gVw || decide ((30 : Int) < s.vals.length) || gCs s.customs
set_option maxHeartbeats 2000000 in
theorem con_sGreat (s : Sy) (hl : s.vals.length < 2 ^ 40) (ok : OkSy s) : Con Tryd.prog 6 [.agg (encSy s)] (bool (gSy s)) := by
  refine (V6 _).gives (by simp [encSy_pure]) (by simp) ?_
  unfold W6
  obtain ⟨vl, cu⟩ := s
  obtain ⟨o1, o2, o3⟩ := ok
  simp only at o1 o2 o3 hl
  have hC := con_cGreat cu o2 o3
  rw [encSy]
  have hlen : (encWs vl).length = vl.length := by simp [encWs]
  repeat' (first | (with_reducible first | apply w_let | apply w_and | refine And.intro True.intro ?_) | ((with_reducible first | apply a_lss | apply a_leq | apply a_gtr | apply a_geq | apply a_eql | apply a_neq); rfl; rfl) | ((with_reducible first | apply a_eqlS | apply a_neqS | apply a_eqlB | apply a_neqB); rfl; rfl) | ((with_reducible apply w_add); rfl; rfl; first | assumption | (unfold inI; omega)) | ((with_reducible apply w_sub); rfl; rfl; first | assumption | (unfold inI; omega)) | ((with_reducible apply a_not); rfl) | ((with_reducible apply w_pick_t); rfl) | ((with_reducible apply w_pick_f); rfl) | ((with_reducible apply a_cond1); rfl; first | rfl | assumption) | ((with_reducible apply a_cond0); rfl; first | rfl | assumption) | ((with_reducible apply a_guard1); rfl; first | rfl | assumption) | ((with_reducible apply a_guard0); rfl; first | rfl | assumption) | ((with_reducible apply w_guard_u); rfl) | ((with_reducible apply a_pick1); rfl; first | rfl | assumption) | ((with_reducible apply a_pick0); rfl; first | rfl | assumption) | ((with_reducible apply a_pickN); rfl) | ((with_reducible apply a_condN); rfl) | ((with_reducible apply a_guardN); rfl) | ((with_reducible apply w_fad); rfl) | ((with_reducible apply a_fadI); rfl) | ((with_reducible apply w_load); rfl; rfl; rfl) | ((with_reducible apply w_loadI); rfl) | ((with_reducible apply w_loadA); rfl; rfl; first | exact Nat.le_refl _ | exact Nat.le_of_ble_eq_true rfl) | ((with_reducible apply a_eqA); rfl; rfl; rfl) | ((with_reducible apply a_loadAI); rfl; first | rfl | simp) | ((with_reducible apply w_new); first | rfl | simp) | ((with_reducible apply a_store); rfl; rfl; rfl; rfl; (first | exact Nat.le_refl _ | simp); (first | rfl | simp); (first | rfl | simp)) | ((with_reducible apply a_lenS); rfl; intro _) | ((with_reducible apply a_len); rfl; (first | rfl | simp); intro _) | ((with_reducible apply a_build); rfl) | ((with_reducible apply a_extr); rfl; rfl) | ((with_reducible apply a_cond); rfl) | ((with_reducible apply a_guard); rfl) | (with_reducible intro _))
  refine iLoop_of (α := Nat) (fun k => k ≤ vl.length ∧ k ≤ 31 ∧ ∀ i s, i < k → vl[i]? = some s → gVw s = false) (fun k => [int k]) (fun _ => _) (fun k => vl.length - k) 0 ⟨by omega, by omega, fun i s h => by omega⟩ (Wk.refl _ _ _ (by simp)) ?_
  rintro k ⟨hk, hk2, hall⟩
  have done : vl.length ≤ k ∨ 31 ≤ k → gSy ⟨vl, cu⟩ = (decide ((30 : Int) < vl.length) || gCs cu) := fun h => by unfold gSy; simp only; rw [any_good h hall]; simp
  rcases Nat.lt_or_ge k vl.length with q | q
  · obtain ⟨⟨c, w, n, r, g, b, a⟩, hs⟩ : ∃ x, vl[k]? = some x := ⟨vl[k], List.getElem?_eq_getElem q⟩
    have q1 : decide ((k : Int) < vl.length) = true := by simpa using q
    have hin : inI ((k : Int) + 1) := by unfold inI; omega
    rcases Nat.lt_or_ge k 31 with z | z
    · have q2 : decide ((k : Int) ≤ 30) = true := by simp; omega
      cases hg : gVw ⟨c, w, n, r, g, b, a⟩ with
      | true =>
        have hg' : decide ((100 : Int) < w.length) = true := hg
        repeat' (first | (refine a_len (n := vl.length) rfl hlen fun _ => ?_) | (with_reducible first | apply w_let | apply w_and | refine And.intro True.intro ?_) | ((with_reducible first | apply a_lss | apply a_leq | apply a_gtr | apply a_geq | apply a_eql | apply a_neq); rfl; rfl) | ((with_reducible first | apply a_eqlS | apply a_neqS | apply a_eqlB | apply a_neqB); rfl; rfl) | ((with_reducible apply w_add); rfl; rfl; first | assumption | (unfold inI; omega)) | ((with_reducible apply w_sub); rfl; rfl; first | assumption | (unfold inI; omega)) | ((with_reducible apply a_not); rfl) | ((with_reducible apply w_pick_t); rfl) | ((with_reducible apply w_pick_f); rfl) | ((with_reducible apply a_cond1); rfl; first | rfl | assumption) | ((with_reducible apply a_cond0); rfl; first | rfl | assumption) | ((with_reducible apply a_guard1); rfl; first | rfl | assumption) | ((with_reducible apply a_guard0); rfl; first | rfl | assumption) | ((with_reducible apply w_guard_u); rfl) | ((with_reducible apply a_pick1); rfl; first | rfl | assumption) | ((with_reducible apply a_pick0); rfl; first | rfl | assumption) | ((with_reducible apply a_pickN); rfl) | ((with_reducible apply a_condN); rfl) | ((with_reducible apply a_guardN); rfl) | ((with_reducible apply w_fad); rfl) | ((with_reducible apply a_fadI); rfl) | ((with_reducible apply w_load); rfl; rfl; rfl) | ((with_reducible apply w_loadI); rfl) | ((with_reducible apply w_loadA); rfl; rfl; first | exact Nat.le_refl _ | exact Nat.le_of_ble_eq_true rfl) | ((with_reducible apply a_eqA); rfl; rfl; rfl) | ((with_reducible apply a_loadAI); rfl; first | rfl | simp) | ((with_reducible apply w_new); first | rfl | simp) | ((with_reducible apply a_store); rfl; rfl; rfl; rfl; (first | exact Nat.le_refl _ | simp); (first | rfl | simp); (first | rfl | simp)) | ((with_reducible apply a_lenS); rfl; intro _) | ((with_reducible apply a_len); rfl; (first | rfl | simp); intro _) | ((with_reducible apply a_build); rfl) | ((with_reducible apply a_extr); rfl; rfl) | (refine a_lenSQ rfl ?_) | (refine a_idx (f := encW) rfl rfl rfl hs ?_) | ((with_reducible apply a_cond); rfl) | ((with_reducible apply a_guard); rfl) | (with_reducible intro _))
        all_goals exact .pure (by simp) (by simp [gSy, any_bad z hs hg])
      | false =>
        have hg' : decide ((100 : Int) < w.length) = false := hg
        repeat' (first | (refine a_len (n := vl.length) rfl hlen fun _ => ?_) | (with_reducible first | apply w_let | apply w_and | refine And.intro True.intro ?_) | ((with_reducible first | apply a_lss | apply a_leq | apply a_gtr | apply a_geq | apply a_eql | apply a_neq); rfl; rfl) | ((with_reducible first | apply a_eqlS | apply a_neqS | apply a_eqlB | apply a_neqB); rfl; rfl) | ((with_reducible apply w_add); rfl; rfl; first | assumption | (unfold inI; omega)) | ((with_reducible apply w_sub); rfl; rfl; first | assumption | (unfold inI; omega)) | ((with_reducible apply a_not); rfl) | ((with_reducible apply w_pick_t); rfl) | ((with_reducible apply w_pick_f); rfl) | ((with_reducible apply a_cond1); rfl; first | rfl | assumption) | ((with_reducible apply a_cond0); rfl; first | rfl | assumption) | ((with_reducible apply a_guard1); rfl; first | rfl | assumption) | ((with_reducible apply a_guard0); rfl; first | rfl | assumption) | ((with_reducible apply w_guard_u); rfl) | ((with_reducible apply a_pick1); rfl; first | rfl | assumption) | ((with_reducible apply a_pick0); rfl; first | rfl | assumption) | ((with_reducible apply a_pickN); rfl) | ((with_reducible apply a_condN); rfl) | ((with_reducible apply a_guardN); rfl) | ((with_reducible apply w_fad); rfl) | ((with_reducible apply a_fadI); rfl) | ((with_reducible apply w_load); rfl; rfl; rfl) | ((with_reducible apply w_loadI); rfl) | ((with_reducible apply w_loadA); rfl; rfl; first | exact Nat.le_refl _ | exact Nat.le_of_ble_eq_true rfl) | ((with_reducible apply a_eqA); rfl; rfl; rfl) | ((with_reducible apply a_loadAI); rfl; first | rfl | simp) | ((with_reducible apply w_new); first | rfl | simp) | ((with_reducible apply a_store); rfl; rfl; rfl; rfl; (first | exact Nat.le_refl _ | simp); (first | rfl | simp); (first | rfl | simp)) | ((with_reducible apply a_lenS); rfl; intro _) | ((with_reducible apply a_len); rfl; (first | rfl | simp); intro _) | ((with_reducible apply a_build); rfl) | ((with_reducible apply a_extr); rfl; rfl) | (refine a_lenSQ rfl ?_) | (refine a_idx (f := encW) rfl rfl rfl hs ?_) | ((with_reducible apply a_cond); rfl) | ((with_reducible apply a_guard); rfl) | (with_reducible intro _))
        all_goals
          refine ⟨k + 1, ⟨q, by omega, fun i x hi hx => ?_⟩, Wk.refl _ _ _ (by simp), by omega⟩
          rcases Nat.lt_or_ge i k with y | y
          · exact hall i x y hx
          · obtain rfl : i = k := by omega
            rw [hs] at hx; cases hx; exact hg
    · have q2 : decide ((k : Int) ≤ 30) = false := by simp; omega
      repeat' (first | (refine a_len (n := vl.length) rfl hlen fun _ => ?_) | (with_reducible first | apply w_let | apply w_and | refine And.intro True.intro ?_) | ((with_reducible first | apply a_lss | apply a_leq | apply a_gtr | apply a_geq | apply a_eql | apply a_neq); rfl; rfl) | ((with_reducible first | apply a_eqlS | apply a_neqS | apply a_eqlB | apply a_neqB); rfl; rfl) | ((with_reducible apply w_add); rfl; rfl; first | assumption | (unfold inI; omega)) | ((with_reducible apply w_sub); rfl; rfl; first | assumption | (unfold inI; omega)) | ((with_reducible apply a_not); rfl) | ((with_reducible apply w_pick_t); rfl) | ((with_reducible apply w_pick_f); rfl) | ((with_reducible apply a_cond1); rfl; first | rfl | assumption) | ((with_reducible apply a_cond0); rfl; first | rfl | assumption) | ((with_reducible apply a_guard1); rfl; first | rfl | assumption) | ((with_reducible apply a_guard0); rfl; first | rfl | assumption) | ((with_reducible apply w_guard_u); rfl) | ((with_reducible apply a_pick1); rfl; first | rfl | assumption) | ((with_reducible apply a_pick0); rfl; first | rfl | assumption) | ((with_reducible apply a_pickN); rfl) | ((with_reducible apply a_condN); rfl) | ((with_reducible apply a_guardN); rfl) | ((with_reducible apply w_fad); rfl) | ((with_reducible apply a_fadI); rfl) | ((with_reducible apply w_load); rfl; rfl; rfl) | ((with_reducible apply w_loadI); rfl) | ((with_reducible apply w_loadA); rfl; rfl; first | exact Nat.le_refl _ | exact Nat.le_of_ble_eq_true rfl) | ((with_reducible apply a_eqA); rfl; rfl; rfl) | ((with_reducible apply a_loadAI); rfl; first | rfl | simp) | ((with_reducible apply w_new); first | rfl | simp) | ((with_reducible apply a_store); rfl; rfl; rfl; rfl; (first | exact Nat.le_refl _ | simp); (first | rfl | simp); (first | rfl | simp)) | ((with_reducible apply a_lenS); rfl; intro _) | ((with_reducible apply a_len); rfl; (first | rfl | simp); intro _) | ((with_reducible apply a_build); rfl) | ((with_reducible apply a_extr); rfl; rfl) | (refine iCall_con (by kernel_rfl) (hC) ?_) | ((with_reducible apply a_cond); rfl) | ((with_reducible apply a_guard); rfl) | (with_reducible intro _))
      all_goals
        refine .pure (by simp) ?_
        rw [done (.inr z)]
        simp only [nx_zero, nx_one, AV.v.injEq, Value.bool.injEq] at *
        grind
  · have q1 : decide ((k : Int) < vl.length) = false := by simp; omega
    repeat' (first | (refine a_len (n := vl.length) rfl hlen fun _ => ?_) | (with_reducible first | apply w_let | apply w_and | refine And.intro True.intro ?_) | ((with_reducible first | apply a_lss | apply a_leq | apply a_gtr | apply a_geq | apply a_eql | apply a_neq); rfl; rfl) | ((with_reducible first | apply a_eqlS | apply a_neqS | apply a_eqlB | apply a_neqB); rfl; rfl) | ((with_reducible apply w_add); rfl; rfl; first | assumption | (unfold inI; omega)) | ((with_reducible apply w_sub); rfl; rfl; first | assumption | (unfold inI; omega)) | ((with_reducible apply a_not); rfl) | ((with_reducible apply w_pick_t); rfl) | ((with_reducible apply w_pick_f); rfl) | ((with_reducible apply a_cond1); rfl; first | rfl | assumption) | ((with_reducible apply a_cond0); rfl; first | rfl | assumption) | ((with_reducible apply a_guard1); rfl; first | rfl | assumption) | ((with_reducible apply a_guard0); rfl; first | rfl | assumption) | ((with_reducible apply w_guard_u); rfl) | ((with_reducible apply a_pick1); rfl; first | rfl | assumption) | ((with_reducible apply a_pick0); rfl; first | rfl | assumption) | ((with_reducible apply a_pickN); rfl) | ((with_reducible apply a_condN); rfl) | ((with_reducible apply a_guardN); rfl) | ((with_reducible apply w_fad); rfl) | ((with_reducible apply a_fadI); rfl) | ((with_reducible apply w_load); rfl; rfl; rfl) | ((with_reducible apply w_loadI); rfl) | ((with_reducible apply w_loadA); rfl; rfl; first | exact Nat.le_refl _ | exact Nat.le_of_ble_eq_true rfl) | ((with_reducible apply a_eqA); rfl; rfl; rfl) | ((with_reducible apply a_loadAI); rfl; first | rfl | simp) | ((with_reducible apply w_new); first | rfl | simp) | ((with_reducible apply a_store); rfl; rfl; rfl; rfl; (first | exact Nat.le_refl _ | simp); (first | rfl | simp); (first | rfl | simp)) | ((with_reducible apply a_lenS); rfl; intro _) | ((with_reducible apply a_len); rfl; (first | rfl | simp); intro _) | ((with_reducible apply a_build); rfl) | ((with_reducible apply a_extr); rfl; rfl) | (refine iCall_con (by kernel_rfl) (hC) ?_) | ((with_reducible apply a_cond); rfl) | ((with_reducible apply a_guard); rfl) | (with_reducible intro _))
    all_goals
      refine .pure (by simp) ?_
      rw [done (.inl q)]
      simp only [nx_zero, nx_one, AV.v.injEq, Value.bool.injEq] at *
      grind
end Go.Proofs.YthblflmjingcfaaDoor
end

section
namespace Go.Proofs.YthblflmjingcfaaDoor
open Go Go.Aw Go.Nst
set_option maxRecDepth 1000000
theorem wasV_tup (l : List Str) (t : Str) : ∃ x e, wasV l t = .tup [bool x, int e] := by
  unfold wasV
  split
  · exact ⟨_, _, rfl⟩
  · exact ⟨_, _, rfl⟩
def u16 (f : Nat → Int) : List AV := [u8c (f 0), u8c (f 1), u8c (f 2), u8c (f 3), u8c (f 4), u8c (f 5), u8c (f 6), u8c (f 7), u8c (f 8), u8c (f 9), u8c (f 10), u8c (f 11), u8c (f 12), u8c (f 13), u8c (f 14), u8c (f 15)]
theorem colV_tup (s v : Sy) (was : Bool) : ∃ f e, colV s v was = .tup [.agg (u16 f), int e] := by
  unfold colV
  split
  · refine ⟨fun i => match (colK s v was 4).getD i (u8c 0) with | .v (.int .u8 n) => n | _ => 0, 0, ?_⟩
    cases was <;> rfl
  · exact ⟨fun _ => 0, 8, rfl⟩
set_option maxHeartbeats 8000000 in
theorem con_PaintTells (l : List Str) (t : Str) (a b : Sy) (was : Bool) (hl : l.length < 2 ^ 40) (ht : t.length < 2 ^ 40) (oa : OkSy a) (ob : OkSy b) (la : a.vals.length < 2 ^ 40) (lb : b.vals.length < 2 ^ 40) :
    Con Tryd.prog 3 [.sl 1 (encSt l), .str t, .agg (encSy a), .agg (encSy b), bool was] (bool true) := by
  refine (V3 _ _ _ _ _).gives (by simp [encSt_pure, encSy_pure]) (by simp) ?_
  unfold W3
  have hH := con_hGreat l hl
  have hA := con_sGreat a la oa
  have hB := con_sGreat b lb ob
  have w1 := con_Was l t hl
  have w2 := con_rWas l t hl
  have c1 := con_Colors a b oa ob was
  have c2 := con_rColors a b oa ob was
  have p1 := con_pCheck l hl
  have p2 := con_rpCheck l hl
  obtain ⟨x, e, hw⟩ := wasV_tup l t
  obtain ⟨f, g, hc⟩ := colV_tup a b was
  rw [hw] at w1 w2
  rw [hc] at c1 c2
  have gx : (x == x) = true := by simp
  have ge : decide (e = e) = true := by simp
  have gg : decide (g = g) = true := by simp
  have gh : decide (hE l = hE l) = true := by simp
  cases g1 : gH l with
  | true =>
    rw [g1] at hH
    repeat' (first | (with_reducible first | apply w_let | apply w_and | refine And.intro True.intro ?_) | ((with_reducible first | apply a_lss | apply a_leq | apply a_gtr | apply a_geq | apply a_eql | apply a_neq); rfl; rfl) | ((with_reducible first | apply a_eqlS | apply a_neqS | apply a_eqlB | apply a_neqB); rfl; rfl) | ((with_reducible apply w_add); rfl; rfl; first | assumption | (unfold inI; omega)) | ((with_reducible apply w_sub); rfl; rfl; first | assumption | (unfold inI; omega)) | ((with_reducible apply a_not); rfl) | ((with_reducible apply w_pick_t); rfl) | ((with_reducible apply w_pick_f); rfl) | ((with_reducible apply a_cond1); rfl; first | rfl | assumption) | ((with_reducible apply a_cond0); rfl; first | rfl | assumption) | ((with_reducible apply a_guard1); rfl; first | rfl | assumption) | ((with_reducible apply a_guard0); rfl; first | rfl | assumption) | ((with_reducible apply w_guard_u); rfl) | ((with_reducible apply a_pick1); rfl; first | rfl | assumption) | ((with_reducible apply a_pick0); rfl; first | rfl | assumption) | ((with_reducible apply a_pickN); rfl) | ((with_reducible apply a_condN); rfl) | ((with_reducible apply a_guardN); rfl) | ((with_reducible apply w_fad); rfl) | ((with_reducible apply a_fadI); rfl) | ((with_reducible apply w_load); rfl; rfl; rfl) | ((with_reducible apply w_loadI); rfl) | ((with_reducible apply w_loadA); rfl; rfl; first | exact Nat.le_refl _ | exact Nat.le_of_ble_eq_true rfl) | ((with_reducible apply a_eqA); rfl; rfl; rfl) | ((with_reducible apply a_loadAI); rfl; first | rfl | simp) | ((with_reducible apply w_new); first | rfl | simp) | ((with_reducible apply a_store); rfl; rfl; rfl; rfl; (first | exact Nat.le_refl _ | simp); (first | rfl | simp); (first | rfl | simp)) | ((with_reducible apply a_lenS); rfl; intro _) | ((with_reducible apply a_len); rfl; (first | rfl | simp); intro _) | ((with_reducible apply a_build); rfl) | ((with_reducible apply a_extr); rfl; rfl) | (refine iCall_con (by kernel_rfl) (hH) ?_) | ((with_reducible apply a_cond); rfl) | ((with_reducible apply a_guard); rfl) | (with_reducible intro _))
    all_goals exact .pure (by simp) rfl
  | false =>
  rw [g1] at hH
  by_cases q : (200 : Int) < t.length
  · have q1 : decide ((200 : Int) < t.length) = true := by simpa using q
    repeat' (first | (with_reducible first | apply w_let | apply w_and | refine And.intro True.intro ?_) | ((with_reducible first | apply a_lss | apply a_leq | apply a_gtr | apply a_geq | apply a_eql | apply a_neq); rfl; rfl) | ((with_reducible first | apply a_eqlS | apply a_neqS | apply a_eqlB | apply a_neqB); rfl; rfl) | ((with_reducible apply w_add); rfl; rfl; first | assumption | (unfold inI; omega)) | ((with_reducible apply w_sub); rfl; rfl; first | assumption | (unfold inI; omega)) | ((with_reducible apply a_not); rfl) | ((with_reducible apply w_pick_t); rfl) | ((with_reducible apply w_pick_f); rfl) | ((with_reducible apply a_cond1); rfl; first | rfl | assumption) | ((with_reducible apply a_cond0); rfl; first | rfl | assumption) | ((with_reducible apply a_guard1); rfl; first | rfl | assumption) | ((with_reducible apply a_guard0); rfl; first | rfl | assumption) | ((with_reducible apply w_guard_u); rfl) | ((with_reducible apply a_pick1); rfl; first | rfl | assumption) | ((with_reducible apply a_pick0); rfl; first | rfl | assumption) | ((with_reducible apply a_pickN); rfl) | ((with_reducible apply a_condN); rfl) | ((with_reducible apply a_guardN); rfl) | ((with_reducible apply w_fad); rfl) | ((with_reducible apply a_fadI); rfl) | ((with_reducible apply w_load); rfl; rfl; rfl) | ((with_reducible apply w_loadI); rfl) | ((with_reducible apply w_loadA); rfl; rfl; first | exact Nat.le_refl _ | exact Nat.le_of_ble_eq_true rfl) | ((with_reducible apply a_eqA); rfl; rfl; rfl) | ((with_reducible apply a_loadAI); rfl; first | rfl | simp) | ((with_reducible apply w_new); first | rfl | simp) | ((with_reducible apply a_store); rfl; rfl; rfl; rfl; (first | exact Nat.le_refl _ | simp); (first | rfl | simp); (first | rfl | simp)) | ((with_reducible apply a_lenS); rfl; intro _) | ((with_reducible apply a_len); rfl; (first | rfl | simp); intro _) | ((with_reducible apply a_build); rfl) | ((with_reducible apply a_extr); rfl; rfl) | (refine iCall_con (by kernel_rfl) (hH) ?_) | ((with_reducible apply a_cond); rfl) | ((with_reducible apply a_guard); rfl) | (with_reducible intro _))
    all_goals exact .pure (by simp) rfl
  have q1 : decide ((200 : Int) < t.length) = false := by simpa using q
  cases g2 : gSy a with
  | true =>
    rw [g2] at hA
    repeat' (first | (with_reducible first | apply w_let | apply w_and | refine And.intro True.intro ?_) | ((with_reducible first | apply a_lss | apply a_leq | apply a_gtr | apply a_geq | apply a_eql | apply a_neq); rfl; rfl) | ((with_reducible first | apply a_eqlS | apply a_neqS | apply a_eqlB | apply a_neqB); rfl; rfl) | ((with_reducible apply w_add); rfl; rfl; first | assumption | (unfold inI; omega)) | ((with_reducible apply w_sub); rfl; rfl; first | assumption | (unfold inI; omega)) | ((with_reducible apply a_not); rfl) | ((with_reducible apply w_pick_t); rfl) | ((with_reducible apply w_pick_f); rfl) | ((with_reducible apply a_cond1); rfl; first | rfl | assumption) | ((with_reducible apply a_cond0); rfl; first | rfl | assumption) | ((with_reducible apply a_guard1); rfl; first | rfl | assumption) | ((with_reducible apply a_guard0); rfl; first | rfl | assumption) | ((with_reducible apply w_guard_u); rfl) | ((with_reducible apply a_pick1); rfl; first | rfl | assumption) | ((with_reducible apply a_pick0); rfl; first | rfl | assumption) | ((with_reducible apply a_pickN); rfl) | ((with_reducible apply a_condN); rfl) | ((with_reducible apply a_guardN); rfl) | ((with_reducible apply w_fad); rfl) | ((with_reducible apply a_fadI); rfl) | ((with_reducible apply w_load); rfl; rfl; rfl) | ((with_reducible apply w_loadI); rfl) | ((with_reducible apply w_loadA); rfl; rfl; first | exact Nat.le_refl _ | exact Nat.le_of_ble_eq_true rfl) | ((with_reducible apply a_eqA); rfl; rfl; rfl) | ((with_reducible apply a_loadAI); rfl; first | rfl | simp) | ((with_reducible apply w_new); first | rfl | simp) | ((with_reducible apply a_store); rfl; rfl; rfl; rfl; (first | exact Nat.le_refl _ | simp); (first | rfl | simp); (first | rfl | simp)) | ((with_reducible apply a_lenS); rfl; intro _) | ((with_reducible apply a_len); rfl; (first | rfl | simp); intro _) | ((with_reducible apply a_build); rfl) | ((with_reducible apply a_extr); rfl; rfl) | (refine iCall_con (by kernel_rfl) (hH) ?_) | (refine iCall_con (by kernel_rfl) (hA) ?_) | ((with_reducible apply a_cond); rfl) | ((with_reducible apply a_guard); rfl) | (with_reducible intro _))
    all_goals exact .pure (by simp) rfl
  | false =>
  rw [g2] at hA
  cases g3 : gSy b with
  | true =>
    rw [g3] at hB
    repeat' (first | (with_reducible first | apply w_let | apply w_and | refine And.intro True.intro ?_) | ((with_reducible first | apply a_lss | apply a_leq | apply a_gtr | apply a_geq | apply a_eql | apply a_neq); rfl; rfl) | ((with_reducible first | apply a_eqlS | apply a_neqS | apply a_eqlB | apply a_neqB); rfl; rfl) | ((with_reducible apply w_add); rfl; rfl; first | assumption | (unfold inI; omega)) | ((with_reducible apply w_sub); rfl; rfl; first | assumption | (unfold inI; omega)) | ((with_reducible apply a_not); rfl) | ((with_reducible apply w_pick_t); rfl) | ((with_reducible apply w_pick_f); rfl) | ((with_reducible apply a_cond1); rfl; first | rfl | assumption) | ((with_reducible apply a_cond0); rfl; first | rfl | assumption) | ((with_reducible apply a_guard1); rfl; first | rfl | assumption) | ((with_reducible apply a_guard0); rfl; first | rfl | assumption) | ((with_reducible apply w_guard_u); rfl) | ((with_reducible apply a_pick1); rfl; first | rfl | assumption) | ((with_reducible apply a_pick0); rfl; first | rfl | assumption) | ((with_reducible apply a_pickN); rfl) | ((with_reducible apply a_condN); rfl) | ((with_reducible apply a_guardN); rfl) | ((with_reducible apply w_fad); rfl) | ((with_reducible apply a_fadI); rfl) | ((with_reducible apply w_load); rfl; rfl; rfl) | ((with_reducible apply w_loadI); rfl) | ((with_reducible apply w_loadA); rfl; rfl; first | exact Nat.le_refl _ | exact Nat.le_of_ble_eq_true rfl) | ((with_reducible apply a_eqA); rfl; rfl; rfl) | ((with_reducible apply a_loadAI); rfl; first | rfl | simp) | ((with_reducible apply w_new); first | rfl | simp) | ((with_reducible apply a_store); rfl; rfl; rfl; rfl; (first | exact Nat.le_refl _ | simp); (first | rfl | simp); (first | rfl | simp)) | ((with_reducible apply a_lenS); rfl; intro _) | ((with_reducible apply a_len); rfl; (first | rfl | simp); intro _) | ((with_reducible apply a_build); rfl) | ((with_reducible apply a_extr); rfl; rfl) | (refine iCall_con (by kernel_rfl) (hH) ?_) | (refine iCall_con (by kernel_rfl) (hA) ?_) | (refine iCall_con (by kernel_rfl) (hB) ?_) | ((with_reducible apply a_cond); rfl) | ((with_reducible apply a_guard); rfl) | (with_reducible intro _))
    all_goals exact .pure (by simp) rfl
  | false =>
  rw [g3] at hB
  repeat' (first | (refine a_eqA (b := true) rfl rfl (by simp [eqK, eqS, u16, u8c]) ?_) | (with_reducible first | apply w_let | apply w_and | refine And.intro True.intro ?_) | ((with_reducible first | apply a_lss | apply a_leq | apply a_gtr | apply a_geq | apply a_eql | apply a_neq); rfl; rfl) | ((with_reducible first | apply a_eqlS | apply a_neqS | apply a_eqlB | apply a_neqB); rfl; rfl) | ((with_reducible apply w_add); rfl; rfl; first | assumption | (unfold inI; omega)) | ((with_reducible apply w_sub); rfl; rfl; first | assumption | (unfold inI; omega)) | ((with_reducible apply a_not); rfl) | ((with_reducible apply w_pick_t); rfl) | ((with_reducible apply w_pick_f); rfl) | ((with_reducible apply a_cond1); rfl; first | rfl | assumption) | ((with_reducible apply a_cond0); rfl; first | rfl | assumption) | ((with_reducible apply a_guard1); rfl; first | rfl | assumption) | ((with_reducible apply a_guard0); rfl; first | rfl | assumption) | ((with_reducible apply w_guard_u); rfl) | ((with_reducible apply a_pick1); rfl; first | rfl | assumption) | ((with_reducible apply a_pick0); rfl; first | rfl | assumption) | ((with_reducible apply a_pickN); rfl) | ((with_reducible apply a_condN); rfl) | ((with_reducible apply a_guardN); rfl) | ((with_reducible apply w_fad); rfl) | ((with_reducible apply a_fadI); rfl) | ((with_reducible apply w_load); rfl; rfl; rfl) | ((with_reducible apply w_loadI); rfl) | ((with_reducible apply w_loadA); rfl; rfl; first | exact Nat.le_refl _ | exact Nat.le_of_ble_eq_true rfl) | ((with_reducible apply a_eqA); rfl; rfl; rfl) | ((with_reducible apply a_loadAI); rfl; first | rfl | simp) | ((with_reducible apply w_new); first | rfl | simp) | ((with_reducible apply a_store); rfl; rfl; rfl; rfl; (first | exact Nat.le_refl _ | simp); (first | rfl | simp); (first | rfl | simp)) | ((with_reducible apply a_lenS); rfl; intro _) | ((with_reducible apply a_len); rfl; (first | rfl | simp); intro _) | ((with_reducible apply a_build); rfl) | ((with_reducible apply a_extr); rfl; rfl) | (refine iCall_con (by kernel_rfl) (hH) ?_) | (refine iCall_con (by kernel_rfl) (hA) ?_) | (refine iCall_con (by kernel_rfl) (hB) ?_) | (refine iCall_con (by kernel_rfl) (w1) ?_) | (refine iCall_con (by kernel_rfl) (w2) ?_) | (refine iCall_con (by kernel_rfl) (c1) ?_) | (refine iCall_con (by kernel_rfl) (c2) ?_) | (refine iCall_con (by kernel_rfl) (p1) ?_) | (refine iCall_con (by kernel_rfl) (p2) ?_) | ((with_reducible apply a_cond); rfl) | ((with_reducible apply a_guard); rfl) | (with_reducible intro _))
  all_goals exact .pure (by simp) (by simp)
end Go.Proofs.YthblflmjingcfaaDoor
end
