/-
  Values: how deep they are, how many tokens they have, their shape: the code.
  No conditions: contracts.
-/
import Derived.Test.YtlapkmobmgffoaaDoorWNst
import Derived.Test.YtlapkmobmgffoaaDoorNst
import Derived.Test.YtlapkmobmgffoaaDoorAuto
import Derived.Test.YtlapkmobmgffoaaDoorL5
set_option linter.unusedVariables false
set_option linter.unusedSimpArgs false
namespace Go.Proofs.YtlapkmobmgffoaaDoor
open Go Go.Aw Go.Nst
set_option maxRecDepth 100000
variable [Laid]
theorem con_closer (k : Int) : Con Tryd.prog 90 [u1 k] (u1 (closK k)) := by
  refine (V90 _).gives (by simp) (by simp) ?_
  unfold W90
  rcases (by omega : k = 2 ∨ k = 19 ∨ k = 21 ∨ k = 23 ∨ (k ≠ 2 ∧ k ≠ 19 ∧ k ≠ 21 ∧ k ≠ 23)) with rfl | rfl | rfl | rfl | ⟨h1, h2, h3, h4⟩
  · simp; exact .pure (by simp) rfl
  · simp; exact .pure (by simp) rfl
  · simp; exact .pure (by simp) rfl
  · simp; exact .pure (by simp) rfl
  · simp [h1, h2, h3, h4]; exact .pure (by simp) (by simp [closK, h1, h2, h3, h4])
theorem con_rCloser (k : Int) : Con Tryd.prog 81 [u1 k] (u1 (closK k)) := by
  refine (V81 _).gives (by simp) (by simp) ?_
  unfold W81
  rcases (by omega : k = 2 ∨ k = 19 ∨ k = 21 ∨ k = 23 ∨ (k ≠ 2 ∧ k ≠ 19 ∧ k ≠ 21 ∧ k ≠ 23)) with rfl | rfl | rfl | rfl | ⟨h1, h2, h3, h4⟩
  · simp; exact .pure (by simp) rfl
  · simp; exact .pure (by simp) rfl
  · simp; exact .pure (by simp) rfl
  · simp; exact .pure (by simp) rfl
  · simp [h1, h2, h3, h4]; exact .pure (by simp) (by simp [closK, h1, h2, h3, h4])
omit [Laid] in
theorem a_maxI {x y : AV} {a b : Int} {K : AV → Prop} (ex : x = int a) (ey : y = int b) (q : K (int (max a b))) : iMax x y K := by
  subst ex; subst ey
  refine ⟨rfl, ?_⟩
  rw [show (if a < b then b else a) = max a b by omega]
  exact q
def lookV (c : Int) (l : List Vl) : AV := .agg [int (deepVs l), int (cntVs l), bool (badVs c l)]
def LkP (n : Nat) : Prop := ∀ (l : List Vl) (c : Int), zVs l ≤ n → Con Tryd.prog 63 [.sl 6 (encVs l), u1 c] (lookV c l)
set_option maxHeartbeats 4000000 in
theorem lk_step {n : Nat} (hn : n < 2 ^ 40) (hP : ∀ n', n' < n → LkP n') : LkP n := by
  intro l c hz
  refine (V63 _ _).gives (by simp [pureVs]) (by simp [lookV]) ?_
  unfold W63
  have hlen : (encVs l).length = l.length := by simp [encVs_map]
  have hll := zVs_len l
  refine w_new (by simp) ?_
  refine w_new (by simp) ?_
  refine a_len (n := l.length) rfl hlen fun _ => ?_
  refine iLoop_of (α := Nat) (fun k => k ≤ l.length) (fun k => [int k]) (fun k => [.blk ⟨119, [int 0, int 0, ff], true⟩, .blk ⟨119, [int (deepVs (l.take k)), int (cntVs (l.take k)), bool (badVs c (l.take k))], true⟩]) (fun k => l.length - k) 0 (by simp) (by simpa [deepVs, cntVs, badVs] using Wk.refl _ _ _ (by simp)) ?_
  intro k hk
  refine a_lss rfl rfl ?_
  rcases Nat.lt_or_ge k l.length with q | q
  · obtain ⟨⟨kd, tx, nu, un', fl, l2⟩, hx⟩ : ∃ x, l[k]? = some x := ⟨l[k], List.getElem?_eq_getElem q⟩
    have hin : inI ((k : Int) + 1) := by unfold inI; omega
    have hzv := zVs_mem (List.mem_of_getElem? hx)
    rw [zV] at hzv
    have hrec := hP (zVs l2) (by omega) l2 (closK kd) (Nat.le_refl _)
    have d1 := deepVs_take hx
    have d2 := cntVs_take hx
    have d3 := badVs_take c hx
    rw [deepV] at d1
    rw [cntV] at d2
    rw [badV] at d3
    have b1 := deepVs_le (l.take k)
    have b2 := cntVs_le (l.take k)
    have b0 := zVs_take_le l k
    have b3 := deepVs_le l2
    have b4 := cntVs_le l2
    have h2len : (encVs l2).length = l2.length := by simp [encVs_map]
    obtain ⟨D, hD⟩ : ∃ D, deepVs (l.take k) = D := ⟨_, rfl⟩
    obtain ⟨C, hC⟩ : ∃ C, cntVs (l.take k) = C := ⟨_, rfl⟩
    obtain ⟨B, hB⟩ : ∃ B, badVs c (l.take k) = B := ⟨_, rfl⟩
    obtain ⟨D2, hD2⟩ : ∃ D, deepVs l2 = D := ⟨_, rfl⟩
    obtain ⟨C2, hC2⟩ : ∃ C, cntVs l2 = C := ⟨_, rfl⟩
    obtain ⟨B2, hB2⟩ : ∃ B, badVs (closK kd) l2 = B := ⟨_, rfl⟩
    rw [lookV, hD2, hC2, hB2] at hrec
    rw [hD] at d1 b1 ⊢
    rw [hC] at d2 b2 ⊢
    rw [hB] at d3 ⊢
    rw [hD2] at d1 b3
    rw [hC2] at d2 b4
    rw [hB2] at d3
    have i1 : inI ((C : Int) + 1) := by unfold inI; omega
    have i2 : inI ((D2 : Int) + 1) := by unfold inI; omega
    have i3 : inI ((C : Int) + 1 + C2) := by unfold inI; omega
    have i4 : inI ((C : Int) + 1 + C2 + 1) := by unfold inI; omega
    have he : (l2 = []) ↔ l2.length = 0 := List.length_eq_zero_iff.symm
    refine a_cond1 rfl (by simpa using q) ?_
    refine w_let ?_
    refine a_idx rfl (encVs_map l) rfl hx ?_
    refine a_loadAI rfl (by simp [encV_eq]) ?_
    refine w_new rfl ?_
    rw [encV]
    refine a_store (cs := [u1 kd, .str tx, int nu, .str un', bool fl, .sl 6 (encVs l2)]) rfl rfl rfl rfl (Nat.le_refl _) rfl rfl ?_
    by_cases hc0 : closK kd = 0
    · have g0 : decide (closK kd = 0) = true := by simpa using hc0
      rw [if_pos hc0] at d1 d2 d3
      repeat' (first
        | (with_reducible apply w_let)
        | (with_reducible apply w_and)
        | (with_reducible refine And.intro True.intro ?_)
        | ((with_reducible apply a_lss); rfl; rfl)
        | ((with_reducible apply a_leq); rfl; rfl)
        | ((with_reducible apply a_gtr); rfl; rfl)
        | ((with_reducible apply a_geq); rfl; rfl)
        | ((with_reducible apply a_eql); rfl; rfl)
        | ((with_reducible apply a_neq); rfl; rfl)
        | ((with_reducible apply a_eqlS); rfl; rfl)
        | ((with_reducible apply a_neqS); rfl; rfl)
        | ((with_reducible apply a_eqlB); rfl; rfl)
        | ((with_reducible apply a_neqB); rfl; rfl)
        | ((with_reducible apply w_add); rfl; rfl; first | assumption | (unfold inI; omega))
        | ((with_reducible apply w_sub); rfl; rfl; first | assumption | (unfold inI; omega))
        | ((with_reducible apply a_not); rfl)
        | ((with_reducible apply w_pick_t); rfl)
        | ((with_reducible apply w_pick_f); rfl)
        | ((with_reducible apply a_cond1); rfl; first | rfl | assumption)
        | ((with_reducible apply a_cond0); rfl; first | rfl | assumption)
        | ((with_reducible apply a_guard1); rfl; first | rfl | assumption)
        | ((with_reducible apply a_guard0); rfl; first | rfl | assumption)
        | ((with_reducible apply w_guard_u); rfl)
        | ((with_reducible apply a_pick1); rfl; first | rfl | assumption)
        | ((with_reducible apply a_pick0); rfl; first | rfl | assumption)
        | ((with_reducible apply a_pickN); rfl)
        | ((with_reducible apply a_condN); rfl)
        | ((with_reducible apply a_guardN); rfl)
        | ((with_reducible apply w_fad); rfl)
        | ((with_reducible apply a_fadI); rfl)
        | ((with_reducible apply w_load); rfl; rfl; rfl)
        | ((with_reducible apply w_loadI); rfl)
        | ((with_reducible apply w_loadA); rfl; rfl; first | exact Nat.le_refl _ | exact Nat.le_of_ble_eq_true rfl)
        | ((with_reducible apply a_eqA); rfl; rfl; rfl)
        | ((with_reducible apply a_loadAI); rfl; first | rfl | simp)
        | ((with_reducible apply w_new); first | rfl | simp)
        | ((with_reducible apply a_store); rfl; rfl; rfl; rfl; (first | exact Nat.le_refl _ | simp); (first | rfl | simp); (first | rfl | simp))
        | ((with_reducible apply a_lenS); rfl; intro _)
        | ((with_reducible apply a_len); rfl; (first | rfl | simp); intro _)
        | ((with_reducible apply a_build); rfl)
        | ((with_reducible apply a_extr); rfl; rfl)
        | (refine iCall_con (by kernel_rfl) (con_closer kd) ?_)
        | ((with_reducible apply a_cond); rfl)
        | ((with_reducible apply a_guard); rfl)
        | (with_reducible intro _))
      all_goals
        refine ⟨k + 1, q, Wk.back (M := 2) (by simp) (by simp) ?_ rfl (by simp [entB]; exact ⟨BdL_pure _ _ (by simp), BdL_pure _ _ (by simp)⟩) (by simp [Bd]), by omega⟩
        rw [d1, d2, d3]
        simp [setAll]
        grind
    · have g0 : decide (closK kd = 0) = false := by simpa using hc0
      rw [if_neg hc0] at d1 d2 d3
      repeat' (first
        | ((with_reducible apply a_maxI); rfl; rfl)
        | (with_reducible apply w_let)
        | (with_reducible apply w_and)
        | (with_reducible refine And.intro True.intro ?_)
        | ((with_reducible apply a_lss); rfl; rfl)
        | ((with_reducible apply a_leq); rfl; rfl)
        | ((with_reducible apply a_gtr); rfl; rfl)
        | ((with_reducible apply a_geq); rfl; rfl)
        | ((with_reducible apply a_eql); rfl; rfl)
        | ((with_reducible apply a_neq); rfl; rfl)
        | ((with_reducible apply a_eqlS); rfl; rfl)
        | ((with_reducible apply a_neqS); rfl; rfl)
        | ((with_reducible apply a_eqlB); rfl; rfl)
        | ((with_reducible apply a_neqB); rfl; rfl)
        | ((with_reducible apply w_add); rfl; rfl; first | assumption | (unfold inI; omega))
        | ((with_reducible apply w_sub); rfl; rfl; first | assumption | (unfold inI; omega))
        | ((with_reducible apply a_not); rfl)
        | ((with_reducible apply w_pick_t); rfl)
        | ((with_reducible apply w_pick_f); rfl)
        | ((with_reducible apply a_cond1); rfl; first | rfl | assumption)
        | ((with_reducible apply a_cond0); rfl; first | rfl | assumption)
        | ((with_reducible apply a_guard1); rfl; first | rfl | assumption)
        | ((with_reducible apply a_guard0); rfl; first | rfl | assumption)
        | ((with_reducible apply w_guard_u); rfl)
        | ((with_reducible apply a_pick1); rfl; first | rfl | assumption)
        | ((with_reducible apply a_pick0); rfl; first | rfl | assumption)
        | ((with_reducible apply a_pickN); rfl)
        | ((with_reducible apply a_condN); rfl)
        | ((with_reducible apply a_guardN); rfl)
        | ((with_reducible apply w_fad); rfl)
        | ((with_reducible apply a_fadI); rfl)
        | ((with_reducible apply w_load); rfl; rfl; rfl)
        | ((with_reducible apply w_loadI); rfl)
        | ((with_reducible apply w_loadA); rfl; rfl; first | exact Nat.le_refl _ | exact Nat.le_of_ble_eq_true rfl)
        | ((with_reducible apply a_eqA); rfl; rfl; rfl)
        | ((with_reducible apply a_loadAI); rfl; first | rfl | simp)
        | ((with_reducible apply w_new); first | rfl | simp)
        | ((with_reducible apply a_store); rfl; rfl; rfl; rfl; (first | exact Nat.le_refl _ | simp); (first | rfl | simp); (first | rfl | simp))
        | ((with_reducible apply a_lenS); rfl; intro _)
        | ((with_reducible apply a_len); rfl; (first | rfl | simp); intro _)
        | ((with_reducible apply a_build); rfl)
        | ((with_reducible apply a_extr); rfl; rfl)
        | (refine iCall_con (by kernel_rfl) (con_closer kd) ?_)
        | (refine iCall_con (by kernel_rfl) (hrec) ?_)
        | ((with_reducible apply a_cond); rfl)
        | ((with_reducible apply a_guard); rfl)
        | (with_reducible intro _))
      all_goals
        refine ⟨k + 1, q, Wk.back (M := 2) (by simp) (by simp) ?_ rfl (by simp [entB]; exact ⟨BdL_pure _ _ (by simp), BdL_pure _ _ (by simp)⟩) (by simp [Bd]), by omega⟩
        rw [d1, d2, d3]
        simp [setAll]
        grind
  · have hk : k = l.length := by omega
    subst hk
    rw [List.take_length]
    refine a_cond0 rfl (by simp) ?_
    refine w_loadA rfl rfl (by simp) ?_
    refine a_store (cs := [int (deepVs l), int (cntVs l), bool (badVs c l)]) rfl rfl rfl rfl (by simp) (by simp) (by simp) ?_
    refine w_loadA rfl rfl (by simp) ?_
    exact .pure (by simp) (by simp [lookV])
end Go.Proofs.YtlapkmobmgffoaaDoor
