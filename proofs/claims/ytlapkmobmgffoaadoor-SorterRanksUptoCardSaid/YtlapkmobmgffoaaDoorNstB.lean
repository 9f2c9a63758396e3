/-
  Values: checked by either way.
  No conditions: contracts.
-/
import Derived.Test.YtlapkmobmgffoaaDoorNstA
set_option linter.unusedVariables false
set_option linter.unusedSimpArgs false
namespace Go.Proofs.YtlapkmobmgffoaaDoor
open Go Go.Aw Go.Nst
set_option maxRecDepth 100000
variable [Laid]
theorem lk_all : ∀ n, n < 2 ^ 40 → LkP n := by
  intro n
  induction n using Nat.strongRecOn with
  | _ n ih => exact fun hn => lk_step hn fun n' h => ih n' h (by omega)
theorem con_look (l : List Vl) (c : Int) (hz : zVs l < 2 ^ 40) : Con Tryd.prog 63 [.sl 6 (encVs l), u1 c] (lookV c l) := lk_all _ hz l c (Nat.le_refl _)
theorem con_nCheck (l : List Vl) (hz : zVs l < 2 ^ 40) : Con Tryd.prog 37 [.sl 6 (encVs l)] (int (checkV l)) := by
  refine (V37 _).gives (by simp [pureVs]) (by simp) ?_
  unfold W37
  have hL := con_look l 0 hz
  rw [lookV] at hL
  repeat' (first
    | (with_reducible apply w_let)
    | (with_reducible apply w_and)
    | (with_reducible refine And.intro True.intro ?_)
    | ((with_reducible apply a_lss); rfl; rfl)
    | ((with_reducible apply a_leq); rfl; rfl)
    | ((with_reducible apply a_gtr); rfl; rfl)
    | ((with_reducible apply a_geq); rfl; rfl)
    | ((with_reducible apply a_eql); rfl; rfl)
    | ((with_reducible apply a_neq); rfl; rfl)
    | ((with_reducible apply a_eqlS); rfl; rfl)
    | ((with_reducible apply a_neqS); rfl; rfl)
    | ((with_reducible apply a_eqlB); rfl; rfl)
    | ((with_reducible apply a_neqB); rfl; rfl)
    | ((with_reducible apply w_add); rfl; rfl; first | assumption | (unfold inI; omega))
    | ((with_reducible apply w_sub); rfl; rfl; first | assumption | (unfold inI; omega))
    | ((with_reducible apply a_not); rfl)
    | ((with_reducible apply w_pick_t); rfl)
    | ((with_reducible apply w_pick_f); rfl)
    | ((with_reducible apply a_cond1); rfl; first | rfl | assumption)
    | ((with_reducible apply a_cond0); rfl; first | rfl | assumption)
    | ((with_reducible apply a_guard1); rfl; first | rfl | assumption)
    | ((with_reducible apply a_guard0); rfl; first | rfl | assumption)
    | ((with_reducible apply w_guard_u); rfl)
    | ((with_reducible apply a_pick1); rfl; first | rfl | assumption)
    | ((with_reducible apply a_pick0); rfl; first | rfl | assumption)
    | ((with_reducible apply a_pickN); rfl)
    | ((with_reducible apply a_condN); rfl)
    | ((with_reducible apply a_guardN); rfl)
    | ((with_reducible apply w_fad); rfl)
    | ((with_reducible apply a_fadI); rfl)
    | ((with_reducible apply w_load); rfl; rfl; rfl)
    | ((with_reducible apply w_loadI); rfl)
    | ((with_reducible apply w_loadA); rfl; rfl; first | exact Nat.le_refl _ | exact Nat.le_of_ble_eq_true rfl)
    | ((with_reducible apply a_eqA); rfl; rfl; rfl)
    | ((with_reducible apply a_loadAI); rfl; first | rfl | simp)
    | ((with_reducible apply w_new); first | rfl | simp)
    | ((with_reducible apply a_store); rfl; rfl; rfl; rfl; (first | exact Nat.le_refl _ | simp); (first | rfl | simp); (first | rfl | simp))
    | ((with_reducible apply a_lenS); rfl; intro _)
    | ((with_reducible apply a_len); rfl; (first | rfl | simp); intro _)
    | ((with_reducible apply a_build); rfl)
    | ((with_reducible apply a_extr); rfl; rfl)
    | (refine iCall_con (by kernel_rfl) (hL) ?_)
    | ((with_reducible apply a_cond); rfl)
    | ((with_reducible apply a_guard); rfl)
    | (with_reducible intro _))
  all_goals
    refine .pure (by simp) ?_
    simp only [AV.v.injEq, Value.int.injEq, true_and]
    simp [setAll] at *
    simp [checkV, *]
    try omega
/-! ### The reference -/
def DpP (n : Nat) : Prop := ∀ (l : List Vl), zVs l ≤ n → Con Tryd.prog 58 [.sl 6 (encVs l)] (int (deepVs l))
theorem dp_step {n : Nat} (hn : n < 2 ^ 40) (hP : ∀ n', n' < n → DpP n') : DpP n := by
  intro l hz
  refine (V58 _).gives (by simp [pureVs]) (by simp) ?_
  unfold W58
  have hlen : (encVs l).length = l.length := by simp [encVs_map]
  have hll := zVs_len l
  refine iLoop_of (α := Nat) (fun k => k ≤ l.length) (fun k => [int (deepVs (l.take k)), int k]) (fun _ => []) (fun k => l.length - k) 0 (by simp) (by simpa [deepVs] using Wk.refl _ _ _ (by simp)) ?_
  intro k hk
  refine a_len (n := l.length) rfl hlen fun _ => ?_
  refine a_lss rfl rfl ?_
  rcases Nat.lt_or_ge k l.length with q | q
  · obtain ⟨⟨kd, tx, nu, un', fl, l2⟩, hx⟩ : ∃ x, l[k]? = some x := ⟨l[k], List.getElem?_eq_getElem q⟩
    have hin : inI ((k : Int) + 1) := by unfold inI; omega
    have hzv := zVs_mem (List.mem_of_getElem? hx)
    rw [zV] at hzv
    have h2len : (encVs l2).length = l2.length := by simp [encVs_map]
    have hrec := hP (zVs l2) (by omega) l2 (Nat.le_refl _)
    have d1 := deepVs_take hx
    rw [deepV] at d1
    have b1 := deepVs_le (l.take k)
    have b0 := zVs_take_le l k
    have b3 := deepVs_le l2
    have i1 : inI (1 + (deepVs l2 : Int)) := by unfold inI; omega
    refine a_cond1 rfl (by simpa using q) ?_
    by_cases hc0 : closK kd = 0
    · have g0 : (!decide (closK kd = 0)) = false := by simpa using hc0
      rw [if_pos hc0] at d1
      repeat' (first
        | ((with_reducible apply a_maxI); rfl; rfl)
        | (with_reducible apply w_let)
        | (with_reducible apply w_and)
        | (with_reducible refine And.intro True.intro ?_)
        | ((with_reducible apply a_lss); rfl; rfl)
        | ((with_reducible apply a_leq); rfl; rfl)
        | ((with_reducible apply a_gtr); rfl; rfl)
        | ((with_reducible apply a_geq); rfl; rfl)
        | ((with_reducible apply a_eql); rfl; rfl)
        | ((with_reducible apply a_neq); rfl; rfl)
        | ((with_reducible apply a_eqlS); rfl; rfl)
        | ((with_reducible apply a_neqS); rfl; rfl)
        | ((with_reducible apply a_eqlB); rfl; rfl)
        | ((with_reducible apply a_neqB); rfl; rfl)
        | ((with_reducible apply w_add); rfl; rfl; first | assumption | (unfold inI; omega))
        | ((with_reducible apply w_sub); rfl; rfl; first | assumption | (unfold inI; omega))
        | ((with_reducible apply a_not); rfl)
        | ((with_reducible apply w_pick_t); rfl)
        | ((with_reducible apply w_pick_f); rfl)
        | ((with_reducible apply a_cond1); rfl; first | rfl | assumption)
        | ((with_reducible apply a_cond0); rfl; first | rfl | assumption)
        | ((with_reducible apply a_guard1); rfl; first | rfl | assumption)
        | ((with_reducible apply a_guard0); rfl; first | rfl | assumption)
        | ((with_reducible apply w_guard_u); rfl)
        | ((with_reducible apply a_pick1); rfl; first | rfl | assumption)
        | ((with_reducible apply a_pick0); rfl; first | rfl | assumption)
        | ((with_reducible apply a_pickN); rfl)
        | ((with_reducible apply a_condN); rfl)
        | ((with_reducible apply a_guardN); rfl)
        | ((with_reducible apply w_fad); rfl)
        | ((with_reducible apply a_fadI); rfl)
        | ((with_reducible apply w_load); rfl; rfl; rfl)
        | ((with_reducible apply w_loadI); rfl)
        | ((with_reducible apply w_loadA); rfl; rfl; first | exact Nat.le_refl _ | exact Nat.le_of_ble_eq_true rfl)
        | ((with_reducible apply a_eqA); rfl; rfl; rfl)
        | ((with_reducible apply a_loadAI); rfl; first | rfl | simp)
        | ((with_reducible apply w_new); first | rfl | simp)
        | ((with_reducible apply a_store); rfl; rfl; rfl; rfl; (first | exact Nat.le_refl _ | simp); (first | rfl | simp); (first | rfl | simp))
        | ((with_reducible apply a_lenS); rfl; intro _)
        | ((with_reducible apply a_len); rfl; (first | rfl | simp); intro _)
        | ((with_reducible apply a_build); rfl)
        | ((with_reducible apply a_extr); rfl; rfl)
        | (refine a_idx rfl (encVs_map l) rfl hx ?_)
        | (refine iCall_con (by kernel_rfl) (con_rCloser kd) ?_)
        | (refine iCall_con (by kernel_rfl) (hrec) ?_)
        | ((with_reducible apply a_cond); rfl)
        | ((with_reducible apply a_guard); rfl)
        | (with_reducible intro _))
      refine ⟨k + 1, q, Wk.le (by simp) (by rw [d1]; simp), by omega⟩
    · have g0 : (!decide (closK kd = 0)) = true := by simpa using hc0
      rw [if_neg hc0] at d1
      repeat' (first
        | ((with_reducible apply a_maxI); rfl; rfl)
        | (with_reducible apply w_let)
        | (with_reducible apply w_and)
        | (with_reducible refine And.intro True.intro ?_)
        | ((with_reducible apply a_lss); rfl; rfl)
        | ((with_reducible apply a_leq); rfl; rfl)
        | ((with_reducible apply a_gtr); rfl; rfl)
        | ((with_reducible apply a_geq); rfl; rfl)
        | ((with_reducible apply a_eql); rfl; rfl)
        | ((with_reducible apply a_neq); rfl; rfl)
        | ((with_reducible apply a_eqlS); rfl; rfl)
        | ((with_reducible apply a_neqS); rfl; rfl)
        | ((with_reducible apply a_eqlB); rfl; rfl)
        | ((with_reducible apply a_neqB); rfl; rfl)
        | ((with_reducible apply w_add); rfl; rfl; first | assumption | (unfold inI; omega))
        | ((with_reducible apply w_sub); rfl; rfl; first | assumption | (unfold inI; omega))
        | ((with_reducible apply a_not); rfl)
        | ((with_reducible apply w_pick_t); rfl)
        | ((with_reducible apply w_pick_f); rfl)
        | ((with_reducible apply a_cond1); rfl; first | rfl | assumption)
        | ((with_reducible apply a_cond0); rfl; first | rfl | assumption)
        | ((with_reducible apply a_guard1); rfl; first | rfl | assumption)
        | ((with_reducible apply a_guard0); rfl; first | rfl | assumption)
        | ((with_reducible apply w_guard_u); rfl)
        | ((with_reducible apply a_pick1); rfl; first | rfl | assumption)
        | ((with_reducible apply a_pick0); rfl; first | rfl | assumption)
        | ((with_reducible apply a_pickN); rfl)
        | ((with_reducible apply a_condN); rfl)
        | ((with_reducible apply a_guardN); rfl)
        | ((with_reducible apply w_fad); rfl)
        | ((with_reducible apply a_fadI); rfl)
        | ((with_reducible apply w_load); rfl; rfl; rfl)
        | ((with_reducible apply w_loadI); rfl)
        | ((with_reducible apply w_loadA); rfl; rfl; first | exact Nat.le_refl _ | exact Nat.le_of_ble_eq_true rfl)
        | ((with_reducible apply a_eqA); rfl; rfl; rfl)
        | ((with_reducible apply a_loadAI); rfl; first | rfl | simp)
        | ((with_reducible apply w_new); first | rfl | simp)
        | ((with_reducible apply a_store); rfl; rfl; rfl; rfl; (first | exact Nat.le_refl _ | simp); (first | rfl | simp); (first | rfl | simp))
        | ((with_reducible apply a_lenS); rfl; intro _)
        | ((with_reducible apply a_len); rfl; (first | rfl | simp); intro _)
        | ((with_reducible apply a_build); rfl)
        | ((with_reducible apply a_extr); rfl; rfl)
        | (refine a_idx rfl (encVs_map l) rfl hx ?_)
        | (refine iCall_con (by kernel_rfl) (con_rCloser kd) ?_)
        | (refine iCall_con (by kernel_rfl) (hrec) ?_)
        | ((with_reducible apply a_cond); rfl)
        | ((with_reducible apply a_guard); rfl)
        | (with_reducible intro _))
      refine ⟨k + 1, q, Wk.le (by simp) (by rw [d1]; simp; omega), by omega⟩
  · have hk : k = l.length := by omega
    subst hk
    rw [List.take_length]
    refine a_cond0 rfl (by simp) ?_
    exact .pure (by simp) rfl
theorem con_Deep (l : List Vl) (hz : zVs l < 2 ^ 40) : Con Tryd.prog 58 [.sl 6 (encVs l)] (int (deepVs l)) := by
  have : ∀ n, n < 2 ^ 40 → DpP n := by
    intro n
    induction n using Nat.strongRecOn with
    | _ n ih => exact fun hn => dp_step hn fun n' h => ih n' h (by omega)
  exact this _ hz l (Nat.le_refl _)
def ShP (n : Nat) : Prop := ∀ (l : List Vl) (c : Int), zVs l ≤ n → Con Tryd.prog 70 [.sl 6 (encVs l), u1 c] (bool (!badVs c l))
set_option maxHeartbeats 4000000 in
theorem sh_step {n : Nat} (hn : n < 2 ^ 40) (hP : ∀ n', n' < n → ShP n') : ShP n := by
  intro l c hz
  refine (V70 _ _).gives (by simp [pureVs]) (by simp) ?_
  unfold W70
  have hlen : (encVs l).length = l.length := by simp [encVs_map]
  have hll := zVs_len l
  refine iLoop_of (α := Nat) (fun k => k ≤ l.length ∧ badVs c (l.take k) = false) (fun k => [int k]) (fun _ => []) (fun k => l.length - k) 0 (by simp [badVs]) (Wk.refl _ _ _ (by simp)) ?_
  rintro k ⟨hk, hbk⟩
  refine a_len (n := l.length) rfl hlen fun _ => ?_
  refine a_lss rfl rfl ?_
  rcases Nat.lt_or_ge k l.length with q | q
  · obtain ⟨⟨kd, tx, nu, un', fl, l2⟩, hx⟩ : ∃ x, l[k]? = some x := ⟨l[k], List.getElem?_eq_getElem q⟩
    have hin : inI ((k : Int) + 1) := by unfold inI; omega
    have hzv := zVs_mem (List.mem_of_getElem? hx)
    rw [zV] at hzv
    have h2len : (encVs l2).length = l2.length := by simp [encVs_map]
    have hrec := hP (zVs l2) (by omega) l2 (closK kd) (Nat.le_refl _)
    have d3 := badVs_take c hx
    rw [badV, hbk, Bool.false_or] at d3
    have hall : badVs c (l.take (k + 1)) = true → badVs c l = true := fun h => by
      have := badVs_append c (l.take (k + 1)) (l.drop (k + 1))
      rw [List.take_append_drop, h] at this
      simpa using this
    have he : (l2 = []) ↔ l2.length = 0 := List.length_eq_zero_iff.symm
    refine a_cond1 rfl (by simpa using q) ?_
    by_cases hc0 : closK kd = 0
    · have g0 : decide (closK kd = 0) = true := by simpa using hc0
      rw [if_pos hc0] at d3
      repeat' (first
        | (with_reducible apply w_let)
        | (with_reducible apply w_and)
        | (with_reducible refine And.intro True.intro ?_)
        | ((with_reducible apply a_lss); rfl; rfl)
        | ((with_reducible apply a_leq); rfl; rfl)
        | ((with_reducible apply a_gtr); rfl; rfl)
        | ((with_reducible apply a_geq); rfl; rfl)
        | ((with_reducible apply a_eql); rfl; rfl)
        | ((with_reducible apply a_neq); rfl; rfl)
        | ((with_reducible apply a_eqlS); rfl; rfl)
        | ((with_reducible apply a_neqS); rfl; rfl)
        | ((with_reducible apply a_eqlB); rfl; rfl)
        | ((with_reducible apply a_neqB); rfl; rfl)
        | ((with_reducible apply w_add); rfl; rfl; first | assumption | (unfold inI; omega))
        | ((with_reducible apply w_sub); rfl; rfl; first | assumption | (unfold inI; omega))
        | ((with_reducible apply a_not); rfl)
        | ((with_reducible apply w_pick_t); rfl)
        | ((with_reducible apply w_pick_f); rfl)
        | ((with_reducible apply a_cond1); rfl; first | rfl | assumption)
        | ((with_reducible apply a_cond0); rfl; first | rfl | assumption)
        | ((with_reducible apply a_guard1); rfl; first | rfl | assumption)
        | ((with_reducible apply a_guard0); rfl; first | rfl | assumption)
        | ((with_reducible apply w_guard_u); rfl)
        | ((with_reducible apply a_pick1); rfl; first | rfl | assumption)
        | ((with_reducible apply a_pick0); rfl; first | rfl | assumption)
        | ((with_reducible apply a_pickN); rfl)
        | ((with_reducible apply a_condN); rfl)
        | ((with_reducible apply a_guardN); rfl)
        | ((with_reducible apply w_fad); rfl)
        | ((with_reducible apply a_fadI); rfl)
        | ((with_reducible apply w_load); rfl; rfl; rfl)
        | ((with_reducible apply w_loadI); rfl)
        | ((with_reducible apply w_loadA); rfl; rfl; first | exact Nat.le_refl _ | exact Nat.le_of_ble_eq_true rfl)
        | ((with_reducible apply a_eqA); rfl; rfl; rfl)
        | ((with_reducible apply a_loadAI); rfl; first | rfl | simp)
        | ((with_reducible apply w_new); first | rfl | simp)
        | ((with_reducible apply a_store); rfl; rfl; rfl; rfl; (first | exact Nat.le_refl _ | simp); (first | rfl | simp); (first | rfl | simp))
        | ((with_reducible apply a_lenS); rfl; intro _)
        | ((with_reducible apply a_len); rfl; (first | rfl | simp); intro _)
        | ((with_reducible apply a_build); rfl)
        | ((with_reducible apply a_extr); rfl; rfl)
        | (refine a_idx rfl (encVs_map l) rfl hx ?_)
        | (refine iCall_con (by kernel_rfl) (con_rCloser kd) ?_)
        | (refine iCall_con (by kernel_rfl) (hrec) ?_)
        | ((with_reducible apply a_cond); rfl)
        | ((with_reducible apply a_guard); rfl)
        | (with_reducible intro _))
      all_goals first
        | (refine ⟨k + 1, ⟨q, by grind⟩, Wk.refl _ _ _ (by simp), by omega⟩; done)
        | (refine .pure (by simp) ?_; simp; refine hall ?_; grind)
    · have g0 : decide (closK kd = 0) = false := by simpa using hc0
      rw [if_neg hc0] at d3
      repeat' (first
        | (with_reducible apply w_let)
        | (with_reducible apply w_and)
        | (with_reducible refine And.intro True.intro ?_)
        | ((with_reducible apply a_lss); rfl; rfl)
        | ((with_reducible apply a_leq); rfl; rfl)
        | ((with_reducible apply a_gtr); rfl; rfl)
        | ((with_reducible apply a_geq); rfl; rfl)
        | ((with_reducible apply a_eql); rfl; rfl)
        | ((with_reducible apply a_neq); rfl; rfl)
        | ((with_reducible apply a_eqlS); rfl; rfl)
        | ((with_reducible apply a_neqS); rfl; rfl)
        | ((with_reducible apply a_eqlB); rfl; rfl)
        | ((with_reducible apply a_neqB); rfl; rfl)
        | ((with_reducible apply w_add); rfl; rfl; first | assumption | (unfold inI; omega))
        | ((with_reducible apply w_sub); rfl; rfl; first | assumption | (unfold inI; omega))
        | ((with_reducible apply a_not); rfl)
        | ((with_reducible apply w_pick_t); rfl)
        | ((with_reducible apply w_pick_f); rfl)
        | ((with_reducible apply a_cond1); rfl; first | rfl | assumption)
        | ((with_reducible apply a_cond0); rfl; first | rfl | assumption)
        | ((with_reducible apply a_guard1); rfl; first | rfl | assumption)
        | ((with_reducible apply a_guard0); rfl; first | rfl | assumption)
        | ((with_reducible apply w_guard_u); rfl)
        | ((with_reducible apply a_pick1); rfl; first | rfl | assumption)
        | ((with_reducible apply a_pick0); rfl; first | rfl | assumption)
        | ((with_reducible apply a_pickN); rfl)
        | ((with_reducible apply a_condN); rfl)
        | ((with_reducible apply a_guardN); rfl)
        | ((with_reducible apply w_fad); rfl)
        | ((with_reducible apply a_fadI); rfl)
        | ((with_reducible apply w_load); rfl; rfl; rfl)
        | ((with_reducible apply w_loadI); rfl)
        | ((with_reducible apply w_loadA); rfl; rfl; first | exact Nat.le_refl _ | exact Nat.le_of_ble_eq_true rfl)
        | ((with_reducible apply a_eqA); rfl; rfl; rfl)
        | ((with_reducible apply a_loadAI); rfl; first | rfl | simp)
        | ((with_reducible apply w_new); first | rfl | simp)
        | ((with_reducible apply a_store); rfl; rfl; rfl; rfl; (first | exact Nat.le_refl _ | simp); (first | rfl | simp); (first | rfl | simp))
        | ((with_reducible apply a_lenS); rfl; intro _)
        | ((with_reducible apply a_len); rfl; (first | rfl | simp); intro _)
        | ((with_reducible apply a_build); rfl)
        | ((with_reducible apply a_extr); rfl; rfl)
        | (refine a_idx rfl (encVs_map l) rfl hx ?_)
        | (refine iCall_con (by kernel_rfl) (con_rCloser kd) ?_)
        | (refine iCall_con (by kernel_rfl) (hrec) ?_)
        | ((with_reducible apply a_cond); rfl)
        | ((with_reducible apply a_guard); rfl)
        | (with_reducible intro _))
      all_goals first
        | (refine ⟨k + 1, ⟨q, by grind⟩, Wk.refl _ _ _ (by simp), by omega⟩; done)
        | (refine .pure (by simp) ?_; simp; refine hall ?_; grind)
  · have hk : k = l.length := by omega
    subst hk
    rw [List.take_length] at hbk
    refine a_cond0 rfl (by simp) ?_
    exact .pure (by simp) (by simp [hbk])
theorem con_shaped (l : List Vl) (c : Int) (hz : zVs l < 2 ^ 40) : Con Tryd.prog 70 [.sl 6 (encVs l), u1 c] (bool (!badVs c l)) := by
  have : ∀ n, n < 2 ^ 40 → ShP n := by
    intro n
    induction n using Nat.strongRecOn with
    | _ n ih => exact fun hn => sh_step hn fun n' h => ih n' h (by omega)
  exact this _ hz l c (Nat.le_refl _)
end Go.Proofs.YtlapkmobmgffoaaDoor
