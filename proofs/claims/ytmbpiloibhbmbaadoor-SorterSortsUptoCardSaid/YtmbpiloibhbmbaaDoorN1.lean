/-
  Values: how deep they are, how many tokens they have, their shape: the code. Values: checked by either way. Values: their tokens, their size; checked by the reference.
  No conditions.
-/
import Derived.Test.YtmbpiloibhbmbaaDoorWNst
import Derived.Test.YtmbpiloibhbmbaaDoorNst
import Derived.Test.YtmbpiloibhbmbaaDoorAuto
import Derived.Test.YtmbpiloibhbmbaaDoorL5
import Derived.Test.YtmbpiloibhbmbaaDoorGrow
set_option linter.unusedVariables false
set_option linter.unusedSimpArgs false
section
namespace Go.Proofs.YtmbpiloibhbmbaaDoor
open Go Go.Aw Go.Nst
set_option maxRecDepth 100000
variable [Laid]
theorem con_closer (k : Int) : Con Tryd.prog 66 [u1 k] (u1 (closK k)) := by
  refine (V66 _).gives (by simp) (by simp) ?_
  unfold W66
  rcases (by omega : k = 2 ∨ k = 19 ∨ k = 21 ∨ k = 23 ∨ (k ≠ 2 ∧ k ≠ 19 ∧ k ≠ 21 ∧ k ≠ 23)) with rfl | rfl | rfl | rfl | ⟨h1, h2, h3, h4⟩
  · simp; exact .pure (by simp) rfl
  · simp; exact .pure (by simp) rfl
  · simp; exact .pure (by simp) rfl
  · simp; exact .pure (by simp) rfl
  · simp [h1, h2, h3, h4]; exact .pure (by simp) (by simp [closK, h1, h2, h3, h4])
theorem con_rCloser (k : Int) : Con Tryd.prog 31 [u1 k] (u1 (closK k)) := by
  refine (V31 _).gives (by simp) (by simp) ?_
  unfold W31
  rcases (by omega : k = 2 ∨ k = 19 ∨ k = 21 ∨ k = 23 ∨ (k ≠ 2 ∧ k ≠ 19 ∧ k ≠ 21 ∧ k ≠ 23)) with rfl | rfl | rfl | rfl | ⟨h1, h2, h3, h4⟩
  · simp; exact .pure (by simp) rfl
  · simp; exact .pure (by simp) rfl
  · simp; exact .pure (by simp) rfl
  · simp; exact .pure (by simp) rfl
  · simp [h1, h2, h3, h4]; exact .pure (by simp) (by simp [closK, h1, h2, h3, h4])
omit [Laid] in
theorem a_maxI {x y : AV} {a b : Int} {K : AV → Prop} (ex : x = int a) (ey : y = int b) (q : K (int (max a b))) : iMax x y K := by
  subst ex; subst ey
  refine ⟨rfl, ?_⟩
  rw [show (if a < b then b else a) = max a b by omega]
  exact q
def lookV (c : Int) (l : List Vl) : AV := .agg [int (deepVs l), int (cntVs l), bool (badVs c l)]
def LkP (n : Nat) : Prop := ∀ (l : List Vl) (c : Int), zVs l ≤ n → Con Tryd.prog 48 [.sl 6 (encVs l), u1 c] (lookV c l)
set_option maxHeartbeats 4000000 in
theorem lk_step {n : Nat} (hn : n < 2 ^ 40) (hP : ∀ n', n' < n → LkP n') : LkP n := by
  intro l c hz
  refine (V48 _ _).gives (by simp [pureVs]) (by simp [lookV]) ?_
  unfold W48
  have hlen : (encVs l).length = l.length := by simp [encVs_map]
  have hll := zVs_len l
  refine w_new (by simp) ?_
  refine w_new (by simp) ?_
  refine a_len (n := l.length) rfl hlen fun _ => ?_
  refine iLoop_of (α := Nat) (fun k => k ≤ l.length) (fun k => [int k]) (fun k => [.blk ⟨96, [int 0, int 0, ff], true⟩, .blk ⟨96, [int (deepVs (l.take k)), int (cntVs (l.take k)), bool (badVs c (l.take k))], true⟩]) (fun k => l.length - k) 0 (by simp) (by simpa [deepVs, cntVs, badVs] using Wk.refl _ _ _ (by simp)) ?_
  intro k hk
  refine a_lss rfl rfl ?_
  rcases Nat.lt_or_ge k l.length with q | q
  · obtain ⟨⟨kd, tx, nu, un', fl, l2⟩, hx⟩ : ∃ x, l[k]? = some x := ⟨l[k], List.getElem?_eq_getElem q⟩
    have hin : inI ((k : Int) + 1) := by unfold inI; omega
    have hzv := zVs_mem (List.mem_of_getElem? hx)
    rw [zV] at hzv
    have hrec := hP (zVs l2) (by omega) l2 (closK kd) (Nat.le_refl _)
    have d1 := deepVs_take hx
    have d2 := cntVs_take hx
    have d3 := badVs_take c hx
    rw [deepV] at d1
    rw [cntV] at d2
    rw [badV] at d3
    have b1 := deepVs_le (l.take k)
    have b2 := cntVs_le (l.take k)
    have b0 := zVs_take_le l k
    have b3 := deepVs_le l2
    have b4 := cntVs_le l2
    have h2len : (encVs l2).length = l2.length := by simp [encVs_map]
    obtain ⟨D, hD⟩ : ∃ D, deepVs (l.take k) = D := ⟨_, rfl⟩
    obtain ⟨C, hC⟩ : ∃ C, cntVs (l.take k) = C := ⟨_, rfl⟩
    obtain ⟨B, hB⟩ : ∃ B, badVs c (l.take k) = B := ⟨_, rfl⟩
    obtain ⟨D2, hD2⟩ : ∃ D, deepVs l2 = D := ⟨_, rfl⟩
    obtain ⟨C2, hC2⟩ : ∃ C, cntVs l2 = C := ⟨_, rfl⟩
    obtain ⟨B2, hB2⟩ : ∃ B, badVs (closK kd) l2 = B := ⟨_, rfl⟩
    rw [lookV, hD2, hC2, hB2] at hrec
    rw [hD] at d1 b1 ⊢
    rw [hC] at d2 b2 ⊢
    rw [hB] at d3 ⊢
    rw [hD2] at d1 b3
    rw [hC2] at d2 b4
    rw [hB2] at d3
    have i1 : inI ((C : Int) + 1) := by unfold inI; omega
    have i2 : inI ((D2 : Int) + 1) := by unfold inI; omega
    have i3 : inI ((C : Int) + 1 + C2) := by unfold inI; omega
    have i4 : inI ((C : Int) + 1 + C2 + 1) := by unfold inI; omega
    have he : (l2 = []) ↔ l2.length = 0 := List.length_eq_zero_iff.symm
    refine a_cond1 rfl (by simpa using q) ?_
    refine w_let ?_
    refine a_idx rfl (encVs_map l) rfl hx ?_
    refine a_loadAI rfl (by simp [encV_eq]) ?_
    refine w_new rfl ?_
    rw [encV]
    refine a_store (cs := [u1 kd, .str tx, int nu, .str un', bool fl, .sl 6 (encVs l2)]) rfl rfl rfl rfl (Nat.le_refl _) rfl rfl ?_
    by_cases hc0 : closK kd = 0
    · have g0 : decide (closK kd = 0) = true := by simpa using hc0
      rw [if_pos hc0] at d1 d2 d3
      repeat' (first | (with_reducible first | apply w_let | apply w_and | refine And.intro True.intro ?_) | ((with_reducible first | apply a_lss | apply a_leq | apply a_gtr | apply a_geq | apply a_eql | apply a_neq); rfl; rfl) | ((with_reducible first | apply a_eqlS | apply a_neqS | apply a_eqlB | apply a_neqB); rfl; rfl) | ((with_reducible apply w_add); rfl; rfl; first | assumption | (unfold inI; omega)) | ((with_reducible apply w_sub); rfl; rfl; first | assumption | (unfold inI; omega)) | ((with_reducible apply a_not); rfl) | ((with_reducible apply w_pick_t); rfl) | ((with_reducible apply w_pick_f); rfl) | ((with_reducible apply a_cond1); rfl; first | rfl | assumption) | ((with_reducible apply a_cond0); rfl; first | rfl | assumption) | ((with_reducible apply a_guard1); rfl; first | rfl | assumption) | ((with_reducible apply a_guard0); rfl; first | rfl | assumption) | ((with_reducible apply w_guard_u); rfl) | ((with_reducible apply a_pick1); rfl; first | rfl | assumption) | ((with_reducible apply a_pick0); rfl; first | rfl | assumption) | ((with_reducible apply a_pickN); rfl) | ((with_reducible apply a_condN); rfl) | ((with_reducible apply a_guardN); rfl) | ((with_reducible apply w_fad); rfl) | ((with_reducible apply a_fadI); rfl) | ((with_reducible apply w_load); rfl; rfl; rfl) | ((with_reducible apply w_loadI); rfl) | ((with_reducible apply w_loadA); rfl; rfl; first | exact Nat.le_refl _ | exact Nat.le_of_ble_eq_true rfl) | ((with_reducible apply a_eqA); rfl; rfl; rfl) | ((with_reducible apply a_loadAI); rfl; first | rfl | simp) | ((with_reducible apply w_new); first | rfl | simp) | ((with_reducible apply a_store); rfl; rfl; rfl; rfl; (first | exact Nat.le_refl _ | simp); (first | rfl | simp); (first | rfl | simp)) | ((with_reducible apply a_lenS); rfl; intro _) | ((with_reducible apply a_len); rfl; (first | rfl | simp); intro _) | ((with_reducible apply a_build); rfl) | ((with_reducible apply a_extr); rfl; rfl) | (refine iCall_con (by kernel_rfl) (con_closer kd) ?_) | ((with_reducible apply a_cond); rfl) | ((with_reducible apply a_guard); rfl) | (with_reducible intro _))
      all_goals
        refine ⟨k + 1, q, Wk.back (M := 2) (by simp) (by simp) ?_ rfl (by simp [entB]; exact ⟨BdL_pure _ _ (by simp), BdL_pure _ _ (by simp)⟩) (by simp [Bd]), by omega⟩
        rw [d1, d2, d3]
        simp [setAll]
        grind
    · have g0 : decide (closK kd = 0) = false := by simpa using hc0
      rw [if_neg hc0] at d1 d2 d3
      repeat' (first | ((with_reducible apply a_maxI); rfl; rfl) | (with_reducible first | apply w_let | apply w_and | refine And.intro True.intro ?_) | ((with_reducible first | apply a_lss | apply a_leq | apply a_gtr | apply a_geq | apply a_eql | apply a_neq); rfl; rfl) | ((with_reducible first | apply a_eqlS | apply a_neqS | apply a_eqlB | apply a_neqB); rfl; rfl) | ((with_reducible apply w_add); rfl; rfl; first | assumption | (unfold inI; omega)) | ((with_reducible apply w_sub); rfl; rfl; first | assumption | (unfold inI; omega)) | ((with_reducible apply a_not); rfl) | ((with_reducible apply w_pick_t); rfl) | ((with_reducible apply w_pick_f); rfl) | ((with_reducible apply a_cond1); rfl; first | rfl | assumption) | ((with_reducible apply a_cond0); rfl; first | rfl | assumption) | ((with_reducible apply a_guard1); rfl; first | rfl | assumption) | ((with_reducible apply a_guard0); rfl; first | rfl | assumption) | ((with_reducible apply w_guard_u); rfl) | ((with_reducible apply a_pick1); rfl; first | rfl | assumption) | ((with_reducible apply a_pick0); rfl; first | rfl | assumption) | ((with_reducible apply a_pickN); rfl) | ((with_reducible apply a_condN); rfl) | ((with_reducible apply a_guardN); rfl) | ((with_reducible apply w_fad); rfl) | ((with_reducible apply a_fadI); rfl) | ((with_reducible apply w_load); rfl; rfl; rfl) | ((with_reducible apply w_loadI); rfl) | ((with_reducible apply w_loadA); rfl; rfl; first | exact Nat.le_refl _ | exact Nat.le_of_ble_eq_true rfl) | ((with_reducible apply a_eqA); rfl; rfl; rfl) | ((with_reducible apply a_loadAI); rfl; first | rfl | simp) | ((with_reducible apply w_new); first | rfl | simp) | ((with_reducible apply a_store); rfl; rfl; rfl; rfl; (first | exact Nat.le_refl _ | simp); (first | rfl | simp); (first | rfl | simp)) | ((with_reducible apply a_lenS); rfl; intro _) | ((with_reducible apply a_len); rfl; (first | rfl | simp); intro _) | ((with_reducible apply a_build); rfl) | ((with_reducible apply a_extr); rfl; rfl) | (refine iCall_con (by kernel_rfl) (con_closer kd) ?_) | (refine iCall_con (by kernel_rfl) (hrec) ?_) | ((with_reducible apply a_cond); rfl) | ((with_reducible apply a_guard); rfl) | (with_reducible intro _))
      all_goals
        refine ⟨k + 1, q, Wk.back (M := 2) (by simp) (by simp) ?_ rfl (by simp [entB]; exact ⟨BdL_pure _ _ (by simp), BdL_pure _ _ (by simp)⟩) (by simp [Bd]), by omega⟩
        rw [d1, d2, d3]
        simp [setAll]
        grind
  · have hk : k = l.length := by omega
    subst hk
    rw [List.take_length]
    refine a_cond0 rfl (by simp) ?_
    refine w_loadA rfl rfl (by simp) ?_
    refine a_store (cs := [int (deepVs l), int (cntVs l), bool (badVs c l)]) rfl rfl rfl rfl (by simp) (by simp) (by simp) ?_
    refine w_loadA rfl rfl (by simp) ?_
    exact .pure (by simp) (by simp [lookV])
end Go.Proofs.YtmbpiloibhbmbaaDoor
end

section
namespace Go.Proofs.YtmbpiloibhbmbaaDoor
open Go Go.Aw Go.Nst
set_option maxRecDepth 100000
variable [Laid]
theorem lk_all : ∀ n, n < 2 ^ 40 → LkP n := by
  intro n
  induction n using Nat.strongRecOn with
  | _ n ih => exact fun hn => lk_step hn fun n' h => ih n' h (by omega)
theorem con_look (l : List Vl) (c : Int) (hz : zVs l < 2 ^ 40) : Con Tryd.prog 48 [.sl 6 (encVs l), u1 c] (lookV c l) := lk_all _ hz l c (Nat.le_refl _)
theorem con_nCheck (l : List Vl) (hz : zVs l < 2 ^ 40) : Con Tryd.prog 33 [.sl 6 (encVs l)] (int (checkV l)) := by
  refine (V33 _).gives (by simp [pureVs]) (by simp) ?_
  unfold W33
  have hL := con_look l 0 hz
  rw [lookV] at hL
  repeat' (first | (with_reducible first | apply w_let | apply w_and | refine And.intro True.intro ?_) | ((with_reducible first | apply a_lss | apply a_leq | apply a_gtr | apply a_geq | apply a_eql | apply a_neq); rfl; rfl) | ((with_reducible first | apply a_eqlS | apply a_neqS | apply a_eqlB | apply a_neqB); rfl; rfl) | ((with_reducible apply w_add); rfl; rfl; first | assumption | (unfold inI; omega)) | ((with_reducible apply w_sub); rfl; rfl; first | assumption | (unfold inI; omega)) | ((with_reducible apply a_not); rfl) | ((with_reducible apply w_pick_t); rfl) | ((with_reducible apply w_pick_f); rfl) | ((with_reducible apply a_cond1); rfl; first | rfl | assumption) | ((with_reducible apply a_cond0); rfl; first | rfl | assumption) | ((with_reducible apply a_guard1); rfl; first | rfl | assumption) | ((with_reducible apply a_guard0); rfl; first | rfl | assumption) | ((with_reducible apply w_guard_u); rfl) | ((with_reducible apply a_pick1); rfl; first | rfl | assumption) | ((with_reducible apply a_pick0); rfl; first | rfl | assumption) | ((with_reducible apply a_pickN); rfl) | ((with_reducible apply a_condN); rfl) | ((with_reducible apply a_guardN); rfl) | ((with_reducible apply w_fad); rfl) | ((with_reducible apply a_fadI); rfl) | ((with_reducible apply w_load); rfl; rfl; rfl) | ((with_reducible apply w_loadI); rfl) | ((with_reducible apply w_loadA); rfl; rfl; first | exact Nat.le_refl _ | exact Nat.le_of_ble_eq_true rfl) | ((with_reducible apply a_eqA); rfl; rfl; rfl) | ((with_reducible apply a_loadAI); rfl; first | rfl | simp) | ((with_reducible apply w_new); first | rfl | simp) | ((with_reducible apply a_store); rfl; rfl; rfl; rfl; (first | exact Nat.le_refl _ | simp); (first | rfl | simp); (first | rfl | simp)) | ((with_reducible apply a_lenS); rfl; intro _) | ((with_reducible apply a_len); rfl; (first | rfl | simp); intro _) | ((with_reducible apply a_build); rfl) | ((with_reducible apply a_extr); rfl; rfl) | (refine iCall_con (by kernel_rfl) (hL) ?_) | ((with_reducible apply a_cond); rfl) | ((with_reducible apply a_guard); rfl) | (with_reducible intro _))
  all_goals
    refine .pure (by simp) ?_
    simp only [AV.v.injEq, Value.int.injEq, true_and]
    simp [setAll] at *
    simp [checkV, *]
    try omega
/-! ### The reference -/
def DpP (n : Nat) : Prop := ∀ (l : List Vl), zVs l ≤ n → Con Tryd.prog 23 [.sl 6 (encVs l)] (int (deepVs l))
theorem dp_step {n : Nat} (hn : n < 2 ^ 40) (hP : ∀ n', n' < n → DpP n') : DpP n := by
  intro l hz
  refine (V23 _).gives (by simp [pureVs]) (by simp) ?_
  unfold W23
  have hlen : (encVs l).length = l.length := by simp [encVs_map]
  have hll := zVs_len l
  refine iLoop_of (α := Nat) (fun k => k ≤ l.length) (fun k => [int (deepVs (l.take k)), int k]) (fun _ => []) (fun k => l.length - k) 0 (by simp) (by simpa [deepVs] using Wk.refl _ _ _ (by simp)) ?_
  intro k hk
  refine a_len (n := l.length) rfl hlen fun _ => ?_
  refine a_lss rfl rfl ?_
  rcases Nat.lt_or_ge k l.length with q | q
  · obtain ⟨⟨kd, tx, nu, un', fl, l2⟩, hx⟩ : ∃ x, l[k]? = some x := ⟨l[k], List.getElem?_eq_getElem q⟩
    have hin : inI ((k : Int) + 1) := by unfold inI; omega
    have hzv := zVs_mem (List.mem_of_getElem? hx)
    rw [zV] at hzv
    have h2len : (encVs l2).length = l2.length := by simp [encVs_map]
    have hrec := hP (zVs l2) (by omega) l2 (Nat.le_refl _)
    have d1 := deepVs_take hx
    rw [deepV] at d1
    have b1 := deepVs_le (l.take k)
    have b0 := zVs_take_le l k
    have b3 := deepVs_le l2
    have i1 : inI (1 + (deepVs l2 : Int)) := by unfold inI; omega
    refine a_cond1 rfl (by simpa using q) ?_
    by_cases hc0 : closK kd = 0
    · have g0 : (!decide (closK kd = 0)) = false := by simpa using hc0
      rw [if_pos hc0] at d1
      repeat' (first | ((with_reducible apply a_maxI); rfl; rfl) | (with_reducible first | apply w_let | apply w_and | refine And.intro True.intro ?_) | ((with_reducible first | apply a_lss | apply a_leq | apply a_gtr | apply a_geq | apply a_eql | apply a_neq); rfl; rfl) | ((with_reducible first | apply a_eqlS | apply a_neqS | apply a_eqlB | apply a_neqB); rfl; rfl) | ((with_reducible apply w_add); rfl; rfl; first | assumption | (unfold inI; omega)) | ((with_reducible apply w_sub); rfl; rfl; first | assumption | (unfold inI; omega)) | ((with_reducible apply a_not); rfl) | ((with_reducible apply w_pick_t); rfl) | ((with_reducible apply w_pick_f); rfl) | ((with_reducible apply a_cond1); rfl; first | rfl | assumption) | ((with_reducible apply a_cond0); rfl; first | rfl | assumption) | ((with_reducible apply a_guard1); rfl; first | rfl | assumption) | ((with_reducible apply a_guard0); rfl; first | rfl | assumption) | ((with_reducible apply w_guard_u); rfl) | ((with_reducible apply a_pick1); rfl; first | rfl | assumption) | ((with_reducible apply a_pick0); rfl; first | rfl | assumption) | ((with_reducible apply a_pickN); rfl) | ((with_reducible apply a_condN); rfl) | ((with_reducible apply a_guardN); rfl) | ((with_reducible apply w_fad); rfl) | ((with_reducible apply a_fadI); rfl) | ((with_reducible apply w_load); rfl; rfl; rfl) | ((with_reducible apply w_loadI); rfl) | ((with_reducible apply w_loadA); rfl; rfl; first | exact Nat.le_refl _ | exact Nat.le_of_ble_eq_true rfl) | ((with_reducible apply a_eqA); rfl; rfl; rfl) | ((with_reducible apply a_loadAI); rfl; first | rfl | simp) | ((with_reducible apply w_new); first | rfl | simp) | ((with_reducible apply a_store); rfl; rfl; rfl; rfl; (first | exact Nat.le_refl _ | simp); (first | rfl | simp); (first | rfl | simp)) | ((with_reducible apply a_lenS); rfl; intro _) | ((with_reducible apply a_len); rfl; (first | rfl | simp); intro _) | ((with_reducible apply a_build); rfl) | ((with_reducible apply a_extr); rfl; rfl) | (refine a_idx rfl (encVs_map l) rfl hx ?_) | (refine iCall_con (by kernel_rfl) (con_rCloser kd) ?_) | (refine iCall_con (by kernel_rfl) (hrec) ?_) | ((with_reducible apply a_cond); rfl) | ((with_reducible apply a_guard); rfl) | (with_reducible intro _))
      refine ⟨k + 1, q, Wk.le (by simp) (by rw [d1]; simp), by omega⟩
    · have g0 : (!decide (closK kd = 0)) = true := by simpa using hc0
      rw [if_neg hc0] at d1
      repeat' (first | ((with_reducible apply a_maxI); rfl; rfl) | (with_reducible first | apply w_let | apply w_and | refine And.intro True.intro ?_) | ((with_reducible first | apply a_lss | apply a_leq | apply a_gtr | apply a_geq | apply a_eql | apply a_neq); rfl; rfl) | ((with_reducible first | apply a_eqlS | apply a_neqS | apply a_eqlB | apply a_neqB); rfl; rfl) | ((with_reducible apply w_add); rfl; rfl; first | assumption | (unfold inI; omega)) | ((with_reducible apply w_sub); rfl; rfl; first | assumption | (unfold inI; omega)) | ((with_reducible apply a_not); rfl) | ((with_reducible apply w_pick_t); rfl) | ((with_reducible apply w_pick_f); rfl) | ((with_reducible apply a_cond1); rfl; first | rfl | assumption) | ((with_reducible apply a_cond0); rfl; first | rfl | assumption) | ((with_reducible apply a_guard1); rfl; first | rfl | assumption) | ((with_reducible apply a_guard0); rfl; first | rfl | assumption) | ((with_reducible apply w_guard_u); rfl) | ((with_reducible apply a_pick1); rfl; first | rfl | assumption) | ((with_reducible apply a_pick0); rfl; first | rfl | assumption) | ((with_reducible apply a_pickN); rfl) | ((with_reducible apply a_condN); rfl) | ((with_reducible apply a_guardN); rfl) | ((with_reducible apply w_fad); rfl) | ((with_reducible apply a_fadI); rfl) | ((with_reducible apply w_load); rfl; rfl; rfl) | ((with_reducible apply w_loadI); rfl) | ((with_reducible apply w_loadA); rfl; rfl; first | exact Nat.le_refl _ | exact Nat.le_of_ble_eq_true rfl) | ((with_reducible apply a_eqA); rfl; rfl; rfl) | ((with_reducible apply a_loadAI); rfl; first | rfl | simp) | ((with_reducible apply w_new); first | rfl | simp) | ((with_reducible apply a_store); rfl; rfl; rfl; rfl; (first | exact Nat.le_refl _ | simp); (first | rfl | simp); (first | rfl | simp)) | ((with_reducible apply a_lenS); rfl; intro _) | ((with_reducible apply a_len); rfl; (first | rfl | simp); intro _) | ((with_reducible apply a_build); rfl) | ((with_reducible apply a_extr); rfl; rfl) | (refine a_idx rfl (encVs_map l) rfl hx ?_) | (refine iCall_con (by kernel_rfl) (con_rCloser kd) ?_) | (refine iCall_con (by kernel_rfl) (hrec) ?_) | ((with_reducible apply a_cond); rfl) | ((with_reducible apply a_guard); rfl) | (with_reducible intro _))
      refine ⟨k + 1, q, Wk.le (by simp) (by rw [d1]; simp; omega), by omega⟩
  · have hk : k = l.length := by omega
    subst hk
    rw [List.take_length]
    refine a_cond0 rfl (by simp) ?_
    exact .pure (by simp) rfl
theorem con_Deep (l : List Vl) (hz : zVs l < 2 ^ 40) : Con Tryd.prog 23 [.sl 6 (encVs l)] (int (deepVs l)) := by
  have : ∀ n, n < 2 ^ 40 → DpP n := by
    intro n
    induction n using Nat.strongRecOn with
    | _ n ih => exact fun hn => dp_step hn fun n' h => ih n' h (by omega)
  exact this _ hz l (Nat.le_refl _)
def ShP (n : Nat) : Prop := ∀ (l : List Vl) (c : Int), zVs l ≤ n → Con Tryd.prog 57 [.sl 6 (encVs l), u1 c] (bool (!badVs c l))
set_option maxHeartbeats 4000000 in
theorem sh_step {n : Nat} (hn : n < 2 ^ 40) (hP : ∀ n', n' < n → ShP n') : ShP n := by
  intro l c hz
  refine (V57 _ _).gives (by simp [pureVs]) (by simp) ?_
  unfold W57
  have hlen : (encVs l).length = l.length := by simp [encVs_map]
  have hll := zVs_len l
  refine iLoop_of (α := Nat) (fun k => k ≤ l.length ∧ badVs c (l.take k) = false) (fun k => [int k]) (fun _ => []) (fun k => l.length - k) 0 (by simp [badVs]) (Wk.refl _ _ _ (by simp)) ?_
  rintro k ⟨hk, hbk⟩
  refine a_len (n := l.length) rfl hlen fun _ => ?_
  refine a_lss rfl rfl ?_
  rcases Nat.lt_or_ge k l.length with q | q
  · obtain ⟨⟨kd, tx, nu, un', fl, l2⟩, hx⟩ : ∃ x, l[k]? = some x := ⟨l[k], List.getElem?_eq_getElem q⟩
    have hin : inI ((k : Int) + 1) := by unfold inI; omega
    have hzv := zVs_mem (List.mem_of_getElem? hx)
    rw [zV] at hzv
    have h2len : (encVs l2).length = l2.length := by simp [encVs_map]
    have hrec := hP (zVs l2) (by omega) l2 (closK kd) (Nat.le_refl _)
    have d3 := badVs_take c hx
    rw [badV, hbk, Bool.false_or] at d3
    have hall : badVs c (l.take (k + 1)) = true → badVs c l = true := fun h => by
      have := badVs_append c (l.take (k + 1)) (l.drop (k + 1))
      rw [List.take_append_drop, h] at this
      simpa using this
    have he : (l2 = []) ↔ l2.length = 0 := List.length_eq_zero_iff.symm
    refine a_cond1 rfl (by simpa using q) ?_
    by_cases hc0 : closK kd = 0
    · have g0 : decide (closK kd = 0) = true := by simpa using hc0
      rw [if_pos hc0] at d3
      repeat' (first | (with_reducible first | apply w_let | apply w_and | refine And.intro True.intro ?_) | ((with_reducible first | apply a_lss | apply a_leq | apply a_gtr | apply a_geq | apply a_eql | apply a_neq); rfl; rfl) | ((with_reducible first | apply a_eqlS | apply a_neqS | apply a_eqlB | apply a_neqB); rfl; rfl) | ((with_reducible apply w_add); rfl; rfl; first | assumption | (unfold inI; omega)) | ((with_reducible apply w_sub); rfl; rfl; first | assumption | (unfold inI; omega)) | ((with_reducible apply a_not); rfl) | ((with_reducible apply w_pick_t); rfl) | ((with_reducible apply w_pick_f); rfl) | ((with_reducible apply a_cond1); rfl; first | rfl | assumption) | ((with_reducible apply a_cond0); rfl; first | rfl | assumption) | ((with_reducible apply a_guard1); rfl; first | rfl | assumption) | ((with_reducible apply a_guard0); rfl; first | rfl | assumption) | ((with_reducible apply w_guard_u); rfl) | ((with_reducible apply a_pick1); rfl; first | rfl | assumption) | ((with_reducible apply a_pick0); rfl; first | rfl | assumption) | ((with_reducible apply a_pickN); rfl) | ((with_reducible apply a_condN); rfl) | ((with_reducible apply a_guardN); rfl) | ((with_reducible apply w_fad); rfl) | ((with_reducible apply a_fadI); rfl) | ((with_reducible apply w_load); rfl; rfl; rfl) | ((with_reducible apply w_loadI); rfl) | ((with_reducible apply w_loadA); rfl; rfl; first | exact Nat.le_refl _ | exact Nat.le_of_ble_eq_true rfl) | ((with_reducible apply a_eqA); rfl; rfl; rfl) | ((with_reducible apply a_loadAI); rfl; first | rfl | simp) | ((with_reducible apply w_new); first | rfl | simp) | ((with_reducible apply a_store); rfl; rfl; rfl; rfl; (first | exact Nat.le_refl _ | simp); (first | rfl | simp); (first | rfl | simp)) | ((with_reducible apply a_lenS); rfl; intro _) | ((with_reducible apply a_len); rfl; (first | rfl | simp); intro _) | ((with_reducible apply a_build); rfl) | ((with_reducible apply a_extr); rfl; rfl) | (refine a_idx rfl (encVs_map l) rfl hx ?_) | (refine iCall_con (by kernel_rfl) (con_rCloser kd) ?_) | (refine iCall_con (by kernel_rfl) (hrec) ?_) | ((with_reducible apply a_cond); rfl) | ((with_reducible apply a_guard); rfl) | (with_reducible intro _))
      all_goals first
        | (refine ⟨k + 1, ⟨q, by grind⟩, Wk.refl _ _ _ (by simp), by omega⟩; done)
        | (refine .pure (by simp) ?_; simp; refine hall ?_; grind)
    · have g0 : decide (closK kd = 0) = false := by simpa using hc0
      rw [if_neg hc0] at d3
      repeat' (first | (with_reducible first | apply w_let | apply w_and | refine And.intro True.intro ?_) | ((with_reducible first | apply a_lss | apply a_leq | apply a_gtr | apply a_geq | apply a_eql | apply a_neq); rfl; rfl) | ((with_reducible first | apply a_eqlS | apply a_neqS | apply a_eqlB | apply a_neqB); rfl; rfl) | ((with_reducible apply w_add); rfl; rfl; first | assumption | (unfold inI; omega)) | ((with_reducible apply w_sub); rfl; rfl; first | assumption | (unfold inI; omega)) | ((with_reducible apply a_not); rfl) | ((with_reducible apply w_pick_t); rfl) | ((with_reducible apply w_pick_f); rfl) | ((with_reducible apply a_cond1); rfl; first | rfl | assumption) | ((with_reducible apply a_cond0); rfl; first | rfl | assumption) | ((with_reducible apply a_guard1); rfl; first | rfl | assumption) | ((with_reducible apply a_guard0); rfl; first | rfl | assumption) | ((with_reducible apply w_guard_u); rfl) | ((with_reducible apply a_pick1); rfl; first | rfl | assumption) | ((with_reducible apply a_pick0); rfl; first | rfl | assumption) | ((with_reducible apply a_pickN); rfl) | ((with_reducible apply a_condN); rfl) | ((with_reducible apply a_guardN); rfl) | ((with_reducible apply w_fad); rfl) | ((with_reducible apply a_fadI); rfl) | ((with_reducible apply w_load); rfl; rfl; rfl) | ((with_reducible apply w_loadI); rfl) | ((with_reducible apply w_loadA); rfl; rfl; first | exact Nat.le_refl _ | exact Nat.le_of_ble_eq_true rfl) | ((with_reducible apply a_eqA); rfl; rfl; rfl) | ((with_reducible apply a_loadAI); rfl; first | rfl | simp) | ((with_reducible apply w_new); first | rfl | simp) | ((with_reducible apply a_store); rfl; rfl; rfl; rfl; (first | exact Nat.le_refl _ | simp); (first | rfl | simp); (first | rfl | simp)) | ((with_reducible apply a_lenS); rfl; intro _) | ((with_reducible apply a_len); rfl; (first | rfl | simp); intro _) | ((with_reducible apply a_build); rfl) | ((with_reducible apply a_extr); rfl; rfl) | (refine a_idx rfl (encVs_map l) rfl hx ?_) | (refine iCall_con (by kernel_rfl) (con_rCloser kd) ?_) | (refine iCall_con (by kernel_rfl) (hrec) ?_) | ((with_reducible apply a_cond); rfl) | ((with_reducible apply a_guard); rfl) | (with_reducible intro _))
      all_goals first
        | (refine ⟨k + 1, ⟨q, by grind⟩, Wk.refl _ _ _ (by simp), by omega⟩; done)
        | (refine .pure (by simp) ?_; simp; refine hall ?_; grind)
  · have hk : k = l.length := by omega
    subst hk
    rw [List.take_length] at hbk
    refine a_cond0 rfl (by simp) ?_
    exact .pure (by simp) (by simp [hbk])
theorem con_shaped (l : List Vl) (c : Int) (hz : zVs l < 2 ^ 40) : Con Tryd.prog 57 [.sl 6 (encVs l), u1 c] (bool (!badVs c l)) := by
  have : ∀ n, n < 2 ^ 40 → ShP n := by
    intro n
    induction n using Nat.strongRecOn with
    | _ n ih => exact fun hn => sh_step hn fun n' h => ih n' h (by omega)
  exact this _ hz l c (Nat.le_refl _)
end Go.Proofs.YtmbpiloibhbmbaaDoor
end

section
namespace Go.Proofs.YtmbpiloibhbmbaaDoor
open Go Go.Aw Go.Nst
set_option maxRecDepth 100000
variable [Laid]
def TkP (n : Nat) : Prop := ∀ (l : List Vl), zVs l ≤ n → Con Tryd.prog 56 [.sl 6 (encVs l)] (.sl 5 (toksVs l))
set_option maxHeartbeats 4000000 in
theorem tk_step {n : Nat} (hn : n < 2 ^ 39) (hP : ∀ n', n' < n → TkP n') : TkP n := by
  intro l hz
  refine (V56 _).gives (by simp [pureVs]) (by rw [Aw.Pure]; exact toksVs_pure l) ?_
  unfold W56
  have hlen : (encVs l).length = l.length := by simp [encVs_map]
  have hll := zVs_len l
  refine iLoop_of (α := Nat) (fun k => k ≤ l.length) (fun k => [.sb 0 5 (toksVs (l.take k)), int k]) (fun k => [.tok 55 5 (toksVs (l.take k)).length]) (fun k => l.length - k) 0 (by simp) ?_ ?_
  · have a := Wk.nil (n := 0) (s := [.v (.slice none 0 0), int 0]) (h := []) (by simp) 0 rfl
    have b := Wk.tok (n := 0) (s := [.emp, int 0]) (h := []) (by simp) 0 55 5 rfl
    simpa [toksVs] using a.trans b
  intro k hk
  refine a_len (n := l.length) rfl hlen fun _ => ?_
  refine a_lss rfl rfl ?_
  rcases Nat.lt_or_ge k l.length with q | q
  · obtain ⟨⟨kd, tx, nu, un', fl, l2⟩, hx⟩ : ∃ x, l[k]? = some x := ⟨l[k], List.getElem?_eq_getElem q⟩
    have hin : inI ((k : Int) + 1) := by unfold inI; omega
    have hzv := zVs_mem (List.mem_of_getElem? hx)
    rw [zV] at hzv
    have hrec := hP (zVs l2) (by omega) l2 (Nat.le_refl _)
    have d1 := toksVs_take hx
    rw [toksV] at d1
    have b0 := zVs_take_le l k
    have b1 := cntVs_le (l.take k)
    have b2 := cntVs_le l2
    have t1 := toksVs_len (l.take k)
    have t2 := toksVs_len l2
    have pr := toksVs_pure (l.take (k + 1))
    obtain ⟨R, hR⟩ : ∃ R, toksVs (l.take k) = R := ⟨_, rfl⟩
    rw [hR] at d1 t1 ⊢
    obtain ⟨R2, hR2⟩ : ∃ R, toksVs l2 = R := ⟨_, rfl⟩
    have rok := toksVs_rows l2
    rw [hR2] at d1 t2 hrec rok
    refine a_cond1 rfl (by simpa using q) ?_
    refine w_let ?_
    refine a_idx rfl (encVs_map l) rfl hx ?_
    rw [encV]
    refine a_fadI rfl ?_
    refine a_loadAT rfl (by simp) ?_
    refine n_mkSl1 (n := 1) (h' := [_, _]) (cs := tokR kd tx nu un' fl) rfl rfl rfl rfl rfl rfl ?_
    refine n_appB (h' := [_, _]) (id := 0) (k := R.length) (base := R) (rows := [tokR kd tx nu un' fl]) rfl rfl rfl ((srcR_own rfl (Nat.le_refl _)).trans rfl) rfl (by unfold roomA maxLen; simp; omega) rfl ?_
    by_cases hc0 : closK kd = 0
    · have g0 : (!decide (closK kd = 0)) = false := by simpa using hc0
      rw [if_pos hc0] at d1
      repeat' (first | (with_reducible first | apply w_let | apply w_and | refine And.intro True.intro ?_) | ((with_reducible first | apply a_lss | apply a_leq | apply a_gtr | apply a_geq | apply a_eql | apply a_neq); rfl; rfl) | ((with_reducible first | apply a_eqlS | apply a_neqS | apply a_eqlB | apply a_neqB); rfl; rfl) | ((with_reducible apply w_add); rfl; rfl; first | assumption | (unfold inI; omega)) | ((with_reducible apply w_sub); rfl; rfl; first | assumption | (unfold inI; omega)) | ((with_reducible apply a_not); rfl) | ((with_reducible apply w_pick_t); rfl) | ((with_reducible apply w_pick_f); rfl) | ((with_reducible apply a_cond1); rfl; first | rfl | assumption) | ((with_reducible apply a_cond0); rfl; first | rfl | assumption) | ((with_reducible apply a_guard1); rfl; first | rfl | assumption) | ((with_reducible apply a_guard0); rfl; first | rfl | assumption) | ((with_reducible apply w_guard_u); rfl) | ((with_reducible apply a_pick1); rfl; first | rfl | assumption) | ((with_reducible apply a_pick0); rfl; first | rfl | assumption) | ((with_reducible apply a_pickN); rfl) | ((with_reducible apply a_condN); rfl) | ((with_reducible apply a_guardN); rfl) | ((with_reducible apply w_fad); rfl) | ((with_reducible apply a_fadI); rfl) | ((with_reducible apply w_load); rfl; rfl; rfl) | ((with_reducible apply w_loadI); rfl) | ((with_reducible apply w_loadA); rfl; rfl; first | exact Nat.le_refl _ | exact Nat.le_of_ble_eq_true rfl) | ((with_reducible apply a_eqA); rfl; rfl; rfl) | ((with_reducible apply a_loadAI); rfl; first | rfl | simp) | ((with_reducible apply w_new); first | rfl | simp) | ((with_reducible apply a_store); rfl; rfl; rfl; rfl; (first | exact Nat.le_refl _ | simp); (first | rfl | simp); (first | rfl | simp)) | ((with_reducible apply a_lenS); rfl; intro _) | ((with_reducible apply a_len); rfl; (first | rfl | simp); intro _) | ((with_reducible apply a_build); rfl) | ((with_reducible apply a_extr); rfl; rfl) | (refine a_idx rfl (encVs_map l) rfl hx ?_) | (refine iCall_con (by kernel_rfl) (con_rCloser kd) ?_) | ((with_reducible apply a_cond); rfl) | ((with_reducible apply a_guard); rfl) | (with_reducible intro _))
      refine ⟨k + 1, q, ?_, by omega⟩
      rw [d1] at pr ⊢
      exact Wk.back (n := 0) (M := 1) (by simp) (by simp) (by simp) rfl (by simp [entB]) (by
        have hb := Bd_pure 1 (.sl 5 (R ++ [tokR kd tx nu un' fl])) (by rw [Aw.Pure]; exact pr)
        rw [Bd] at hb
        simp [Bd, hb])
    · have g0 : (!decide (closK kd = 0)) = true := by simpa using hc0
      rw [if_neg hc0] at d1
      repeat' (first | (with_reducible first | apply w_let | apply w_and | refine And.intro True.intro ?_) | ((with_reducible first | apply a_lss | apply a_leq | apply a_gtr | apply a_geq | apply a_eql | apply a_neq); rfl; rfl) | ((with_reducible first | apply a_eqlS | apply a_neqS | apply a_eqlB | apply a_neqB); rfl; rfl) | ((with_reducible apply w_add); rfl; rfl; first | assumption | (unfold inI; omega)) | ((with_reducible apply w_sub); rfl; rfl; first | assumption | (unfold inI; omega)) | ((with_reducible apply a_not); rfl) | ((with_reducible apply w_pick_t); rfl) | ((with_reducible apply w_pick_f); rfl) | ((with_reducible apply a_cond1); rfl; first | rfl | assumption) | ((with_reducible apply a_cond0); rfl; first | rfl | assumption) | ((with_reducible apply a_guard1); rfl; first | rfl | assumption) | ((with_reducible apply a_guard0); rfl; first | rfl | assumption) | ((with_reducible apply w_guard_u); rfl) | ((with_reducible apply a_pick1); rfl; first | rfl | assumption) | ((with_reducible apply a_pick0); rfl; first | rfl | assumption) | ((with_reducible apply a_pickN); rfl) | ((with_reducible apply a_condN); rfl) | ((with_reducible apply a_guardN); rfl) | ((with_reducible apply w_fad); rfl) | ((with_reducible apply a_fadI); rfl) | ((with_reducible apply w_load); rfl; rfl; rfl) | ((with_reducible apply w_loadI); rfl) | ((with_reducible apply w_loadA); rfl; rfl; first | exact Nat.le_refl _ | exact Nat.le_of_ble_eq_true rfl) | ((with_reducible apply a_eqA); rfl; rfl; rfl) | ((with_reducible apply a_loadAI); rfl; first | rfl | simp) | ((with_reducible apply w_new); first | rfl | simp) | ((with_reducible apply a_store); rfl; rfl; rfl; rfl; (first | exact Nat.le_refl _ | simp); (first | rfl | simp); (first | rfl | simp)) | ((with_reducible apply a_lenS); rfl; intro _) | ((with_reducible apply a_len); rfl; (first | rfl | simp); intro _) | ((with_reducible apply a_build); rfl) | ((with_reducible apply a_extr); rfl; rfl) | (refine a_idx rfl (encVs_map l) rfl hx ?_) | (refine iCall_con (by kernel_rfl) (con_rCloser kd) ?_) | (refine iCall_con (by kernel_rfl) (hrec) ?_) | ((with_reducible apply a_cond); rfl) | ((with_reducible apply a_guard); rfl) | (with_reducible intro _))
      refine n_appB (h' := [_, _]) (id := 0) (k := R.length + 1) (base := R ++ [tokR kd tx nu un' fl]) (rows := R2) rfl rfl (by simp) srcR_sl rok (by unfold roomA maxLen; omega) rfl ?_
      repeat' (first | (with_reducible first | apply w_let | apply w_and | refine And.intro True.intro ?_) | ((with_reducible first | apply a_lss | apply a_leq | apply a_gtr | apply a_geq | apply a_eql | apply a_neq); rfl; rfl) | ((with_reducible first | apply a_eqlS | apply a_neqS | apply a_eqlB | apply a_neqB); rfl; rfl) | ((with_reducible apply w_add); rfl; rfl; first | assumption | (unfold inI; omega)) | ((with_reducible apply w_sub); rfl; rfl; first | assumption | (unfold inI; omega)) | ((with_reducible apply a_not); rfl) | ((with_reducible apply w_pick_t); rfl) | ((with_reducible apply w_pick_f); rfl) | ((with_reducible apply a_cond1); rfl; first | rfl | assumption) | ((with_reducible apply a_cond0); rfl; first | rfl | assumption) | ((with_reducible apply a_guard1); rfl; first | rfl | assumption) | ((with_reducible apply a_guard0); rfl; first | rfl | assumption) | ((with_reducible apply w_guard_u); rfl) | ((with_reducible apply a_pick1); rfl; first | rfl | assumption) | ((with_reducible apply a_pick0); rfl; first | rfl | assumption) | ((with_reducible apply a_pickN); rfl) | ((with_reducible apply a_condN); rfl) | ((with_reducible apply a_guardN); rfl) | ((with_reducible apply w_fad); rfl) | ((with_reducible apply a_fadI); rfl) | ((with_reducible apply w_load); rfl; rfl; rfl) | ((with_reducible apply w_loadI); rfl) | ((with_reducible apply w_loadA); rfl; rfl; first | exact Nat.le_refl _ | exact Nat.le_of_ble_eq_true rfl) | ((with_reducible apply a_eqA); rfl; rfl; rfl) | ((with_reducible apply a_loadAI); rfl; first | rfl | simp) | ((with_reducible apply w_new); first | rfl | simp) | ((with_reducible apply a_store); rfl; rfl; rfl; rfl; (first | exact Nat.le_refl _ | simp); (first | rfl | simp); (first | rfl | simp)) | ((with_reducible apply a_lenS); rfl; intro _) | ((with_reducible apply a_len); rfl; (first | rfl | simp); intro _) | ((with_reducible apply a_build); rfl) | ((with_reducible apply a_extr); rfl; rfl) | ((with_reducible apply a_cond); rfl) | ((with_reducible apply a_guard); rfl) | (with_reducible intro _))
      refine n_mkSl1 (n := 2) (h' := [_, _, _]) (cs := tokR (closK kd) [] 0 [] false) rfl rfl rfl rfl rfl rfl ?_
      refine n_appB (h' := [_, _, _]) (id := 0) (k := R.length + 1 + R2.length) (base := R ++ [tokR kd tx nu un' fl] ++ R2) (rows := [tokR (closK kd) [] 0 [] false]) rfl rfl (by simp; omega) ((srcR_own rfl (Nat.le_refl _)).trans rfl) rfl (by unfold roomA maxLen; simp; omega) rfl ?_
      repeat' (first | (with_reducible first | apply w_let | apply w_and | refine And.intro True.intro ?_) | ((with_reducible first | apply a_lss | apply a_leq | apply a_gtr | apply a_geq | apply a_eql | apply a_neq); rfl; rfl) | ((with_reducible first | apply a_eqlS | apply a_neqS | apply a_eqlB | apply a_neqB); rfl; rfl) | ((with_reducible apply w_add); rfl; rfl; first | assumption | (unfold inI; omega)) | ((with_reducible apply w_sub); rfl; rfl; first | assumption | (unfold inI; omega)) | ((with_reducible apply a_not); rfl) | ((with_reducible apply w_pick_t); rfl) | ((with_reducible apply w_pick_f); rfl) | ((with_reducible apply a_cond1); rfl; first | rfl | assumption) | ((with_reducible apply a_cond0); rfl; first | rfl | assumption) | ((with_reducible apply a_guard1); rfl; first | rfl | assumption) | ((with_reducible apply a_guard0); rfl; first | rfl | assumption) | ((with_reducible apply w_guard_u); rfl) | ((with_reducible apply a_pick1); rfl; first | rfl | assumption) | ((with_reducible apply a_pick0); rfl; first | rfl | assumption) | ((with_reducible apply a_pickN); rfl) | ((with_reducible apply a_condN); rfl) | ((with_reducible apply a_guardN); rfl) | ((with_reducible apply w_fad); rfl) | ((with_reducible apply a_fadI); rfl) | ((with_reducible apply w_load); rfl; rfl; rfl) | ((with_reducible apply w_loadI); rfl) | ((with_reducible apply w_loadA); rfl; rfl; first | exact Nat.le_refl _ | exact Nat.le_of_ble_eq_true rfl) | ((with_reducible apply a_eqA); rfl; rfl; rfl) | ((with_reducible apply a_loadAI); rfl; first | rfl | simp) | ((with_reducible apply w_new); first | rfl | simp) | ((with_reducible apply a_store); rfl; rfl; rfl; rfl; (first | exact Nat.le_refl _ | simp); (first | rfl | simp); (first | rfl | simp)) | ((with_reducible apply a_lenS); rfl; intro _) | ((with_reducible apply a_len); rfl; (first | rfl | simp); intro _) | ((with_reducible apply a_build); rfl) | ((with_reducible apply a_extr); rfl; rfl) | ((with_reducible apply a_cond); rfl) | ((with_reducible apply a_guard); rfl) | (with_reducible intro _))
      refine ⟨k + 1, q, ?_, by omega⟩
      rw [d1] at pr ⊢
      exact Wk.back (n := 0) (M := 1) (by simp) (by simp) (by simp; omega) (by simp) (by simp [entB]) (by
        have hb := Bd_pure 1 (.sl 5 (R ++ tokR kd tx nu un' fl :: (R2 ++ [tokR (closK kd) [] 0 [] false]))) (by rw [Aw.Pure]; exact pr)
        rw [Bd] at hb
        simp [Bd, hb])
  · have hk : k = l.length := by omega
    subst hk
    rw [List.take_length]
    refine a_cond0 rfl (by simp) ?_
    refine Gives.of ?_
    have pr := toksVs_pure l
    simp [tl, tlA]
    rw [tlR_pure _ _ _ _ pr]
theorem con_Tokens (l : List Vl) (hz : zVs l < 2 ^ 39) : Con Tryd.prog 56 [.sl 6 (encVs l)] (.sl 5 (toksVs l)) := by
  have : ∀ n, n < 2 ^ 39 → TkP n := by
    intro n
    induction n using Nat.strongRecOn with
    | _ n ih => exact fun hn => tk_step hn fun n' h => ih n' h (by omega)
  exact this _ hz l (Nat.le_refl _)
theorem con_rnCheck (l : List Vl) (hz : zVs l < 2 ^ 39) : Con Tryd.prog 40 [.sl 6 (encVs l)] (int (checkV l)) := by
  refine (V40 _).gives (by simp [pureVs]) (by simp) ?_
  unfold W40
  have t1 := toksVs_len l
  repeat' (first | (with_reducible first | apply w_let | apply w_and | refine And.intro True.intro ?_) | ((with_reducible first | apply a_lss | apply a_leq | apply a_gtr | apply a_geq | apply a_eql | apply a_neq); rfl; rfl) | ((with_reducible first | apply a_eqlS | apply a_neqS | apply a_eqlB | apply a_neqB); rfl; rfl) | ((with_reducible apply w_add); rfl; rfl; first | assumption | (unfold inI; omega)) | ((with_reducible apply w_sub); rfl; rfl; first | assumption | (unfold inI; omega)) | ((with_reducible apply a_not); rfl) | ((with_reducible apply w_pick_t); rfl) | ((with_reducible apply w_pick_f); rfl) | ((with_reducible apply a_cond1); rfl; first | rfl | assumption) | ((with_reducible apply a_cond0); rfl; first | rfl | assumption) | ((with_reducible apply a_guard1); rfl; first | rfl | assumption) | ((with_reducible apply a_guard0); rfl; first | rfl | assumption) | ((with_reducible apply w_guard_u); rfl) | ((with_reducible apply a_pick1); rfl; first | rfl | assumption) | ((with_reducible apply a_pick0); rfl; first | rfl | assumption) | ((with_reducible apply a_pickN); rfl) | ((with_reducible apply a_condN); rfl) | ((with_reducible apply a_guardN); rfl) | ((with_reducible apply w_fad); rfl) | ((with_reducible apply a_fadI); rfl) | ((with_reducible apply w_load); rfl; rfl; rfl) | ((with_reducible apply w_loadI); rfl) | ((with_reducible apply w_loadA); rfl; rfl; first | exact Nat.le_refl _ | exact Nat.le_of_ble_eq_true rfl) | ((with_reducible apply a_eqA); rfl; rfl; rfl) | ((with_reducible apply a_loadAI); rfl; first | rfl | simp) | ((with_reducible apply w_new); first | rfl | simp) | ((with_reducible apply a_store); rfl; rfl; rfl; rfl; (first | exact Nat.le_refl _ | simp); (first | rfl | simp); (first | rfl | simp)) | ((with_reducible apply a_lenS); rfl; intro _) | ((with_reducible apply a_len); rfl; (first | rfl | simp); intro _) | ((with_reducible apply a_build); rfl) | ((with_reducible apply a_extr); rfl; rfl) | (refine iCall_con (by kernel_rfl) (con_Deep l (by omega)) ?_) | (refine iCall_con (by kernel_rfl) (con_Tokens l hz) ?_) | (refine iCall_con (by kernel_rfl) (con_shaped l 0 (by omega)) ?_) | ((with_reducible apply a_cond); rfl) | ((with_reducible apply a_guard); rfl) | (with_reducible intro _))
  all_goals
    refine .pure (by simp) ?_
    simp only [AV.v.injEq, Value.int.injEq, true_and]
    simp [t1] at *
    simp [checkV, *]
    try omega
omit [Laid] in
theorem a_lenSQ {x : AV} {l : List UInt8} {K : AV → Prop} (e : x = .str l) (q : K (int l.length)) : iLenSQ x K := by subst e; exact q
def SzP (n : Nat) : Prop := ∀ (l : List Vl) (lim : Int), zVs l ≤ n → 0 ≤ lim → lim ≤ 2 ^ 50 → Con Tryd.prog 12 [.sl 6 (encVs l), int lim] (int (szVs lim 0 l))
set_option maxHeartbeats 4000000 in
theorem sz_step {n : Nat} (hn : n < 2 ^ 39) (hP : ∀ n', n' < n → SzP n') : SzP n := by
  intro l lim hz hl1 hl2
  refine (V12 _ _).gives (by simp [pureVs]) (by simp) ?_
  unfold W12
  have hlen : (encVs l).length = l.length := by simp [encVs_map]
  have hll := zVs_len l
  refine iLoop_of (α := Nat) (fun k => k ≤ l.length) (fun k => [int (szVs lim 0 (l.take k)), int k]) (fun _ => []) (fun k => l.length - k) 0 (by simp) (by simpa [szVs] using Wk.refl _ _ _ (by simp)) ?_
  intro k hk
  refine a_len (n := l.length) rfl hlen fun _ => ?_
  refine a_lss rfl rfl ?_
  rcases Nat.lt_or_ge k l.length with q | q
  · obtain ⟨⟨kd, tx, nu, un', fl, l2⟩, hx⟩ : ∃ x, l[k]? = some x := ⟨l[k], List.getElem?_eq_getElem q⟩
    have hin : inI ((k : Int) + 1) := by unfold inI; omega
    have hzv := zVs_mem (List.mem_of_getElem? hx)
    rw [zV] at hzv
    have q1 : decide ((k : Int) < l.length) = true := by simpa using q
    have b0 := zVs_take_le l k
    obtain ⟨b1, b2, _⟩ := szVs_le lim 0 (l.take k)
    by_cases hle : szVs lim 0 (l.take k) ≤ lim
    · have g0 : decide (szVs lim 0 (l.take k) ≤ lim) = true := by simpa using hle
      have d1 := szVs_take hx hle
      rw [szV] at d1
      obtain ⟨S, hS⟩ : ∃ S, szVs lim 0 (l.take k) = S := ⟨_, rfl⟩
      rw [hS] at d1 g0 b1 b2 hle ⊢
      have hrec := hP (zVs l2) (by omega) l2 (lim - S) (Nat.le_refl _) (by omega) (by omega)
      obtain ⟨c1, c2, _⟩ := szVs_le (lim - S) 0 l2
      have hrec2 : Con Tryd.prog 12 [.sl 6 (encVs l2), int (lim - S)] (int (szVs (lim - S) 0 l2)) := hrec
      repeat' (first | (with_reducible first | apply w_let | apply w_and | refine And.intro True.intro ?_) | ((with_reducible first | apply a_lss | apply a_leq | apply a_gtr | apply a_geq | apply a_eql | apply a_neq); rfl; rfl) | ((with_reducible first | apply a_eqlS | apply a_neqS | apply a_eqlB | apply a_neqB); rfl; rfl) | ((with_reducible apply w_add); rfl; rfl; first | assumption | (unfold inI; omega)) | ((with_reducible apply w_sub); rfl; rfl; first | assumption | (unfold inI; omega)) | ((with_reducible apply a_not); rfl) | ((with_reducible apply w_pick_t); rfl) | ((with_reducible apply w_pick_f); rfl) | ((with_reducible apply a_cond1); rfl; first | rfl | assumption) | ((with_reducible apply a_cond0); rfl; first | rfl | assumption) | ((with_reducible apply a_guard1); rfl; first | rfl | assumption) | ((with_reducible apply a_guard0); rfl; first | rfl | assumption) | ((with_reducible apply w_guard_u); rfl) | ((with_reducible apply a_pick1); rfl; first | rfl | assumption) | ((with_reducible apply a_pick0); rfl; first | rfl | assumption) | ((with_reducible apply a_pickN); rfl) | ((with_reducible apply a_condN); rfl) | ((with_reducible apply a_guardN); rfl) | ((with_reducible apply w_fad); rfl) | ((with_reducible apply a_fadI); rfl) | ((with_reducible apply w_load); rfl; rfl; rfl) | ((with_reducible apply w_loadI); rfl) | ((with_reducible apply w_loadA); rfl; rfl; first | exact Nat.le_refl _ | exact Nat.le_of_ble_eq_true rfl) | ((with_reducible apply a_eqA); rfl; rfl; rfl) | ((with_reducible apply a_loadAI); rfl; first | rfl | simp) | ((with_reducible apply w_new); first | rfl | simp) | ((with_reducible apply a_store); rfl; rfl; rfl; rfl; (first | exact Nat.le_refl _ | simp); (first | rfl | simp); (first | rfl | simp)) | ((with_reducible apply a_lenS); rfl; intro _) | ((with_reducible apply a_len); rfl; (first | rfl | simp); intro _) | ((with_reducible apply a_build); rfl) | ((with_reducible apply a_extr); rfl; rfl) | (refine a_idx rfl (encVs_map l) rfl hx ?_) | (refine a_lenSQ rfl ?_) | (refine w_callQ rfl (by kernel_rfl) hrec2 ?_) | ((with_reducible apply a_cond); rfl) | ((with_reducible apply a_guard); rfl) | (with_reducible intro _))
      exact ⟨k + 1, q, Wk.le (by simp) (by rw [d1]; simp), by omega⟩
    · have g0 : decide (szVs lim 0 (l.take k) ≤ lim) = false := by simpa using hle
      repeat' (first | (with_reducible first | apply w_let | apply w_and | refine And.intro True.intro ?_) | ((with_reducible first | apply a_lss | apply a_leq | apply a_gtr | apply a_geq | apply a_eql | apply a_neq); rfl; rfl) | ((with_reducible first | apply a_eqlS | apply a_neqS | apply a_eqlB | apply a_neqB); rfl; rfl) | ((with_reducible apply w_add); rfl; rfl; first | assumption | (unfold inI; omega)) | ((with_reducible apply w_sub); rfl; rfl; first | assumption | (unfold inI; omega)) | ((with_reducible apply a_not); rfl) | ((with_reducible apply w_pick_t); rfl) | ((with_reducible apply w_pick_f); rfl) | ((with_reducible apply a_cond1); rfl; first | rfl | assumption) | ((with_reducible apply a_cond0); rfl; first | rfl | assumption) | ((with_reducible apply a_guard1); rfl; first | rfl | assumption) | ((with_reducible apply a_guard0); rfl; first | rfl | assumption) | ((with_reducible apply w_guard_u); rfl) | ((with_reducible apply a_pick1); rfl; first | rfl | assumption) | ((with_reducible apply a_pick0); rfl; first | rfl | assumption) | ((with_reducible apply a_pickN); rfl) | ((with_reducible apply a_condN); rfl) | ((with_reducible apply a_guardN); rfl) | ((with_reducible apply w_fad); rfl) | ((with_reducible apply a_fadI); rfl) | ((with_reducible apply w_load); rfl; rfl; rfl) | ((with_reducible apply w_loadI); rfl) | ((with_reducible apply w_loadA); rfl; rfl; first | exact Nat.le_refl _ | exact Nat.le_of_ble_eq_true rfl) | ((with_reducible apply a_eqA); rfl; rfl; rfl) | ((with_reducible apply a_loadAI); rfl; first | rfl | simp) | ((with_reducible apply w_new); first | rfl | simp) | ((with_reducible apply a_store); rfl; rfl; rfl; rfl; (first | exact Nat.le_refl _ | simp); (first | rfl | simp); (first | rfl | simp)) | ((with_reducible apply a_lenS); rfl; intro _) | ((with_reducible apply a_len); rfl; (first | rfl | simp); intro _) | ((with_reducible apply a_build); rfl) | ((with_reducible apply a_extr); rfl; rfl) | ((with_reducible apply a_cond); rfl) | ((with_reducible apply a_guard); rfl) | (with_reducible intro _))
      exact .pure (by simp) (by rw [szVs_cut (l := l) (k := k) (by omega)]; rfl)
  · have hk : k = l.length := by omega
    subst hk
    rw [List.take_length]
    have q1 : decide ((l.length : Int) < l.length) = false := by simp
    repeat' (first | (with_reducible first | apply w_let | apply w_and | refine And.intro True.intro ?_) | ((with_reducible first | apply a_lss | apply a_leq | apply a_gtr | apply a_geq | apply a_eql | apply a_neq); rfl; rfl) | ((with_reducible first | apply a_eqlS | apply a_neqS | apply a_eqlB | apply a_neqB); rfl; rfl) | ((with_reducible apply w_add); rfl; rfl; first | assumption | (unfold inI; omega)) | ((with_reducible apply w_sub); rfl; rfl; first | assumption | (unfold inI; omega)) | ((with_reducible apply a_not); rfl) | ((with_reducible apply w_pick_t); rfl) | ((with_reducible apply w_pick_f); rfl) | ((with_reducible apply a_cond1); rfl; first | rfl | assumption) | ((with_reducible apply a_cond0); rfl; first | rfl | assumption) | ((with_reducible apply a_guard1); rfl; first | rfl | assumption) | ((with_reducible apply a_guard0); rfl; first | rfl | assumption) | ((with_reducible apply w_guard_u); rfl) | ((with_reducible apply a_pick1); rfl; first | rfl | assumption) | ((with_reducible apply a_pick0); rfl; first | rfl | assumption) | ((with_reducible apply a_pickN); rfl) | ((with_reducible apply a_condN); rfl) | ((with_reducible apply a_guardN); rfl) | ((with_reducible apply w_fad); rfl) | ((with_reducible apply a_fadI); rfl) | ((with_reducible apply w_load); rfl; rfl; rfl) | ((with_reducible apply w_loadI); rfl) | ((with_reducible apply w_loadA); rfl; rfl; first | exact Nat.le_refl _ | exact Nat.le_of_ble_eq_true rfl) | ((with_reducible apply a_eqA); rfl; rfl; rfl) | ((with_reducible apply a_loadAI); rfl; first | rfl | simp) | ((with_reducible apply w_new); first | rfl | simp) | ((with_reducible apply a_store); rfl; rfl; rfl; rfl; (first | exact Nat.le_refl _ | simp); (first | rfl | simp); (first | rfl | simp)) | ((with_reducible apply a_lenS); rfl; intro _) | ((with_reducible apply a_len); rfl; (first | rfl | simp); intro _) | ((with_reducible apply a_build); rfl) | ((with_reducible apply a_extr); rfl; rfl) | ((with_reducible apply a_cond); rfl) | ((with_reducible apply a_guard); rfl) | (with_reducible intro _))
    exact .pure (by simp) rfl
theorem con_Size (l : List Vl) (lim : Int) (hz : zVs l < 2 ^ 39) (h1 : 0 ≤ lim) (h2 : lim ≤ 2 ^ 50) : Con Tryd.prog 12 [.sl 6 (encVs l), int lim] (int (szVs lim 0 l)) := by
  have : ∀ n, n < 2 ^ 39 → SzP n := by
    intro n
    induction n using Nat.strongRecOn with
    | _ n ih => exact fun hn => sz_step hn fun n' h => ih n' h (by omega)
  exact this _ hz l lim (Nat.le_refl _) h1 h2
def greatV (l : List Vl) : Bool := decide (300 < szVs 300 0 l) || decide ((40 : Int) < deepVs l)
theorem con_vGreat (l : List Vl) (hz : zVs l < 2 ^ 39) : Con Tryd.prog 11 [.sl 6 (encVs l)] (bool (greatV l)) := by
  refine (V11 _).gives (by simp [pureVs]) (by simp) ?_
  unfold W11
  repeat' (first | (with_reducible first | apply w_let | apply w_and | refine And.intro True.intro ?_) | ((with_reducible first | apply a_lss | apply a_leq | apply a_gtr | apply a_geq | apply a_eql | apply a_neq); rfl; rfl) | ((with_reducible first | apply a_eqlS | apply a_neqS | apply a_eqlB | apply a_neqB); rfl; rfl) | ((with_reducible apply w_add); rfl; rfl; first | assumption | (unfold inI; omega)) | ((with_reducible apply w_sub); rfl; rfl; first | assumption | (unfold inI; omega)) | ((with_reducible apply a_not); rfl) | ((with_reducible apply w_pick_t); rfl) | ((with_reducible apply w_pick_f); rfl) | ((with_reducible apply a_cond1); rfl; first | rfl | assumption) | ((with_reducible apply a_cond0); rfl; first | rfl | assumption) | ((with_reducible apply a_guard1); rfl; first | rfl | assumption) | ((with_reducible apply a_guard0); rfl; first | rfl | assumption) | ((with_reducible apply w_guard_u); rfl) | ((with_reducible apply a_pick1); rfl; first | rfl | assumption) | ((with_reducible apply a_pick0); rfl; first | rfl | assumption) | ((with_reducible apply a_pickN); rfl) | ((with_reducible apply a_condN); rfl) | ((with_reducible apply a_guardN); rfl) | ((with_reducible apply w_fad); rfl) | ((with_reducible apply a_fadI); rfl) | ((with_reducible apply w_load); rfl; rfl; rfl) | ((with_reducible apply w_loadI); rfl) | ((with_reducible apply w_loadA); rfl; rfl; first | exact Nat.le_refl _ | exact Nat.le_of_ble_eq_true rfl) | ((with_reducible apply a_eqA); rfl; rfl; rfl) | ((with_reducible apply a_loadAI); rfl; first | rfl | simp) | ((with_reducible apply w_new); first | rfl | simp) | ((with_reducible apply a_store); rfl; rfl; rfl; rfl; (first | exact Nat.le_refl _ | simp); (first | rfl | simp); (first | rfl | simp)) | ((with_reducible apply a_lenS); rfl; intro _) | ((with_reducible apply a_len); rfl; (first | rfl | simp); intro _) | ((with_reducible apply a_build); rfl) | ((with_reducible apply a_extr); rfl; rfl) | (refine iCall_con (by kernel_rfl) (con_Size l 300 hz (by omega) (by omega)) ?_) | (refine iCall_con (by kernel_rfl) (con_Deep l (by omega)) ?_) | ((with_reducible apply a_cond); rfl) | ((with_reducible apply a_guard); rfl) | (with_reducible intro _))
  all_goals
    refine .pure (by simp) ?_
    simp only [nx_zero, nx_one, AV.v.injEq, Value.bool.injEq, greatV]
    first
      | (simp_all; done)
      | (simp_all; omega)
      | grind
end Go.Proofs.YtmbpiloibhbmbaaDoor
end
