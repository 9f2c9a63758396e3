/-
  What a selector weighs: the reference.
  No conditions: contracts.
-/
import Derived.Test.YtlapkmobmgffoaaG1
import Derived.Test.YtlapkmobmgffoaaL5
set_option linter.unusedVariables false
set_option linter.unusedSimpArgs false
namespace Go.Proofs.Ytlapkmobmgffoaa
open Go Go.Aw Go.Sel
set_option maxRecDepth 100000
variable [Laid]
theorem con_rAdd (a b : Wt3) (hin : inW (addW a b)) : Con Try.prog 24 [w3 a, w3 b] (w3 (addW a b)) := by
  refine (V24 _ _).gives (by simp) (by simp) ?_
  unfold W24
  obtain ⟨h0, h1, h2⟩ := hin
  simp only [addW] at h0 h1 h2
  simp [w3, h0, h1, h2]
  exact .pure (by simp) (by simp [w3, addW])
theorem con_rOrder (a b : Wt3) : Con Try.prog 28 [w3 a, w3 b] (int (ordW a b)) := by
  refine (V28 _ _).gives (by simp) (by simp) ?_
  unfold W28
  simp [w3]
  refine iLoop_of (α := Nat) (fun k => k ≤ 3 ∧ (0 < k → a.1 = b.1) ∧ (1 < k → a.2.1 = b.2.1) ∧ (2 < k → a.2.2 = b.2.2)) (fun k => [int k]) (fun _ => [.blk ⟨31, [int a.1, int a.2.1, int a.2.2], true⟩, .blk ⟨31, [int b.1, int b.2.1, int b.2.2], true⟩]) (fun k => 3 - k) 0 (by simp) (Wk.refl _ _ _ (by simp)) ?_
  rintro k ⟨hk, h0, h1, h2⟩
  obtain rfl | rfl | rfl | rfl : k = 0 ∨ k = 1 ∨ k = 2 ∨ k = 3 := by omega
  all_goals simp
  · exact ⟨fun p => .pure (by simp) (by simp [ordW, cmpI, p]), fun p => ⟨fun q => .pure (by simp) (by simp [ordW, cmpI, q, show ¬ a.1 < b.1 by omega]), fun q => ⟨by simp [inI], 1, ⟨by omega, by omega, by omega, by omega⟩, Wk.refl _ _ _ (by simp), by omega⟩⟩⟩
  · have e0 := h0 (by omega)
    exact ⟨fun p => .pure (by simp) (by simp [ordW, cmpI, p, e0]), fun p => ⟨fun q => .pure (by simp) (by simp [ordW, cmpI, q, e0, show ¬ a.2.1 < b.2.1 by omega]), fun q => ⟨by simp [inI], 2, ⟨by omega, by omega, by omega, by omega⟩, Wk.refl _ _ _ (by simp), by omega⟩⟩⟩
  · have e0 := h0 (by omega)
    have e1 := h1 (by omega)
    exact ⟨fun p => .pure (by simp) (by simp [ordW, cmpI, p, e0, e1]), fun p => ⟨fun q => .pure (by simp) (by simp [ordW, cmpI, q, e0, e1, show ¬ a.2.2 < b.2.2 by omega]), fun q => ⟨by simp [inI], 3, ⟨by omega, by omega, by omega, by omega⟩, Wk.refl _ _ _ (by simp), by omega⟩⟩⟩
  · have e0 := h0 (by omega)
    have e1 := h1 (by omega)
    have e2 := h2 (by omega)
    exact .pure (by simp) (by simp [ordW, cmpI, e0, e1, e2])
def RfX (n : Nat) : Prop := ∀ x : Cx, zX x ≤ n → Con Try.prog 14 [.agg (encX x)] (w3 (wX x))
def RfM (n : Nat) : Prop := ∀ l : List Cx, zXs l ≤ n → Con Try.prog 16 [.sl 3 (encXs l)] (w3 (wXs l))
theorem con_rsimple {n : Nat} (hn : n < 2 ^ 40) (hM : RfM n) : ∀ s : Sm, zS s ≤ n + 1 → Con Try.prog 25 [.agg (encS s)] (w3 (wS s)) := by
  rintro ⟨kd, na, o, v, f, a, b, w, l2⟩ hz
  rw [zS] at hz
  have hmost := hM l2 (by omega)
  have bL := (wXs_bd l2).mono (n := 2 ^ 40) (by omega)
  have hw : inW (addW (0, 1, 0) (wXs l2)) := by unfold bdW at bL; unfold inW addW inI; simp only; omega
  have hadd := con_rAdd (0, 1, 0) (wXs l2) hw
  refine (V25 _).gives (by simp [pureS]) (by simp) ?_
  unfold W25
  rw [encS]
  rcases (by omega : kd = 12 ∨ kd = 1 ∨ kd = 11 ∨ kd = 13 ∨ kd = 14 ∨ (kd ≠ 12 ∧ kd ≠ 1 ∧ kd ≠ 11 ∧ kd ≠ 13 ∧ kd ≠ 14)) with rfl | rfl | rfl | rfl | rfl | ⟨f12, f1, f11, f13, f14⟩
  · rw [wS, if_pos rfl]
    repeat' (first
      | (with_reducible apply w_let)
      | (with_reducible apply w_and)
      | (with_reducible refine And.intro True.intro ?_)
      | ((with_reducible apply a_lss); rfl; rfl)
      | ((with_reducible apply a_leq); rfl; rfl)
      | ((with_reducible apply a_gtr); rfl; rfl)
      | ((with_reducible apply a_geq); rfl; rfl)
      | ((with_reducible apply a_eql); rfl; rfl)
      | ((with_reducible apply a_neq); rfl; rfl)
      | ((with_reducible apply a_eqlS); rfl; rfl)
      | ((with_reducible apply a_neqS); rfl; rfl)
      | ((with_reducible apply a_eqlB); rfl; rfl)
      | ((with_reducible apply a_neqB); rfl; rfl)
      | ((with_reducible apply w_add); rfl; rfl; first | assumption | (unfold inI; omega))
      | ((with_reducible apply w_sub); rfl; rfl; first | assumption | (unfold inI; omega))
      | ((with_reducible apply a_not); rfl)
      | ((with_reducible apply w_pick_t); rfl)
      | ((with_reducible apply w_pick_f); rfl)
      | ((with_reducible apply a_cond1); rfl; first | rfl | assumption)
      | ((with_reducible apply a_cond0); rfl; first | rfl | assumption)
      | ((with_reducible apply a_guard1); rfl; first | rfl | assumption)
      | ((with_reducible apply a_guard0); rfl; first | rfl | assumption)
      | ((with_reducible apply w_guard_u); rfl)
      | ((with_reducible apply a_pick1); rfl; first | rfl | assumption)
      | ((with_reducible apply a_pick0); rfl; first | rfl | assumption)
      | ((with_reducible apply a_pickN); rfl)
      | ((with_reducible apply a_condN); rfl)
      | ((with_reducible apply a_guardN); rfl)
      | ((with_reducible apply w_fad); rfl)
      | ((with_reducible apply a_fadI); rfl)
      | ((with_reducible apply w_load); rfl; rfl; rfl)
      | ((with_reducible apply w_loadI); rfl)
      | ((with_reducible apply w_loadA); rfl; rfl; first | exact Nat.le_refl _ | exact Nat.le_of_ble_eq_true rfl)
      | ((with_reducible apply a_eqA); rfl; rfl; rfl)
      | ((with_reducible apply a_loadAI); rfl; first | rfl | simp)
      | ((with_reducible apply w_new); first | rfl | simp)
      | ((with_reducible apply a_store); rfl; rfl; rfl; rfl; (first | exact Nat.le_refl _ | simp); (first | rfl | simp); (first | rfl | simp))
      | ((with_reducible apply a_lenS); rfl; intro _)
      | ((with_reducible apply a_len); rfl; (first | rfl | simp); intro _)
      | ((with_reducible apply a_build); rfl)
      | ((with_reducible apply a_extr); rfl; rfl)
      | ((with_reducible apply a_cond); rfl)
      | ((with_reducible apply a_guard); rfl)
      | (with_reducible intro _))
    exact .pure (by simp) (by simp [w3, w0, setAll])
  · rw [wS, if_neg (by omega), if_pos rfl]
    repeat' (first
      | (with_reducible apply w_let)
      | (with_reducible apply w_and)
      | (with_reducible refine And.intro True.intro ?_)
      | ((with_reducible apply a_lss); rfl; rfl)
      | ((with_reducible apply a_leq); rfl; rfl)
      | ((with_reducible apply a_gtr); rfl; rfl)
      | ((with_reducible apply a_geq); rfl; rfl)
      | ((with_reducible apply a_eql); rfl; rfl)
      | ((with_reducible apply a_neq); rfl; rfl)
      | ((with_reducible apply a_eqlS); rfl; rfl)
      | ((with_reducible apply a_neqS); rfl; rfl)
      | ((with_reducible apply a_eqlB); rfl; rfl)
      | ((with_reducible apply a_neqB); rfl; rfl)
      | ((with_reducible apply w_add); rfl; rfl; first | assumption | (unfold inI; omega))
      | ((with_reducible apply w_sub); rfl; rfl; first | assumption | (unfold inI; omega))
      | ((with_reducible apply a_not); rfl)
      | ((with_reducible apply w_pick_t); rfl)
      | ((with_reducible apply w_pick_f); rfl)
      | ((with_reducible apply a_cond1); rfl; first | rfl | assumption)
      | ((with_reducible apply a_cond0); rfl; first | rfl | assumption)
      | ((with_reducible apply a_guard1); rfl; first | rfl | assumption)
      | ((with_reducible apply a_guard0); rfl; first | rfl | assumption)
      | ((with_reducible apply w_guard_u); rfl)
      | ((with_reducible apply a_pick1); rfl; first | rfl | assumption)
      | ((with_reducible apply a_pick0); rfl; first | rfl | assumption)
      | ((with_reducible apply a_pickN); rfl)
      | ((with_reducible apply a_condN); rfl)
      | ((with_reducible apply a_guardN); rfl)
      | ((with_reducible apply w_fad); rfl)
      | ((with_reducible apply a_fadI); rfl)
      | ((with_reducible apply w_load); rfl; rfl; rfl)
      | ((with_reducible apply w_loadI); rfl)
      | ((with_reducible apply w_loadA); rfl; rfl; first | exact Nat.le_refl _ | exact Nat.le_of_ble_eq_true rfl)
      | ((with_reducible apply a_eqA); rfl; rfl; rfl)
      | ((with_reducible apply a_loadAI); rfl; first | rfl | simp)
      | ((with_reducible apply w_new); first | rfl | simp)
      | ((with_reducible apply a_store); rfl; rfl; rfl; rfl; (first | exact Nat.le_refl _ | simp); (first | rfl | simp); (first | rfl | simp))
      | ((with_reducible apply a_lenS); rfl; intro _)
      | ((with_reducible apply a_len); rfl; (first | rfl | simp); intro _)
      | ((with_reducible apply a_build); rfl)
      | ((with_reducible apply a_extr); rfl; rfl)
      | ((with_reducible apply a_cond); rfl)
      | ((with_reducible apply a_guard); rfl)
      | (with_reducible intro _))
    exact .pure (by simp [setAll]) (by simp [w3, setAll])
  iterate 3
    · rw [wS, if_neg (by omega), if_neg (by omega), kindW, if_pos (by omega), zero_addW]
      repeat' (first
        | (with_reducible apply w_let)
        | (with_reducible apply w_and)
        | (with_reducible refine And.intro True.intro ?_)
        | ((with_reducible apply a_lss); rfl; rfl)
        | ((with_reducible apply a_leq); rfl; rfl)
        | ((with_reducible apply a_gtr); rfl; rfl)
        | ((with_reducible apply a_geq); rfl; rfl)
        | ((with_reducible apply a_eql); rfl; rfl)
        | ((with_reducible apply a_neq); rfl; rfl)
        | ((with_reducible apply a_eqlS); rfl; rfl)
        | ((with_reducible apply a_neqS); rfl; rfl)
        | ((with_reducible apply a_eqlB); rfl; rfl)
        | ((with_reducible apply a_neqB); rfl; rfl)
        | ((with_reducible apply w_add); rfl; rfl; first | assumption | (unfold inI; omega))
        | ((with_reducible apply w_sub); rfl; rfl; first | assumption | (unfold inI; omega))
        | ((with_reducible apply a_not); rfl)
        | ((with_reducible apply w_pick_t); rfl)
        | ((with_reducible apply w_pick_f); rfl)
        | ((with_reducible apply a_cond1); rfl; first | rfl | assumption)
        | ((with_reducible apply a_cond0); rfl; first | rfl | assumption)
        | ((with_reducible apply a_guard1); rfl; first | rfl | assumption)
        | ((with_reducible apply a_guard0); rfl; first | rfl | assumption)
        | ((with_reducible apply w_guard_u); rfl)
        | ((with_reducible apply a_pick1); rfl; first | rfl | assumption)
        | ((with_reducible apply a_pick0); rfl; first | rfl | assumption)
        | ((with_reducible apply a_pickN); rfl)
        | ((with_reducible apply a_condN); rfl)
        | ((with_reducible apply a_guardN); rfl)
        | ((with_reducible apply w_fad); rfl)
        | ((with_reducible apply a_fadI); rfl)
        | ((with_reducible apply w_load); rfl; rfl; rfl)
        | ((with_reducible apply w_loadI); rfl)
        | ((with_reducible apply w_loadA); rfl; rfl; first | exact Nat.le_refl _ | exact Nat.le_of_ble_eq_true rfl)
        | ((with_reducible apply a_eqA); rfl; rfl; rfl)
        | ((with_reducible apply a_loadAI); rfl; first | rfl | simp)
        | ((with_reducible apply w_new); first | rfl | simp)
        | ((with_reducible apply a_store); rfl; rfl; rfl; rfl; (first | exact Nat.le_refl _ | simp); (first | rfl | simp); (first | rfl | simp))
        | ((with_reducible apply a_lenS); rfl; intro _)
        | ((with_reducible apply a_len); rfl; (first | rfl | simp); intro _)
        | ((with_reducible apply a_build); rfl)
        | ((with_reducible apply a_extr); rfl; rfl)
        | (refine iCall_con (by kernel_rfl) (hmost) ?_)
        | ((with_reducible apply a_store); rfl; rfl; rfl; rfl; (simp [w3]); rfl; rfl)
        | ((with_reducible apply a_cond); rfl)
        | ((with_reducible apply a_guard); rfl)
        | (with_reducible intro _))
      exact .pure (by simp [setAll, w3]) (by simp [w3, setAll])
  · rw [wS, if_neg f12, if_neg f1, kindW, if_neg (by omega)]
    have g12 : decide (kd = 12) = false := by simpa using f12
    have g1 : decide (kd = 1) = false := by simpa using f1
    have g11 : decide (kd = 11) = false := by simpa using f11
    have g13 : decide (kd = 13) = false := by simpa using f13
    have g14 : decide (kd = 14) = false := by simpa using f14
    repeat' (first
      | (with_reducible apply w_let)
      | (with_reducible apply w_and)
      | (with_reducible refine And.intro True.intro ?_)
      | ((with_reducible apply a_lss); rfl; rfl)
      | ((with_reducible apply a_leq); rfl; rfl)
      | ((with_reducible apply a_gtr); rfl; rfl)
      | ((with_reducible apply a_geq); rfl; rfl)
      | ((with_reducible apply a_eql); rfl; rfl)
      | ((with_reducible apply a_neq); rfl; rfl)
      | ((with_reducible apply a_eqlS); rfl; rfl)
      | ((with_reducible apply a_neqS); rfl; rfl)
      | ((with_reducible apply a_eqlB); rfl; rfl)
      | ((with_reducible apply a_neqB); rfl; rfl)
      | ((with_reducible apply w_add); rfl; rfl; first | assumption | (unfold inI; omega))
      | ((with_reducible apply w_sub); rfl; rfl; first | assumption | (unfold inI; omega))
      | ((with_reducible apply a_not); rfl)
      | ((with_reducible apply w_pick_t); rfl)
      | ((with_reducible apply w_pick_f); rfl)
      | ((with_reducible apply a_cond1); rfl; first | rfl | assumption)
      | ((with_reducible apply a_cond0); rfl; first | rfl | assumption)
      | ((with_reducible apply a_guard1); rfl; first | rfl | assumption)
      | ((with_reducible apply a_guard0); rfl; first | rfl | assumption)
      | ((with_reducible apply w_guard_u); rfl)
      | ((with_reducible apply a_pick1); rfl; first | rfl | assumption)
      | ((with_reducible apply a_pick0); rfl; first | rfl | assumption)
      | ((with_reducible apply a_pickN); rfl)
      | ((with_reducible apply a_condN); rfl)
      | ((with_reducible apply a_guardN); rfl)
      | ((with_reducible apply w_fad); rfl)
      | ((with_reducible apply a_fadI); rfl)
      | ((with_reducible apply w_load); rfl; rfl; rfl)
      | ((with_reducible apply w_loadI); rfl)
      | ((with_reducible apply w_loadA); rfl; rfl; first | exact Nat.le_refl _ | exact Nat.le_of_ble_eq_true rfl)
      | ((with_reducible apply a_eqA); rfl; rfl; rfl)
      | ((with_reducible apply a_loadAI); rfl; first | rfl | simp)
      | ((with_reducible apply w_new); first | rfl | simp)
      | ((with_reducible apply a_store); rfl; rfl; rfl; rfl; (first | exact Nat.le_refl _ | simp); (first | rfl | simp); (first | rfl | simp))
      | ((with_reducible apply a_lenS); rfl; intro _)
      | ((with_reducible apply a_len); rfl; (first | rfl | simp); intro _)
      | ((with_reducible apply a_build); rfl)
      | ((with_reducible apply a_extr); rfl; rfl)
      | (refine iCall_con (by kernel_rfl) (hmost) ?_)
      | (refine iCall_con (by kernel_rfl) (hadd) ?_)
      | ((with_reducible apply a_store); rfl; rfl; rfl; rfl; (simp [w3]); rfl; rfl)
      | ((with_reducible apply a_cond); rfl)
      | ((with_reducible apply a_guard); rfl)
      | (with_reducible intro _))
    exact .pure (by simp [setAll, w3]) (by simp [w3, setAll])
theorem rfM_step {n : Nat} (hn : n < 2 ^ 40) (hX : RfX n) : RfM n := by
  intro l hz
  refine (V16 _).gives (by simp [pureXs]) (by simp) ?_
  unfold W16
  have hlen : (encXs l).length = l.length := by simp [encXs_map]
  have hxl := zXs_len l
  refine w_new (by simp) ?_
  refine w_new (by simp) ?_
  refine iLoop_of (α := Nat) (fun k => k ≤ l.length) (fun k => [int k]) (fun k => [.blk ⟨31, [int 0, int 0, int 0], true⟩, .blk ⟨31, w3c (wM w0 (l.take k)), true⟩]) (fun k => l.length - k) 0 (by simp) (by simpa [wM, w0, w3c] using Wk.refl _ _ _ (by simp)) ?_
  intro k hk
  refine a_len (n := l.length) rfl hlen fun _ => ?_
  refine a_lss rfl rfl ?_
  rcases Nat.lt_or_ge k l.length with q | q
  · obtain ⟨x, hx⟩ : ∃ s, l[k]? = some s := ⟨l[k], List.getElem?_eq_getElem q⟩
    have hin : inI ((k : Int) + 1) := by unfold inI; omega
    have hzs : zX x ≤ n := by have := zXs_mem (List.mem_of_getElem? hx); omega
    have nxt : wM w0 (l.take (k + 1)) = maxW (wM w0 (l.take k)) (wX x) := by
      rw [wM_fold, wM_fold, List.take_add_one, hx]; simp
    obtain ⟨M, hM⟩ : ∃ M, wM w0 (l.take k) = M := ⟨_, rfl⟩
    rw [hM] at nxt ⊢
    refine a_cond1 rfl (by simpa using q) ?_
    refine w_let ?_
    refine a_idx rfl (encXs_map l) rfl hx ?_
    refine a_loadAI rfl (by simp [encX_eq]) ?_
    refine w_call rfl (by kernel_rfl) (hX x hzs) ?_
    refine w_new (by simp) ?_
    refine a_store (cs := w3c (wX x)) rfl rfl rfl (by simp [w3c, w3]) (by simp [w3c]) (by simp [w3c]) (by simp [w3c]) ?_
    refine w_loadA rfl rfl (by simp [w3c, setAll]) ?_
    refine w_loadA rfl rfl (by simp [w3c]) ?_
    refine w_call (by simp [w3c, w3, setAll]) (by kernel_rfl) (con_rOrder (wX x) M) ?_
    refine a_gtr rfl rfl ?_
    refine a_cond rfl (fun hc => ?_) (fun hc => ?_)
    · refine w_loadA rfl rfl (by simp [w3c, setAll]) ?_
      refine a_store (cs := w3c (wX x)) rfl rfl rfl (by simp [w3c, setAll]) (by simp [w3c]) (by simp [w3c]) (by simp [w3c]) ?_
      refine w_and ?_
      refine w_add rfl rfl hin ?_
      refine w_and ?_
      refine ⟨k + 1, q, ?_, by omega⟩
      rw [nxt, maxW, if_pos (by simpa using hc)]
      exact Wk.back (M := 2) (by simp) (by simp) (by simp [w3c, setAll]) rfl (by simp [entB]; exact ⟨BdL_pure _ _ (by simp), BdL_pure _ _ (by simp [w3c])⟩) (by simp [Bd])
    · refine w_and ?_
      refine w_add rfl rfl hin ?_
      refine w_and ?_
      refine ⟨k + 1, q, ?_, by omega⟩
      rw [nxt, maxW, if_neg (by simpa using hc)]
      exact Wk.back (M := 2) (by simp) (by simp) (by simp [w3c, setAll]) rfl (by simp [entB]; exact ⟨BdL_pure _ _ (by simp), BdL_pure _ _ (by simp [w3c])⟩) (by simp [Bd])
  · have hk : k = l.length := by omega
    subst hk
    rw [List.take_length, wM_zero]
    refine a_cond0 rfl (by simp) ?_
    refine w_loadA rfl rfl (by simp [w3c]) ?_
    refine a_store (cs := w3c (wXs l)) rfl rfl rfl (by simp [w3c]) (by simp [w3c]) (by simp [w3c]) (by simp [w3c]) ?_
    refine w_loadA rfl rfl (by simp [w3c]) ?_
    exact .pure (by simp [w3c]) (by simp [w3c, w3])
set_option maxHeartbeats 4000000 in
theorem rfX_step {n : Nat} (hn : n < 2 ^ 40) (hM : RfM n) : RfX (n + 1) := by
  rintro ⟨l, ps, cs⟩ hz
  rw [zX] at hz
  refine (V14 _).gives (by simp [pureX]) (by simp) ?_
  unfold W14
  rw [encX, wX]
  have hlen : (encPs ps).length = ps.length := by simp [encPs_map]
  have hpl := zPs_len ps
  refine w_new (by simp) ?_
  refine w_new (by simp) ?_
  refine w_new (by simp) ?_
  refine iLoop_of (α := Nat) (fun k => k ≤ ps.length) (fun k => [int k]) (fun k => [.blk ⟨45, [u1 l, .sl 2 (encPs ps), .sl 1 (cs.map fun c => [u1 c])], true⟩, .blk ⟨31, [int 0, int 0, int 0], true⟩, .blk ⟨31, w3c (wPs (ps.take k)), true⟩]) (fun k => ps.length - k) 0 (by simp) (by simpa [wPs, w0, w3c] using Wk.refl _ _ _ (by simp)) ?_
  intro k hk
  refine w_fad rfl ?_
  refine w_load rfl rfl rfl ?_
  refine a_len (n := ps.length) rfl hlen fun _ => ?_
  refine a_lss rfl rfl ?_
  rcases Nat.lt_or_ge k ps.length with q | q
  · obtain ⟨⟨t, ss⟩, hx⟩ : ∃ x, ps[k]? = some x := ⟨ps[k], List.getElem?_eq_getElem q⟩
    have hin : inI ((k : Int) + 1) := by unfold inI; omega
    have hzp := zPs_mem (List.mem_of_getElem? hx)
    rw [zP] at hzp
    have nxt := wPs_take hx
    rw [wP] at nxt
    have hslen : (encSs ss).length = ss.length := by simp [encSs_map]
    have hsl := zSs_len ss
    have bP := (wPs_bd (ps.take k)).mono (n := 2 ^ 40) (by have := zPs_take_le ps k; omega)
    have hi2 : inI ((wPs (ps.take k)).2.2 + 1) := by unfold bdW at bP; unfold inI; omega
    refine a_cond1 rfl (by simpa using q) ?_
    refine w_let ?_
    refine w_fad rfl ?_
    refine w_load rfl rfl rfl ?_
    refine a_idx rfl (encPs_map ps) rfl hx ?_
    rw [encP]
    refine a_fadI rfl ?_
    refine w_loadI rfl ?_
    repeat' (first
      | (with_reducible apply w_let)
      | (with_reducible apply w_and)
      | (with_reducible refine And.intro True.intro ?_)
      | ((with_reducible apply a_lss); rfl; rfl)
      | ((with_reducible apply a_leq); rfl; rfl)
      | ((with_reducible apply a_gtr); rfl; rfl)
      | ((with_reducible apply a_geq); rfl; rfl)
      | ((with_reducible apply a_eql); rfl; rfl)
      | ((with_reducible apply a_neq); rfl; rfl)
      | ((with_reducible apply a_eqlS); rfl; rfl)
      | ((with_reducible apply a_neqS); rfl; rfl)
      | ((with_reducible apply a_eqlB); rfl; rfl)
      | ((with_reducible apply a_neqB); rfl; rfl)
      | ((with_reducible apply w_add); rfl; rfl; first | assumption | (unfold inI; omega))
      | ((with_reducible apply w_sub); rfl; rfl; first | assumption | (unfold inI; omega))
      | ((with_reducible apply a_not); rfl)
      | ((with_reducible apply w_pick_t); rfl)
      | ((with_reducible apply w_pick_f); rfl)
      | ((with_reducible apply a_cond1); rfl; first | rfl | assumption)
      | ((with_reducible apply a_cond0); rfl; first | rfl | assumption)
      | ((with_reducible apply a_guard1); rfl; first | rfl | assumption)
      | ((with_reducible apply a_guard0); rfl; first | rfl | assumption)
      | ((with_reducible apply w_guard_u); rfl)
      | ((with_reducible apply a_pick1); rfl; first | rfl | assumption)
      | ((with_reducible apply a_pick0); rfl; first | rfl | assumption)
      | ((with_reducible apply a_pickN); rfl)
      | ((with_reducible apply a_condN); rfl)
      | ((with_reducible apply a_guardN); rfl)
      | ((with_reducible apply w_fad); rfl)
      | ((with_reducible apply a_fadI); rfl)
      | ((with_reducible apply w_load); rfl; rfl; rfl)
      | ((with_reducible apply w_loadI); rfl)
      | ((with_reducible apply w_loadA); rfl; rfl; first | exact Nat.le_refl _ | exact Nat.le_of_ble_eq_true rfl)
      | ((with_reducible apply a_eqA); rfl; rfl; rfl)
      | ((with_reducible apply a_loadAI); rfl; first | rfl | simp)
      | ((with_reducible apply w_new); first | rfl | simp)
      | ((with_reducible apply a_store); rfl; rfl; rfl; rfl; (first | exact Nat.le_refl _ | simp); (first | rfl | simp); (first | rfl | simp))
      | ((with_reducible apply a_lenS); rfl; intro _)
      | ((with_reducible apply a_len); rfl; (first | rfl | simp); intro _)
      | ((with_reducible apply a_build); rfl)
      | ((with_reducible apply a_extr); rfl; rfl)
      | (refine a_idxQ (n := 2) rfl rfl (by omega) ?_)
      | ((with_reducible apply a_store); rfl; rfl; rfl; rfl; (simp [w3c]); rfl; rfl)
      | ((with_reducible apply a_cond); rfl)
      | ((with_reducible apply a_guard); rfl)
      | (with_reducible intro _))
    all_goals
      obtain ⟨A, hA⟩ : ∃ A, addW (wPs (ps.take k)) (tagW t) = A := ⟨_, rfl⟩
      have bA : bdW (2 ^ 41) A := by rw [← hA]; exact bP.add (bdW_tag t) (by omega)
      rw [← addW_assoc, hA] at nxt
      refine iLoop_of (α := Nat) (fun j => j ≤ ss.length) (fun j => [int j]) (fun j => [.blk ⟨45, [u1 l, .sl 2 (encPs ps), .sl 1 (cs.map fun c => [u1 c])], true⟩, .blk ⟨31, [int 0, int 0, int 0], true⟩, .blk ⟨31, w3c (addW A (wSs (ss.take j))), true⟩]) (fun j => ss.length - j) 0 (by simp) (Wk.back (M := 3) (by simp) (by simp) (by
        rw [← hA, List.take_zero, wSs, addW_zero]
        unfold tagW
        first
          | (rw [if_pos (by grind)]; simp [setAll, w3c, addW, w0]; done)
          | (rw [if_neg (by grind)]; simp [setAll, w3c, addW, w0]; done)) rfl (by simp [entB]; exact ⟨BdL_pure _ _ (by simp [purePs, pureC]), BdL_pure _ _ (by simp), BdL_pure _ _ (by simp [w3c])⟩) (by simp [Bd])) ?_
      intro j hj
      obtain ⟨W, hW⟩ : ∃ W, addW A (wSs (ss.take j)) = W := ⟨_, rfl⟩
      rw [hW]
      have bW : bdW (2 ^ 42) W := by rw [← hW]; exact bA.add ((wSs_bd (ss.take j)).mono (n := 2 ^ 40) (by have := zSs_take_le ss j; omega)) (by omega)
      refine w_fad rfl ?_
      refine w_load rfl rfl rfl ?_
      refine a_idx rfl (encPs_map ps) rfl hx ?_
      rw [encP]
      refine a_fadI rfl ?_
      refine w_loadI rfl ?_
      refine a_len (n := ss.length) rfl hslen fun _ => ?_
      refine a_lss rfl rfl ?_
      rcases Nat.lt_or_ge j ss.length with q3 | q3
      · obtain ⟨s, hs⟩ : ∃ x, ss[j]? = some x := ⟨ss[j], List.getElem?_eq_getElem q3⟩
        have hin3 : inI ((j : Int) + 1) := by unfold inI; omega
        have hzs := zSs_mem (List.mem_of_getElem? hs)
        have nxs : addW A (wSs (ss.take (j + 1))) = addW W (wS s) := by rw [wSs_take hs, ← addW_assoc, hW]
        have bS := (wS_bd s).mono (n := 2 ^ 40) (by omega)
        have hwA : inW (addW W (wS s)) := by unfold bdW at bW bS; unfold inW addW inI; simp only; omega
        refine a_cond1 rfl (by rw [decide_eq_true_eq]; omega) ?_
        refine w_loadA rfl rfl (by simp [w3c]) ?_
        refine w_fad rfl ?_
        refine w_load rfl rfl rfl ?_
        refine a_idx rfl (encPs_map ps) rfl hx ?_
        rw [encP]
        refine a_fadI rfl ?_
        refine w_loadI rfl ?_
        refine a_idx rfl (encSs_map ss) rfl hs ?_
        refine a_loadAI rfl (by simp [encS_eq]) ?_
        refine w_callQ rfl (by kernel_rfl) (con_rsimple (by omega) hM s (by omega)) ?_
        refine w_callQ (by simp [w3c, w3]) (by kernel_rfl) (con_rAdd W (wS s) hwA) ?_
        refine a_store (cs := w3c (addW W (wS s))) rfl rfl rfl (by simp [w3c, w3]) (by simp [w3c]) (by simp [w3c]) (by simp [w3c]) ?_
        refine w_add rfl rfl hin3 ?_
        refine w_and ?_
        refine ⟨j + 1, q3, ?_, by omega⟩
        rw [nxs]
        exact Wk.back (M := 3) (by simp) (by simp) (by simp [w3c, setAll]) rfl (by simp [entB]; exact ⟨BdL_pure _ _ (by simp [purePs, pureC]), BdL_pure _ _ (by simp), BdL_pure _ _ (by simp [w3c])⟩) (by simp [Bd])
      · have hj : j = ss.length := by omega
        subst hj
        rw [List.take_length] at hW
        rw [hW] at nxt
        refine a_cond0 rfl (by simp [hslen]) ?_
        refine w_add rfl rfl hin ?_
        refine w_and ?_
        exact ⟨k + 1, q, Wk.back (M := 3) (by simp) (by simp) (by rw [nxt]; rfl) rfl (by simp [entB]; exact ⟨BdL_pure _ _ (by simp [purePs, pureC]), BdL_pure _ _ (by simp), BdL_pure _ _ (by simp [w3c])⟩) (by simp [Bd]), by omega⟩
  · have hk : k = ps.length := by omega
    subst hk
    rw [List.take_length]
    refine a_cond0 rfl (by simp) ?_
    refine w_loadA rfl rfl (by simp [w3c]) ?_
    refine a_store (cs := w3c (wPs ps)) rfl rfl rfl (by simp [w3c]) (by simp [w3c]) (by simp [w3c]) (by simp [w3c]) ?_
    refine w_loadA rfl rfl (by simp [w3c]) ?_
    exact .pure (by simp [w3c]) (by simp [w3c, w3])
theorem rf_all : ∀ n, n < 2 ^ 40 → RfX n ∧ RfM n
  | 0, hn => by
    have h : RfX 0 := fun x hz => by have := zX_pos x; omega
    exact ⟨h, rfM_step hn h⟩
  | n + 1, hn => by
    have h := rfX_step (by omega) (rf_all n (by omega)).2
    exact ⟨h, rfM_step hn h⟩
theorem con_rMost (l : List Cx) (hz : zXs l < 2 ^ 40) : Con Try.prog 8 [.sl 3 (encXs l)] (.tup [w3 (mostV l), int (checkL l)]) := by
  refine (V8 _).gives (by simp [pureXs]) (by simp) ?_
  unfold W8
  refine w_new (by simp) ?_
  refine w_call rfl (by kernel_rfl) (con_rCheck l (by omega)) ?_
  refine a_neq rfl rfl ?_
  by_cases hc : checkL l = 0
  · refine a_cond0 rfl (by simp [hc]) ?_
    refine w_call rfl (by kernel_rfl) ((rf_all (zXs l) hz).2 l (Nat.le_refl _)) ?_
    refine a_store (cs := w3c (wXs l)) rfl rfl rfl (by simp [w3c, w3]) (by simp [w3c]) (by simp [w3c]) (by simp [w3c]) ?_
    refine w_loadA rfl rfl (by simp [w3c]) ?_
    exact .pure (by simp [w3c]) (by simp [w3c, w3, mostV, hc])
  · refine a_cond1 rfl (by simp [hc]) ?_
    refine a_build rfl ?_
    refine a_store (cs := [int 0, int 0, int 0]) rfl rfl rfl rfl (by simp) (by simp) (by simp) ?_
    refine w_loadA rfl rfl (by simp) ?_
    exact .pure (by simp) (by simp [w3, mostV, hc, w0])
theorem con_rEach (l : List Cx) (hz : zXs l < 2 ^ 40) : Con Try.prog 6 [.sl 3 (encXs l)] (.tup [eachV l, int (checkL l)]) := by
  refine (V6 _).gives (by simp [pureXs]) (by simp [eachV_pure]) ?_
  unfold W6
  refine w_call rfl (by kernel_rfl) (con_rCheck l (by omega)) ?_
  refine a_neq rfl rfl ?_
  by_cases hc : checkL l = 0
  · refine a_cond0 rfl (by simp [hc]) ?_
    have hlen : (encXs l).length = l.length := by simp [encXs_map]
    have hxl := zXs_len l
    refine iLoop_of (α := Nat) (fun k => k ≤ l.length) (fun k => [.sb 0 3 (((l.take k).map wX).map w3c), int k]) (fun k => [.tok 31 3 k]) (fun k => l.length - k) 0 (by simp) ?_ ?_
    · have a := Wk.nil (n := 0) (s := [.v (.slice none 0 0), int 0]) (h := []) (by simp) 0 rfl
      have b := Wk.tok (n := 0) (s := [.emp, int 0]) (h := []) (by simp) 0 31 3 rfl
      exact a.trans b
    · intro k hk
      refine a_len (n := l.length) rfl hlen fun _ => ?_
      refine a_lss rfl rfl ?_
      rcases Nat.lt_or_ge k l.length with q | q
      · obtain ⟨x, hx⟩ : ∃ s, l[k]? = some s := ⟨l[k], List.getElem?_eq_getElem q⟩
        have hin : inI ((k : Int) + 1) := by unfold inI; omega
        have hzs : zX x ≤ zXs l := zXs_mem (List.mem_of_getElem? hx)
        have hlk : (((l.take k).map wX).map w3c).length = k := by simp; omega
        have e : List.take k (List.map (w3c ∘ wX) l) ++ [[int (wX x).1, int (wX x).2.1, int (wX x).2.2]] = List.take (k + 1) (List.map (w3c ∘ wX) l) := by
          rw [List.take_add_one, List.getElem?_map, hx]; rfl
        have pr : PureR (List.take (k + 1) (List.map (w3c ∘ wX) l)) := by
          have := w3c_pure ((l.take (k + 1)).map wX)
          simpa using this
        have hr : roomA 24 (k + 1) := by unfold roomA maxLen; omega
        refine a_cond1 rfl (by simpa using q) ?_
        refine a_idx rfl (encXs_map l) rfl hx ?_
        refine a_loadAI rfl (by simp [encX_eq]) ?_
        refine w_call rfl (by kernel_rfl) ((rf_all (zXs l) hz).1 x hzs) ?_
        simp [w3, chunks, hr, hin, hlk]
        refine ⟨by omega, k + 1, q, ?_, by omega⟩
        rw [e]
        exact Wk.back (n := 0) (M := 1) (by simp) (by simp) rfl rfl (by simp [entB]) (by
          have hb := Bd_pure 1 (.sl 3 (List.take (k + 1) (List.map (w3c ∘ wX) l))) (by rw [Aw.Pure]; exact pr)
          rw [Bd] at hb
          simp [Bd, hb])
      · obtain rfl : k = l.length := by omega
        refine a_cond0 rfl (by simp) ?_
        refine Gives.of ?_
        have pr : PureR (List.map (w3c ∘ wX) l) := by
          have := w3c_pure (l.map wX)
          simpa using this
        simp [tl, tlA, tlL, eachV, hc]
        rw [tlR_pure _ _ _ _ pr]
  · refine a_cond1 rfl (by simp [hc]) ?_
    exact .pure (by simp) (by simp [eachV, hc])
theorem con_Same (l : List Wt3) (hl : l.length < 2 ^ 40) : Con Try.prog 9 [.sl 3 (l.map w3c), .sl 3 (l.map w3c)] (bool true) := by
  refine (V9 _ _).gives (by simp [w3c_pure]) (by simp) ?_
  unfold W9
  refine a_len (n := l.length) rfl (by simp) fun _ => ?_
  refine a_len (n := l.length) rfl (by simp) fun _ => ?_
  refine a_neq rfl rfl ?_
  refine a_cond0 rfl (by simp) ?_
  refine iLoop_of (α := Nat) (fun k => k ≤ l.length) (fun k => [int k]) (fun _ => []) (fun k => l.length - k) 0 (by simp) (Wk.refl _ _ _ (by simp)) ?_
  intro k hk
  refine a_len (n := l.length) rfl (by simp) fun _ => ?_
  refine a_lss rfl rfl ?_
  rcases Nat.lt_or_ge k l.length with q | q
  · obtain ⟨x, hx⟩ : ∃ s, l[k]? = some s := ⟨l[k], List.getElem?_eq_getElem q⟩
    have hin : inI ((k : Int) + 1) := by unfold inI; omega
    refine a_cond1 rfl (by simpa using q) ?_
    refine a_idx rfl rfl rfl hx ?_
    refine a_loadAI rfl (by simp [w3c]) ?_
    refine a_idx rfl rfl rfl hx ?_
    refine a_loadAI rfl (by simp [w3c]) ?_
    refine a_eqA (b := true) rfl rfl (by simp [w3c, eqK]) ?_
    refine a_cond0 rfl rfl ?_
    refine w_add rfl rfl hin ?_
    refine w_and ?_
    exact ⟨k + 1, q, Wk.refl _ _ _ (by simp), by omega⟩
  · refine a_cond0 rfl (by simp; omega) ?_
    exact .pure (by simp) rfl
theorem con_WeighLists (l : List Cx) (hz : zXs l < 2 ^ 39) : Con Try.prog 3 [.sl 3 (encXs l)] (bool true) := by
  refine (V3 _).gives (by simp [pureXs]) (by simp) ?_
  unfold W3
  have h1 := con_Each l (by omega)
  have h2 := con_rEach l (by omega)
  have h3 := con_Most l (by omega)
  have h4 := con_rMost l (by omega)
  by_cases hc : checkL l = 0
  · have hS := con_Same (l.map wX) (by have := zXs_len l; simp; omega)
    rw [eachV, if_pos hc] at h1 h2
    repeat' (first
      | (with_reducible apply w_let)
      | (with_reducible apply w_and)
      | (with_reducible refine And.intro True.intro ?_)
      | ((with_reducible apply a_lss); rfl; rfl)
      | ((with_reducible apply a_leq); rfl; rfl)
      | ((with_reducible apply a_gtr); rfl; rfl)
      | ((with_reducible apply a_geq); rfl; rfl)
      | ((with_reducible apply a_eql); rfl; rfl)
      | ((with_reducible apply a_neq); rfl; rfl)
      | ((with_reducible apply a_eqlS); rfl; rfl)
      | ((with_reducible apply a_neqS); rfl; rfl)
      | ((with_reducible apply a_eqlB); rfl; rfl)
      | ((with_reducible apply a_neqB); rfl; rfl)
      | ((with_reducible apply w_add); rfl; rfl; first | assumption | (unfold inI; omega))
      | ((with_reducible apply w_sub); rfl; rfl; first | assumption | (unfold inI; omega))
      | ((with_reducible apply a_not); rfl)
      | ((with_reducible apply w_pick_t); rfl)
      | ((with_reducible apply w_pick_f); rfl)
      | ((with_reducible apply a_cond1); rfl; first | rfl | assumption)
      | ((with_reducible apply a_cond0); rfl; first | rfl | assumption)
      | ((with_reducible apply a_guard1); rfl; first | rfl | assumption)
      | ((with_reducible apply a_guard0); rfl; first | rfl | assumption)
      | ((with_reducible apply w_guard_u); rfl)
      | ((with_reducible apply a_pick1); rfl; first | rfl | assumption)
      | ((with_reducible apply a_pick0); rfl; first | rfl | assumption)
      | ((with_reducible apply a_pickN); rfl)
      | ((with_reducible apply a_condN); rfl)
      | ((with_reducible apply a_guardN); rfl)
      | ((with_reducible apply w_fad); rfl)
      | ((with_reducible apply a_fadI); rfl)
      | ((with_reducible apply w_load); rfl; rfl; rfl)
      | ((with_reducible apply w_loadI); rfl)
      | ((with_reducible apply w_loadA); rfl; rfl; first | exact Nat.le_refl _ | exact Nat.le_of_ble_eq_true rfl)
      | ((with_reducible apply a_eqA); rfl; rfl; rfl)
      | ((with_reducible apply a_loadAI); rfl; first | rfl | simp)
      | ((with_reducible apply w_new); first | rfl | simp)
      | ((with_reducible apply a_store); rfl; rfl; rfl; rfl; (first | exact Nat.le_refl _ | simp); (first | rfl | simp); (first | rfl | simp))
      | ((with_reducible apply a_lenS); rfl; intro _)
      | ((with_reducible apply a_len); rfl; (first | rfl | simp); intro _)
      | ((with_reducible apply a_build); rfl)
      | ((with_reducible apply a_extr); rfl; rfl)
      | (refine iCall_con (by kernel_rfl) (con_Great l (by omega)) ?_)
      | (refine iCall_con (by kernel_rfl) (h1) ?_)
      | (refine iCall_con (by kernel_rfl) (h2) ?_)
      | (refine iCall_con (by kernel_rfl) (h3) ?_)
      | (refine iCall_con (by kernel_rfl) (h4) ?_)
      | (refine iCall_con (by kernel_rfl) (hS) ?_)
      | ((with_reducible apply a_store); rfl; rfl; rfl; rfl; (simp [w3]); rfl; rfl)
      | ((with_reducible apply a_cond); rfl)
      | ((with_reducible apply a_guard); rfl)
      | (with_reducible intro _))
    all_goals first
      | exact .pure (by simp) rfl
      | (refine .pure (by simp) ?_; simp; done)
      | (exfalso; simp_all; done)
      | (exfalso; grind)
  · have hS := con_Same [] (by simp)
    rw [eachV, if_neg hc] at h1 h2
    repeat' (first
      | (with_reducible apply w_let)
      | (with_reducible apply w_and)
      | (with_reducible refine And.intro True.intro ?_)
      | ((with_reducible apply a_lss); rfl; rfl)
      | ((with_reducible apply a_leq); rfl; rfl)
      | ((with_reducible apply a_gtr); rfl; rfl)
      | ((with_reducible apply a_geq); rfl; rfl)
      | ((with_reducible apply a_eql); rfl; rfl)
      | ((with_reducible apply a_neq); rfl; rfl)
      | ((with_reducible apply a_eqlS); rfl; rfl)
      | ((with_reducible apply a_neqS); rfl; rfl)
      | ((with_reducible apply a_eqlB); rfl; rfl)
      | ((with_reducible apply a_neqB); rfl; rfl)
      | ((with_reducible apply w_add); rfl; rfl; first | assumption | (unfold inI; omega))
      | ((with_reducible apply w_sub); rfl; rfl; first | assumption | (unfold inI; omega))
      | ((with_reducible apply a_not); rfl)
      | ((with_reducible apply w_pick_t); rfl)
      | ((with_reducible apply w_pick_f); rfl)
      | ((with_reducible apply a_cond1); rfl; first | rfl | assumption)
      | ((with_reducible apply a_cond0); rfl; first | rfl | assumption)
      | ((with_reducible apply a_guard1); rfl; first | rfl | assumption)
      | ((with_reducible apply a_guard0); rfl; first | rfl | assumption)
      | ((with_reducible apply w_guard_u); rfl)
      | ((with_reducible apply a_pick1); rfl; first | rfl | assumption)
      | ((with_reducible apply a_pick0); rfl; first | rfl | assumption)
      | ((with_reducible apply a_pickN); rfl)
      | ((with_reducible apply a_condN); rfl)
      | ((with_reducible apply a_guardN); rfl)
      | ((with_reducible apply w_fad); rfl)
      | ((with_reducible apply a_fadI); rfl)
      | ((with_reducible apply w_load); rfl; rfl; rfl)
      | ((with_reducible apply w_loadI); rfl)
      | ((with_reducible apply w_loadA); rfl; rfl; first | exact Nat.le_refl _ | exact Nat.le_of_ble_eq_true rfl)
      | ((with_reducible apply a_eqA); rfl; rfl; rfl)
      | ((with_reducible apply a_loadAI); rfl; first | rfl | simp)
      | ((with_reducible apply w_new); first | rfl | simp)
      | ((with_reducible apply a_store); rfl; rfl; rfl; rfl; (first | exact Nat.le_refl _ | simp); (first | rfl | simp); (first | rfl | simp))
      | ((with_reducible apply a_lenS); rfl; intro _)
      | ((with_reducible apply a_len); rfl; (first | rfl | simp); intro _)
      | ((with_reducible apply a_build); rfl)
      | ((with_reducible apply a_extr); rfl; rfl)
      | (refine iCall_con (by kernel_rfl) (con_Great l (by omega)) ?_)
      | (refine iCall_con (by kernel_rfl) (h1) ?_)
      | (refine iCall_con (by kernel_rfl) (h2) ?_)
      | (refine iCall_con (by kernel_rfl) (h3) ?_)
      | (refine iCall_con (by kernel_rfl) (h4) ?_)
      | (refine iCall_borrowD (by kernel_rfl) hS (by simp [tl, tlA]; exact .cons (.nil 3) (.cons (.nil 3) .nil)) (by simp) ?_)
      | ((with_reducible apply a_store); rfl; rfl; rfl; rfl; (simp [w3]); rfl; rfl)
      | ((with_reducible apply a_cond); rfl)
      | ((with_reducible apply a_guard); rfl)
      | (with_reducible intro _))
    all_goals first
      | exact .pure (by simp) rfl
      | (refine .pure (by simp) ?_; simp; done)
      | (exfalso; simp_all; done)
      | (exfalso; grind)
end Go.Proofs.Ytlapkmobmgffoaa
