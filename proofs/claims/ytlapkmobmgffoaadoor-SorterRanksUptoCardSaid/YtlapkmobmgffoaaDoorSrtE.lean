/-
  Declarations: the reference's check; ranks.
  No conditions: contracts.
-/
import Derived.Test.YtlapkmobmgffoaaDoorSrtD
set_option linter.unusedVariables false
set_option linter.unusedSimpArgs false
namespace Go.Proofs.YtlapkmobmgffoaaDoor
open Go Go.Aw Go.Nst
set_option maxRecDepth 1000000
set_option maxHeartbeats 8000000 in
theorem con_rdCheck (d : Dc) (hz : zVs d.value < 2 ^ 39) (hw : d.whole.length < 2 ^ 40) : Con Tryd.prog 13 [.agg (encD d)] (int (errD d)) := by
  refine (V13 _).gives (by simp [encD_pure]) (by simp) ?_
  unfold W13
  have hI := con_rInherited d.name
  have hV := con_rnCheck d.value hz
  have hW := con_whole d.name d.value d.whole hw
  rw [encD]
  by_cases hk : isPr d.name = true
  · obtain ⟨b, e⟩ := inhV_known hk
    rw [e] at hI
    by_cases hv : checkV d.value = 0
    · have gv : (!decide (checkV d.value = 0)) = false := by simpa using hv
      cases hwh : wholeOK d.name d.whole with
      | true =>
        rw [hwh] at hW
        have hok : okD d = ((inN d.layer && inN d.order && inN d.w0 && inN d.w1 && inN d.w2) && (decide (1 ≤ d.origin) && decide (d.origin ≤ 3)) && (!d.att || (decide (d.origin = 3) && decide (d.layer = 0) && (decide (d.w0 = 0) && decide (d.w1 = 0) && decide (d.w2 = 0))))) := by
          rw [okD, hk, hwh]; simp [hv]
        repeat' (first
          | (with_reducible apply w_let)
          | (with_reducible apply w_and)
          | (with_reducible refine And.intro True.intro ?_)
          | ((with_reducible apply a_lss); rfl; rfl)
          | ((with_reducible apply a_leq); rfl; rfl)
          | ((with_reducible apply a_gtr); rfl; rfl)
          | ((with_reducible apply a_geq); rfl; rfl)
          | ((with_reducible apply a_eql); rfl; rfl)
          | ((with_reducible apply a_neq); rfl; rfl)
          | ((with_reducible apply a_eqlS); rfl; rfl)
          | ((with_reducible apply a_neqS); rfl; rfl)
          | ((with_reducible apply a_eqlB); rfl; rfl)
          | ((with_reducible apply a_neqB); rfl; rfl)
          | ((with_reducible apply w_add); rfl; rfl; first | assumption | (unfold inI; omega))
          | ((with_reducible apply w_sub); rfl; rfl; first | assumption | (unfold inI; omega))
          | ((with_reducible apply a_not); rfl)
          | ((with_reducible apply w_pick_t); rfl)
          | ((with_reducible apply w_pick_f); rfl)
          | ((with_reducible apply a_cond1); rfl; first | rfl | assumption)
          | ((with_reducible apply a_cond0); rfl; first | rfl | assumption)
          | ((with_reducible apply a_guard1); rfl; first | rfl | assumption)
          | ((with_reducible apply a_guard0); rfl; first | rfl | assumption)
          | ((with_reducible apply w_guard_u); rfl)
          | ((with_reducible apply a_pick1); rfl; first | rfl | assumption)
          | ((with_reducible apply a_pick0); rfl; first | rfl | assumption)
          | ((with_reducible apply a_pickN); rfl)
          | ((with_reducible apply a_condN); rfl)
          | ((with_reducible apply a_guardN); rfl)
          | ((with_reducible apply w_fad); rfl)
          | ((with_reducible apply a_fadI); rfl)
          | ((with_reducible apply w_load); rfl; rfl; rfl)
          | ((with_reducible apply w_loadI); rfl)
          | ((with_reducible apply w_loadA); rfl; rfl; first | exact Nat.le_refl _ | exact Nat.le_of_ble_eq_true rfl)
          | ((with_reducible apply a_eqA); rfl; rfl; rfl)
          | ((with_reducible apply a_loadAI); rfl; first | rfl | simp)
          | ((with_reducible apply w_new); first | rfl | simp)
          | ((with_reducible apply a_store); rfl; rfl; rfl; rfl; (first | exact Nat.le_refl _ | simp); (first | rfl | simp); (first | rfl | simp))
          | ((with_reducible apply a_lenS); rfl; intro _)
          | ((with_reducible apply a_len); rfl; (first | rfl | simp); intro _)
          | ((with_reducible apply a_build); rfl)
          | ((with_reducible apply a_extr); rfl; rfl)
          | (refine iCall_con (by kernel_rfl) (hI) ?_)
          | (refine iCall_con (by kernel_rfl) (hV) ?_)
          | (refine iCall_con (by kernel_rfl) (hW) ?_)
          | (refine iCall_con (by kernel_rfl) (con_in d.layer) ?_)
          | (refine iCall_con (by kernel_rfl) (con_in d.order) ?_)
          | (refine iCall_con (by kernel_rfl) (con_in d.w0) ?_)
          | (refine iCall_con (by kernel_rfl) (con_in d.w1) ?_)
          | (refine iCall_con (by kernel_rfl) (con_in d.w2) ?_)
          | (refine a_idxQ (n := 0) rfl rfl (by omega) ?_)
          | (refine a_idxQ (n := 1) rfl rfl (by omega) ?_)
          | (refine a_idxQ (n := 2) rfl rfl (by omega) ?_)
          | ((with_reducible apply a_cond); rfl)
          | ((with_reducible apply a_guard); rfl)
          | (with_reducible intro _))
        all_goals
          refine .pure (by simp) ?_
          simp only [AV.v.injEq, Value.int.injEq, true_and, errD, hok]
          grind
      | false =>
        rw [hwh] at hW
        have hb : errD d = 8 := errD_bad (by rw [okD, hwh]; simp)
        repeat' (first
          | (with_reducible apply w_let)
          | (with_reducible apply w_and)
          | (with_reducible refine And.intro True.intro ?_)
          | ((with_reducible apply a_lss); rfl; rfl)
          | ((with_reducible apply a_leq); rfl; rfl)
          | ((with_reducible apply a_gtr); rfl; rfl)
          | ((with_reducible apply a_geq); rfl; rfl)
          | ((with_reducible apply a_eql); rfl; rfl)
          | ((with_reducible apply a_neq); rfl; rfl)
          | ((with_reducible apply a_eqlS); rfl; rfl)
          | ((with_reducible apply a_neqS); rfl; rfl)
          | ((with_reducible apply a_eqlB); rfl; rfl)
          | ((with_reducible apply a_neqB); rfl; rfl)
          | ((with_reducible apply w_add); rfl; rfl; first | assumption | (unfold inI; omega))
          | ((with_reducible apply w_sub); rfl; rfl; first | assumption | (unfold inI; omega))
          | ((with_reducible apply a_not); rfl)
          | ((with_reducible apply w_pick_t); rfl)
          | ((with_reducible apply w_pick_f); rfl)
          | ((with_reducible apply a_cond1); rfl; first | rfl | assumption)
          | ((with_reducible apply a_cond0); rfl; first | rfl | assumption)
          | ((with_reducible apply a_guard1); rfl; first | rfl | assumption)
          | ((with_reducible apply a_guard0); rfl; first | rfl | assumption)
          | ((with_reducible apply w_guard_u); rfl)
          | ((with_reducible apply a_pick1); rfl; first | rfl | assumption)
          | ((with_reducible apply a_pick0); rfl; first | rfl | assumption)
          | ((with_reducible apply a_pickN); rfl)
          | ((with_reducible apply a_condN); rfl)
          | ((with_reducible apply a_guardN); rfl)
          | ((with_reducible apply w_fad); rfl)
          | ((with_reducible apply a_fadI); rfl)
          | ((with_reducible apply w_load); rfl; rfl; rfl)
          | ((with_reducible apply w_loadI); rfl)
          | ((with_reducible apply w_loadA); rfl; rfl; first | exact Nat.le_refl _ | exact Nat.le_of_ble_eq_true rfl)
          | ((with_reducible apply a_eqA); rfl; rfl; rfl)
          | ((with_reducible apply a_loadAI); rfl; first | rfl | simp)
          | ((with_reducible apply w_new); first | rfl | simp)
          | ((with_reducible apply a_store); rfl; rfl; rfl; rfl; (first | exact Nat.le_refl _ | simp); (first | rfl | simp); (first | rfl | simp))
          | ((with_reducible apply a_lenS); rfl; intro _)
          | ((with_reducible apply a_len); rfl; (first | rfl | simp); intro _)
          | ((with_reducible apply a_build); rfl)
          | ((with_reducible apply a_extr); rfl; rfl)
          | (refine iCall_con (by kernel_rfl) (hI) ?_)
          | (refine iCall_con (by kernel_rfl) (hV) ?_)
          | (refine iCall_con (by kernel_rfl) (hW) ?_)
          | ((with_reducible apply a_cond); rfl)
          | ((with_reducible apply a_guard); rfl)
          | (with_reducible intro _))
        exact .pure (by simp) (by rw [hb])
    · have gv : (!decide (checkV d.value = 0)) = true := by simpa using hv
      have hb : errD d = 8 := errD_bad (by rw [okD]; simp [hv])
      repeat' (first
        | (with_reducible apply w_let)
        | (with_reducible apply w_and)
        | (with_reducible refine And.intro True.intro ?_)
        | ((with_reducible apply a_lss); rfl; rfl)
        | ((with_reducible apply a_leq); rfl; rfl)
        | ((with_reducible apply a_gtr); rfl; rfl)
        | ((with_reducible apply a_geq); rfl; rfl)
        | ((with_reducible apply a_eql); rfl; rfl)
        | ((with_reducible apply a_neq); rfl; rfl)
        | ((with_reducible apply a_eqlS); rfl; rfl)
        | ((with_reducible apply a_neqS); rfl; rfl)
        | ((with_reducible apply a_eqlB); rfl; rfl)
        | ((with_reducible apply a_neqB); rfl; rfl)
        | ((with_reducible apply w_add); rfl; rfl; first | assumption | (unfold inI; omega))
        | ((with_reducible apply w_sub); rfl; rfl; first | assumption | (unfold inI; omega))
        | ((with_reducible apply a_not); rfl)
        | ((with_reducible apply w_pick_t); rfl)
        | ((with_reducible apply w_pick_f); rfl)
        | ((with_reducible apply a_cond1); rfl; first | rfl | assumption)
        | ((with_reducible apply a_cond0); rfl; first | rfl | assumption)
        | ((with_reducible apply a_guard1); rfl; first | rfl | assumption)
        | ((with_reducible apply a_guard0); rfl; first | rfl | assumption)
        | ((with_reducible apply w_guard_u); rfl)
        | ((with_reducible apply a_pick1); rfl; first | rfl | assumption)
        | ((with_reducible apply a_pick0); rfl; first | rfl | assumption)
        | ((with_reducible apply a_pickN); rfl)
        | ((with_reducible apply a_condN); rfl)
        | ((with_reducible apply a_guardN); rfl)
        | ((with_reducible apply w_fad); rfl)
        | ((with_reducible apply a_fadI); rfl)
        | ((with_reducible apply w_load); rfl; rfl; rfl)
        | ((with_reducible apply w_loadI); rfl)
        | ((with_reducible apply w_loadA); rfl; rfl; first | exact Nat.le_refl _ | exact Nat.le_of_ble_eq_true rfl)
        | ((with_reducible apply a_eqA); rfl; rfl; rfl)
        | ((with_reducible apply a_loadAI); rfl; first | rfl | simp)
        | ((with_reducible apply w_new); first | rfl | simp)
        | ((with_reducible apply a_store); rfl; rfl; rfl; rfl; (first | exact Nat.le_refl _ | simp); (first | rfl | simp); (first | rfl | simp))
        | ((with_reducible apply a_lenS); rfl; intro _)
        | ((with_reducible apply a_len); rfl; (first | rfl | simp); intro _)
        | ((with_reducible apply a_build); rfl)
        | ((with_reducible apply a_extr); rfl; rfl)
        | (refine iCall_con (by kernel_rfl) (hI) ?_)
        | (refine iCall_con (by kernel_rfl) (hV) ?_)
        | ((with_reducible apply a_cond); rfl)
        | ((with_reducible apply a_guard); rfl)
        | (with_reducible intro _))
      exact .pure (by simp) (by rw [hb])
  · have hk : isPr d.name = false := by simpa using hk
    rw [inhV_not hk] at hI
    have hb : errD d = 8 := errD_bad (by rw [okD, hk]; rfl)
    repeat' (first
      | (with_reducible apply w_let)
      | (with_reducible apply w_and)
      | (with_reducible refine And.intro True.intro ?_)
      | ((with_reducible apply a_lss); rfl; rfl)
      | ((with_reducible apply a_leq); rfl; rfl)
      | ((with_reducible apply a_gtr); rfl; rfl)
      | ((with_reducible apply a_geq); rfl; rfl)
      | ((with_reducible apply a_eql); rfl; rfl)
      | ((with_reducible apply a_neq); rfl; rfl)
      | ((with_reducible apply a_eqlS); rfl; rfl)
      | ((with_reducible apply a_neqS); rfl; rfl)
      | ((with_reducible apply a_eqlB); rfl; rfl)
      | ((with_reducible apply a_neqB); rfl; rfl)
      | ((with_reducible apply w_add); rfl; rfl; first | assumption | (unfold inI; omega))
      | ((with_reducible apply w_sub); rfl; rfl; first | assumption | (unfold inI; omega))
      | ((with_reducible apply a_not); rfl)
      | ((with_reducible apply w_pick_t); rfl)
      | ((with_reducible apply w_pick_f); rfl)
      | ((with_reducible apply a_cond1); rfl; first | rfl | assumption)
      | ((with_reducible apply a_cond0); rfl; first | rfl | assumption)
      | ((with_reducible apply a_guard1); rfl; first | rfl | assumption)
      | ((with_reducible apply a_guard0); rfl; first | rfl | assumption)
      | ((with_reducible apply w_guard_u); rfl)
      | ((with_reducible apply a_pick1); rfl; first | rfl | assumption)
      | ((with_reducible apply a_pick0); rfl; first | rfl | assumption)
      | ((with_reducible apply a_pickN); rfl)
      | ((with_reducible apply a_condN); rfl)
      | ((with_reducible apply a_guardN); rfl)
      | ((with_reducible apply w_fad); rfl)
      | ((with_reducible apply a_fadI); rfl)
      | ((with_reducible apply w_load); rfl; rfl; rfl)
      | ((with_reducible apply w_loadI); rfl)
      | ((with_reducible apply w_loadA); rfl; rfl; first | exact Nat.le_refl _ | exact Nat.le_of_ble_eq_true rfl)
      | ((with_reducible apply a_eqA); rfl; rfl; rfl)
      | ((with_reducible apply a_loadAI); rfl; first | rfl | simp)
      | ((with_reducible apply w_new); first | rfl | simp)
      | ((with_reducible apply a_store); rfl; rfl; rfl; rfl; (first | exact Nat.le_refl _ | simp); (first | rfl | simp); (first | rfl | simp))
      | ((with_reducible apply a_lenS); rfl; intro _)
      | ((with_reducible apply a_len); rfl; (first | rfl | simp); intro _)
      | ((with_reducible apply a_build); rfl)
      | ((with_reducible apply a_extr); rfl; rfl)
      | (refine iCall_con (by kernel_rfl) (hI) ?_)
      | ((with_reducible apply a_cond); rfl)
      | ((with_reducible apply a_guard); rfl)
      | (with_reducible intro _))
    exact .pure (by simp) (by rw [hb])
/-! ### Ranks -/
def rkL (d : Dc) : List Int := [if d.imp then 7 - d.origin else d.origin, if d.att then 1 else 0, if d.imp then 1000000 - d.layer else d.layer, d.w0, d.w1, d.w2, d.order]
def rkR (l : List Int) : List (List AV) := l.map fun n => [int n]
def rkV (d : Dc) : AV := .sl 1 (rkR (rkL d))
theorem rows_int : ∀ l : List Int, PureR (rkR l)
  | [] => by simp [rkR, PureR]
  | n :: l => by have := rows_int l; unfold rkR at this ⊢; simp only [List.map_cons, PureR]; exact ⟨by simp, this⟩
theorem rkV_pure (d : Dc) : Aw.Pure (rkV d) := by unfold rkV; rw [Aw.Pure]; exact rows_int _
def rkA (d : Dc) : AV := .agg ((rkL d).map fun n => int n)
theorem a_convI {k k' : IntKind} {x : AV} {n m : Int} {K : AV → Prop} (e : x = .v (.int k' n)) (hm : k.wrap n = m) (q : K (.v (.int k m))) : iConv k x K := by subst hm; exact ⟨k', n, e, q⟩
theorem wrap_in {n : Int} (h : inI n) : IntKind.i64.wrap n = n := by rw [IntKind.wrap_i64]; unfold inI at h; omega
theorem okD_bd {d : Dc} (h : okD d = true) : inI d.origin ∧ inI (7 - d.origin) ∧ inI (1000000 - d.layer) := by
  unfold okD inN at h
  simp only [Bool.and_eq_true, decide_eq_true_eq] at h
  unfold inI
  omega
set_option maxHeartbeats 2000000 in
theorem con_rank (d : Dc) (h : okD d = true) : Con Tryd.prog 30 [.agg (encD d)] (rkV d) := by
  refine (V30 _).gives (by simp [encD_pure]) (rkV_pure d) ?_
  unfold W30
  obtain ⟨s0, s1, s2⟩ := okD_bd h
  have hw := wrap_in s0
  rw [encD]
  cases hi : d.imp <;> cases ha : d.att
  all_goals
    repeat' (first
      | (with_reducible apply w_let)
      | (with_reducible apply w_and)
      | (with_reducible refine And.intro True.intro ?_)
      | ((with_reducible apply a_lss); rfl; rfl)
      | ((with_reducible apply a_leq); rfl; rfl)
      | ((with_reducible apply a_gtr); rfl; rfl)
      | ((with_reducible apply a_geq); rfl; rfl)
      | ((with_reducible apply a_eql); rfl; rfl)
      | ((with_reducible apply a_neq); rfl; rfl)
      | ((with_reducible apply a_eqlS); rfl; rfl)
      | ((with_reducible apply a_neqS); rfl; rfl)
      | ((with_reducible apply a_eqlB); rfl; rfl)
      | ((with_reducible apply a_neqB); rfl; rfl)
      | ((with_reducible apply w_add); rfl; rfl; first | assumption | (unfold inI; omega))
      | ((with_reducible apply w_sub); rfl; rfl; first | assumption | (unfold inI; omega))
      | ((with_reducible apply a_not); rfl)
      | ((with_reducible apply w_pick_t); rfl)
      | ((with_reducible apply w_pick_f); rfl)
      | ((with_reducible apply a_cond1); rfl; first | rfl | assumption)
      | ((with_reducible apply a_cond0); rfl; first | rfl | assumption)
      | ((with_reducible apply a_guard1); rfl; first | rfl | assumption)
      | ((with_reducible apply a_guard0); rfl; first | rfl | assumption)
      | ((with_reducible apply w_guard_u); rfl)
      | ((with_reducible apply a_pick1); rfl; first | rfl | assumption)
      | ((with_reducible apply a_pick0); rfl; first | rfl | assumption)
      | ((with_reducible apply a_pickN); rfl)
      | ((with_reducible apply a_condN); rfl)
      | ((with_reducible apply a_guardN); rfl)
      | ((with_reducible apply w_fad); rfl)
      | ((with_reducible apply a_fadI); rfl)
      | ((with_reducible apply w_load); rfl; rfl; rfl)
      | ((with_reducible apply w_loadI); rfl)
      | ((with_reducible apply w_loadA); rfl; rfl; first | exact Nat.le_refl _ | exact Nat.le_of_ble_eq_true rfl)
      | ((with_reducible apply a_eqA); rfl; rfl; rfl)
      | ((with_reducible apply a_loadAI); rfl; first | rfl | simp)
      | ((with_reducible apply w_new); first | rfl | simp)
      | ((with_reducible apply a_store); rfl; rfl; rfl; rfl; (first | exact Nat.le_refl _ | simp); (first | rfl | simp); (first | rfl | simp))
      | ((with_reducible apply a_lenS); rfl; intro _)
      | ((with_reducible apply a_len); rfl; (first | rfl | simp); intro _)
      | ((with_reducible apply a_build); rfl)
      | ((with_reducible apply a_extr); rfl; rfl)
      | (refine a_convI rfl hw ?_)
      | (refine a_idxQ (n := 0) rfl rfl (by omega) ?_)
      | (refine a_idxQ (n := 1) rfl rfl (by omega) ?_)
      | (refine a_idxQ (n := 2) rfl rfl (by omega) ?_)
      | (refine a_mkSlP rfl ?_)
      | ((with_reducible apply a_cond); rfl)
      | ((with_reducible apply a_guard); rfl)
      | (with_reducible intro _))
    exact .pure (by simp [chunks, setAll, rep0]) (by simp [rkV, rkR, rkL, hi, ha, chunks, setAll, rep0])
set_option maxHeartbeats 2000000 in
theorem con_Ranked (d : Dc) (h : okD d = true) : Con Tryd.prog 31 [.agg (encD d)] (rkA d) := by
  refine (V31 _).gives (by simp [encD_pure]) (by simp [rkA, rkL]) ?_
  unfold W31
  obtain ⟨s0, s1, s2⟩ := okD_bd h
  have hw := wrap_in s0
  rw [encD]
  cases hi : d.imp <;> cases ha : d.att
  all_goals
    repeat' (first
      | (with_reducible apply w_let)
      | (with_reducible apply w_and)
      | (with_reducible refine And.intro True.intro ?_)
      | ((with_reducible apply a_lss); rfl; rfl)
      | ((with_reducible apply a_leq); rfl; rfl)
      | ((with_reducible apply a_gtr); rfl; rfl)
      | ((with_reducible apply a_geq); rfl; rfl)
      | ((with_reducible apply a_eql); rfl; rfl)
      | ((with_reducible apply a_neq); rfl; rfl)
      | ((with_reducible apply a_eqlS); rfl; rfl)
      | ((with_reducible apply a_neqS); rfl; rfl)
      | ((with_reducible apply a_eqlB); rfl; rfl)
      | ((with_reducible apply a_neqB); rfl; rfl)
      | ((with_reducible apply w_add); rfl; rfl; first | assumption | (unfold inI; omega))
      | ((with_reducible apply w_sub); rfl; rfl; first | assumption | (unfold inI; omega))
      | ((with_reducible apply a_not); rfl)
      | ((with_reducible apply w_pick_t); rfl)
      | ((with_reducible apply w_pick_f); rfl)
      | ((with_reducible apply a_cond1); rfl; first | rfl | assumption)
      | ((with_reducible apply a_cond0); rfl; first | rfl | assumption)
      | ((with_reducible apply a_guard1); rfl; first | rfl | assumption)
      | ((with_reducible apply a_guard0); rfl; first | rfl | assumption)
      | ((with_reducible apply w_guard_u); rfl)
      | ((with_reducible apply a_pick1); rfl; first | rfl | assumption)
      | ((with_reducible apply a_pick0); rfl; first | rfl | assumption)
      | ((with_reducible apply a_pickN); rfl)
      | ((with_reducible apply a_condN); rfl)
      | ((with_reducible apply a_guardN); rfl)
      | ((with_reducible apply w_fad); rfl)
      | ((with_reducible apply a_fadI); rfl)
      | ((with_reducible apply w_load); rfl; rfl; rfl)
      | ((with_reducible apply w_loadI); rfl)
      | ((with_reducible apply w_loadA); rfl; rfl; first | exact Nat.le_refl _ | exact Nat.le_of_ble_eq_true rfl)
      | ((with_reducible apply a_eqA); rfl; rfl; rfl)
      | ((with_reducible apply a_loadAI); rfl; first | rfl | simp)
      | ((with_reducible apply w_new); first | rfl | simp)
      | ((with_reducible apply a_store); rfl; rfl; rfl; rfl; (first | exact Nat.le_refl _ | simp); (first | rfl | simp); (first | rfl | simp))
      | ((with_reducible apply a_lenS); rfl; intro _)
      | ((with_reducible apply a_len); rfl; (first | rfl | simp); intro _)
      | ((with_reducible apply a_build); rfl)
      | ((with_reducible apply a_extr); rfl; rfl)
      | (refine a_convI rfl hw ?_)
      | (refine a_idxQ (n := 0) rfl rfl (by omega) ?_)
      | (refine a_idxQ (n := 1) rfl rfl (by omega) ?_)
      | (refine a_idxQ (n := 2) rfl rfl (by omega) ?_)
      | ((with_reducible apply a_cond); rfl)
      | ((with_reducible apply a_guard); rfl)
      | (with_reducible intro _))
    exact .pure (by simp [setAll]) (by simp [rkA, rkL, hi, ha, setAll])
end Go.Proofs.YtlapkmobmgffoaaDoor
