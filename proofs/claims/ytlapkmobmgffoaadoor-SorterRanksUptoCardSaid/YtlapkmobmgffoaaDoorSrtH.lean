/-
  Check, Rank and Before by either way: the law.
  No conditions: contracts.
-/
import Derived.Test.YtlapkmobmgffoaaDoorSrtG
set_option linter.unusedVariables false
set_option linter.unusedSimpArgs false
namespace Go.Proofs.YtlapkmobmgffoaaDoor
open Go Go.Aw Go.Nst
set_option maxRecDepth 1000000
theorem w_callQB {P : Program} {f : FuncId} {args args' : List AV} {r : AV} {h : Heap} {K : AV → Prop} (hb : hasBody P f = true) (c : Con P f args' r) (hl : DLeL (args.map (tl 0 h 3)) args') (fl : Flat r) (k : K r) : iCallQ P (.fn (.func f) [] []) args h K :=
  ⟨r, iCall_borrowD hb c hl fl ⟨rfl, rfl⟩, k⟩
theorem befV_tup (a b : Dc) : ∃ x e, befV a b = .tup [bool x, int e] := by
  unfold befV
  split
  · exact ⟨_, _, rfl⟩
  · exact ⟨_, _, rfl⟩
set_option maxHeartbeats 4000000 in
theorem con_SorterRanks (a b : Dc) (ha : smallD a) (hb : smallD b) : Con Tryd.prog 3 [.agg (encD a), .agg (encD b)] (bool true) := by
  refine (V3 _ _).gives (by simp [encD_pure]) (by simp) ?_
  unfold W3
  have hG := con_Great2 a b ha hb
  have hR := con_Rank a ha
  have hRr := con_rRank a ha
  have hB := con_Before a b ha hb
  have hBr := con_rBefore a b ha hb
  have hS := con_sameInts (rkL a) (by simp [rkL])
  have hS0 := con_sameInts [] (by simp)
  obtain ⟨z1, z2, z3⟩ := ha
  have hC := con_dCheck a (by omega) (by omega)
  have hCr := con_rdCheck a (by omega) (by omega)
  obtain ⟨x, e, hbe⟩ := befV_tup a b
  rw [hbe] at hB hBr
  refine w_new rfl ?_
  refine w_new rfl ?_
  refine w_loadA rfl rfl (Nat.le_refl _) ?_
  refine w_loadA rfl rfl (Nat.le_refl _) ?_
  refine a_mkSl2 (a := encD a) (b := encD b) rfl rfl rfl rfl rfl rfl rfl ?_
  refine w_call rfl (by kernel_rfl) hG ?_
  refine a_cond rfl (fun _ => .pure (by simp) rfl) (fun _ => ?_)
  unfold rankT at hR hRr
  have gx : (x == x) = true := by simp
  have ge : decide (e = e) = true := by simp
  have gc : decide (errD a = errD a) = true := by simp
  cases ho : okD a with
  | true =>
    rw [ho, if_pos rfl] at hR hRr
    have g0 : decide ((0 : Int) = 0) = true := by simp
    refine w_loadA rfl rfl (Nat.le_refl _) ?_
    refine w_call rfl (by kernel_rfl) hR ?_
    refine a_extr rfl rfl ?_
    refine a_extr rfl rfl ?_
    refine w_loadA rfl rfl (Nat.le_refl _) ?_
    refine w_call rfl (by kernel_rfl) hRr ?_
    refine a_extr rfl rfl ?_
    refine a_extr rfl rfl ?_
    refine w_loadA rfl rfl (Nat.le_refl _) ?_
    refine w_loadA rfl rfl (Nat.le_refl _) ?_
    refine w_call rfl (by kernel_rfl) hB ?_
    refine a_extr rfl rfl ?_
    refine a_extr rfl rfl ?_
    refine w_loadA rfl rfl (Nat.le_refl _) ?_
    refine w_loadA rfl rfl (Nat.le_refl _) ?_
    refine w_call rfl (by kernel_rfl) hBr ?_
    refine a_extr rfl rfl ?_
    refine a_extr rfl rfl ?_
    refine w_callQ rfl (by kernel_rfl) hS ?_
    repeat' (first
      | (with_reducible apply w_let)
      | (with_reducible apply w_and)
      | (with_reducible refine And.intro True.intro ?_)
      | ((with_reducible apply a_lss); rfl; rfl)
      | ((with_reducible apply a_leq); rfl; rfl)
      | ((with_reducible apply a_gtr); rfl; rfl)
      | ((with_reducible apply a_geq); rfl; rfl)
      | ((with_reducible apply a_eql); rfl; rfl)
      | ((with_reducible apply a_neq); rfl; rfl)
      | ((with_reducible apply a_eqlS); rfl; rfl)
      | ((with_reducible apply a_neqS); rfl; rfl)
      | ((with_reducible apply a_eqlB); rfl; rfl)
      | ((with_reducible apply a_neqB); rfl; rfl)
      | ((with_reducible apply w_add); rfl; rfl; first | assumption | (unfold inI; omega))
      | ((with_reducible apply w_sub); rfl; rfl; first | assumption | (unfold inI; omega))
      | ((with_reducible apply a_not); rfl)
      | ((with_reducible apply w_pick_t); rfl)
      | ((with_reducible apply w_pick_f); rfl)
      | ((with_reducible apply a_cond1); rfl; first | rfl | assumption)
      | ((with_reducible apply a_cond0); rfl; first | rfl | assumption)
      | ((with_reducible apply a_guard1); rfl; first | rfl | assumption)
      | ((with_reducible apply a_guard0); rfl; first | rfl | assumption)
      | ((with_reducible apply w_guard_u); rfl)
      | ((with_reducible apply a_pick1); rfl; first | rfl | assumption)
      | ((with_reducible apply a_pick0); rfl; first | rfl | assumption)
      | ((with_reducible apply a_pickN); rfl)
      | ((with_reducible apply a_condN); rfl)
      | ((with_reducible apply a_guardN); rfl)
      | ((with_reducible apply w_fad); rfl)
      | ((with_reducible apply a_fadI); rfl)
      | ((with_reducible apply w_load); rfl; rfl; rfl)
      | ((with_reducible apply w_loadI); rfl)
      | ((with_reducible apply w_loadA); rfl; rfl; first | exact Nat.le_refl _ | exact Nat.le_of_ble_eq_true rfl)
      | ((with_reducible apply a_eqA); rfl; rfl; rfl)
      | ((with_reducible apply a_loadAI); rfl; first | rfl | simp)
      | ((with_reducible apply w_new); first | rfl | simp)
      | ((with_reducible apply a_store); rfl; rfl; rfl; rfl; (first | exact Nat.le_refl _ | simp); (first | rfl | simp); (first | rfl | simp))
      | ((with_reducible apply a_lenS); rfl; intro _)
      | ((with_reducible apply a_len); rfl; (first | rfl | simp); intro _)
      | ((with_reducible apply a_build); rfl)
      | ((with_reducible apply a_extr); rfl; rfl)
      | (refine w_callQ rfl (by kernel_rfl) hC ?_)
      | (refine w_callQ rfl (by kernel_rfl) hCr ?_)
      | ((with_reducible apply a_cond); rfl)
      | ((with_reducible apply a_guard); rfl)
      | (with_reducible intro _))
    all_goals first
      | (refine .pure (by simp) ?_; simp; done)
      | exact .pure (by simp) rfl
      | (exfalso; simp_all; done)
  | false =>
    rw [ho, if_neg (by simp)] at hR hRr
    refine w_loadA rfl rfl (Nat.le_refl _) ?_
    refine w_call rfl (by kernel_rfl) hR ?_
    refine a_extr rfl rfl ?_
    refine a_extr rfl rfl ?_
    refine w_loadA rfl rfl (Nat.le_refl _) ?_
    refine w_call rfl (by kernel_rfl) hRr ?_
    refine a_extr rfl rfl ?_
    refine a_extr rfl rfl ?_
    refine w_loadA rfl rfl (Nat.le_refl _) ?_
    refine w_loadA rfl rfl (Nat.le_refl _) ?_
    refine w_call rfl (by kernel_rfl) hB ?_
    refine a_extr rfl rfl ?_
    refine a_extr rfl rfl ?_
    refine w_loadA rfl rfl (Nat.le_refl _) ?_
    refine w_loadA rfl rfl (Nat.le_refl _) ?_
    refine w_call rfl (by kernel_rfl) hBr ?_
    refine a_extr rfl rfl ?_
    refine a_extr rfl rfl ?_
    refine w_callQB (by kernel_rfl) hS0 (by simp [tl, tlA, rkR]; exact .cons (.nil 1) (.cons (.nil 1) .nil)) (by simp) ?_
    repeat' (first
      | (with_reducible apply w_let)
      | (with_reducible apply w_and)
      | (with_reducible refine And.intro True.intro ?_)
      | ((with_reducible apply a_lss); rfl; rfl)
      | ((with_reducible apply a_leq); rfl; rfl)
      | ((with_reducible apply a_gtr); rfl; rfl)
      | ((with_reducible apply a_geq); rfl; rfl)
      | ((with_reducible apply a_eql); rfl; rfl)
      | ((with_reducible apply a_neq); rfl; rfl)
      | ((with_reducible apply a_eqlS); rfl; rfl)
      | ((with_reducible apply a_neqS); rfl; rfl)
      | ((with_reducible apply a_eqlB); rfl; rfl)
      | ((with_reducible apply a_neqB); rfl; rfl)
      | ((with_reducible apply w_add); rfl; rfl; first | assumption | (unfold inI; omega))
      | ((with_reducible apply w_sub); rfl; rfl; first | assumption | (unfold inI; omega))
      | ((with_reducible apply a_not); rfl)
      | ((with_reducible apply w_pick_t); rfl)
      | ((with_reducible apply w_pick_f); rfl)
      | ((with_reducible apply a_cond1); rfl; first | rfl | assumption)
      | ((with_reducible apply a_cond0); rfl; first | rfl | assumption)
      | ((with_reducible apply a_guard1); rfl; first | rfl | assumption)
      | ((with_reducible apply a_guard0); rfl; first | rfl | assumption)
      | ((with_reducible apply w_guard_u); rfl)
      | ((with_reducible apply a_pick1); rfl; first | rfl | assumption)
      | ((with_reducible apply a_pick0); rfl; first | rfl | assumption)
      | ((with_reducible apply a_pickN); rfl)
      | ((with_reducible apply a_condN); rfl)
      | ((with_reducible apply a_guardN); rfl)
      | ((with_reducible apply w_fad); rfl)
      | ((with_reducible apply a_fadI); rfl)
      | ((with_reducible apply w_load); rfl; rfl; rfl)
      | ((with_reducible apply w_loadI); rfl)
      | ((with_reducible apply w_loadA); rfl; rfl; first | exact Nat.le_refl _ | exact Nat.le_of_ble_eq_true rfl)
      | ((with_reducible apply a_eqA); rfl; rfl; rfl)
      | ((with_reducible apply a_loadAI); rfl; first | rfl | simp)
      | ((with_reducible apply w_new); first | rfl | simp)
      | ((with_reducible apply a_store); rfl; rfl; rfl; rfl; (first | exact Nat.le_refl _ | simp); (first | rfl | simp); (first | rfl | simp))
      | ((with_reducible apply a_lenS); rfl; intro _)
      | ((with_reducible apply a_len); rfl; (first | rfl | simp); intro _)
      | ((with_reducible apply a_build); rfl)
      | ((with_reducible apply a_extr); rfl; rfl)
      | (refine w_callQ rfl (by kernel_rfl) hC ?_)
      | (refine w_callQ rfl (by kernel_rfl) hCr ?_)
      | ((with_reducible apply a_cond); rfl)
      | ((with_reducible apply a_guard); rfl)
      | (with_reducible intro _))
    all_goals first
      | (refine .pure (by simp) ?_; simp; done)
      | exact .pure (by simp) rfl
      | (exfalso; simp_all; done)
end Go.Proofs.YtlapkmobmgffoaaDoor
