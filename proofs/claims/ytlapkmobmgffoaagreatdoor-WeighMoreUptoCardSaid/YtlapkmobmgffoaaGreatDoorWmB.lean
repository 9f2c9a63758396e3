/-
  A simple selector more never weighs less; two lists together: the law.
  No conditions: contracts.
-/
import Derived.Test.YtlapkmobmgffoaaGreatDoorWmA
import Derived.Test.YtlapkmobmgffoaaGreatDoorWWmc
set_option linter.unusedVariables false
set_option linter.unusedSimpArgs false
namespace Go.Proofs.YtlapkmobmgffoaaGreatDoor
open Go Go.Aw Go.Sel
set_option maxRecDepth 100000
variable [Laid]
set_option maxHeartbeats 8000000 in
theorem con_WeighMore (hal : Con Tryz.prog 13 [] (bool true)) (l m : List Cx) (hzl : zXs l < 2 ^ 39) (hzm : zXs m < 2 ^ 39) : Con Tryz.prog 4 [.sl 3 (encXs l), .sl 3 (encXs m)] (bool true) := by
  refine (V4 _ _).gives (by simp [pureXs]) (by simp) ?_
  unfold W4
  have hG1 := con_Great l (by omega)
  have hG2 := con_Great m (by omega)
  have hR1 := con_rCheck l (by omega)
  have hR2 := con_rCheck m (by omega)
  by_cases main : szXs 600 0 l ≤ 600 ∧ szXs 600 0 m ≤ 600 ∧ checkL l = 0 ∧ checkL m = 0
  · obtain ⟨g1, g2, c1, c2⟩ := main
    have z1 : zXs l ≤ 600 := by have := (szXs_le 600 0 l).2.1 g1; omega
    have z2 : zXs m ≤ 600 := by have := (szXs_le 600 0 m).2.1 g2; omega
    have hM1 := con_Most l (by omega)
    have hM2 := con_Most m (by omega)
    rw [mostV, c1, if_pos rfl] at hM1
    rw [mostV, c2, if_pos rfl] at hM2
    rw [c1] at hR1
    rw [c2] at hR2
    have e1 : decide (600 < szXs 600 0 l) = false := by simpa using g1
    have e2 : decide (600 < szXs 600 0 m) = false := by simpa using g2
    have hC : Con Tryz.prog 15 [w3 (wXs l), w3 (wXs m)] (.tup [int (ordW (wXs l) (wXs m)), int 0]) := by
      have := con_Compare (wXs l) (wXs m)
      rw [cmpW, cmpV, cmpE, okW_l (by omega), okW_l (by omega)] at this
      exact this
    obtain ⟨le, t, ss, ps, cs, l', rfl⟩ := first_of c1
    obtain ⟨le', t', ss', ps', cs', m', rfl⟩ := first_of c2
    repeat' (first
      | (with_reducible apply w_let)
      | (with_reducible apply w_and)
      | (with_reducible refine And.intro True.intro ?_)
      | ((with_reducible apply a_lss); rfl; rfl)
      | ((with_reducible apply a_leq); rfl; rfl)
      | ((with_reducible apply a_gtr); rfl; rfl)
      | ((with_reducible apply a_geq); rfl; rfl)
      | ((with_reducible apply a_eql); rfl; rfl)
      | ((with_reducible apply a_neq); rfl; rfl)
      | ((with_reducible apply a_eqlS); rfl; rfl)
      | ((with_reducible apply a_neqS); rfl; rfl)
      | ((with_reducible apply a_eqlB); rfl; rfl)
      | ((with_reducible apply a_neqB); rfl; rfl)
      | ((with_reducible apply w_add); rfl; rfl; first | assumption | (unfold inI; omega))
      | ((with_reducible apply w_sub); rfl; rfl; first | assumption | (unfold inI; omega))
      | ((with_reducible apply a_not); rfl)
      | ((with_reducible apply w_pick_t); rfl)
      | ((with_reducible apply w_pick_f); rfl)
      | ((with_reducible apply a_cond1); rfl; first | rfl | assumption)
      | ((with_reducible apply a_cond0); rfl; first | rfl | assumption)
      | ((with_reducible apply a_guard1); rfl; first | rfl | assumption)
      | ((with_reducible apply a_guard0); rfl; first | rfl | assumption)
      | ((with_reducible apply w_guard_u); rfl)
      | ((with_reducible apply a_pick1); rfl; first | rfl | assumption)
      | ((with_reducible apply a_pick0); rfl; first | rfl | assumption)
      | ((with_reducible apply a_pickN); rfl)
      | ((with_reducible apply a_condN); rfl)
      | ((with_reducible apply a_guardN); rfl)
      | ((with_reducible apply w_fad); rfl)
      | ((with_reducible apply a_fadI); rfl)
      | ((with_reducible apply w_load); rfl; rfl; rfl)
      | ((with_reducible apply w_loadI); rfl)
      | ((with_reducible apply w_loadA); rfl; rfl; first | exact Nat.le_refl _ | exact Nat.le_of_ble_eq_true rfl)
      | ((with_reducible apply a_eqA); rfl; rfl; rfl)
      | ((with_reducible apply a_loadAI); rfl; first | rfl | simp)
      | ((with_reducible apply w_new); first | rfl | simp)
      | ((with_reducible apply a_store); rfl; rfl; rfl; rfl; (first | exact Nat.le_refl _ | simp); (first | rfl | simp); (first | rfl | simp))
      | ((with_reducible apply a_lenS); rfl; intro _)
      | ((with_reducible apply a_len); rfl; (first | rfl | simp); intro _)
      | ((with_reducible apply a_build); rfl)
      | ((with_reducible apply a_extr); rfl; rfl)
      | (refine iCall_con (by kernel_rfl) (hG1) ?_)
      | (refine iCall_con (by kernel_rfl) (hG2) ?_)
      | (refine iCall_con (by kernel_rfl) (hR1) ?_)
      | (refine iCall_con (by kernel_rfl) (hR2) ?_)
      | (refine iCall_con (by kernel_rfl) (hM1) ?_)
      | (refine iCall_con (by kernel_rfl) (hM2) ?_)
      | (refine iCall_con (by kernel_rfl) (hC) ?_)
      | ((with_reducible apply a_store); rfl; rfl; rfl; rfl; (simp [w3]); rfl; rfl)
      | ((with_reducible apply a_cond); rfl)
      | ((with_reducible apply a_guard); rfl)
      | (with_reducible intro _))
    have le1 := zXs_len (.mk le (.mk t ss :: ps) cs :: l')
    have le2 := zXs_len (.mk le' (.mk t' ss' :: ps') cs' :: m')
    have ln1 : (encXs (.mk le (.mk t ss :: ps) cs :: l')).length = (Cx.mk le (.mk t ss :: ps) cs :: l').length := by rw [encXs_map, List.length_map]
    have ln2 : (encXs (.mk le' (.mk t' ss' :: ps') cs' :: m')).length = (Cx.mk le' (.mk t' ss' :: ps') cs' :: m').length := by rw [encXs_map, List.length_map]
    have s1 : ss.length ≤ 600 ∧ ps.length ≤ 600 := by
      rw [zXs, zX, zPs, zP] at z1
      have := zSs_len ss
      have := zPs_len ps
      omega
    have s2 : ss'.length ≤ 600 := by
      rw [zXs, zX, zPs, zP] at z2
      have := zSs_len ss'
      omega
    have lnS : (encSs ss).length = ss.length := by rw [encSs_map, List.length_map]
    have lnS' : (encSs ss').length = ss'.length := by rw [encSs_map, List.length_map]
    have lnP : (encPs ps).length = ps.length := by rw [encPs_map, List.length_map]
    have hE := con_Each (.mk le (.mk t ss :: ps) cs :: l') (by omega)
    rw [eachV, if_pos c1, c1] at hE
    have n4 : (!decide ((((List.map w3c (List.map wX (.mk le (.mk t ss :: ps) cs :: l'))).length : Nat) : Int) = (((encXs (.mk le (.mk t ss :: ps) cs :: l')).length : Nat) : Int))) = false := by simp [encXs_map]
    have hzm2 : zXs [moreX le t ss ss' ps cs] ≤ 1200 := by
      rw [zXs, zXs, moreX, zX, zPs, zP, zSs_append]
      rw [zXs, zX, zPs, zP] at z1 z2
      omega
    have hRm := con_rCheck [moreX le t ss ss' ps cs] (by omega)
    have hMm := con_Most [moreX le t ss ss' ps cs] (by omega)
    refine a_mkSl0 ?_
    refine a_app0 (rows := encXs (.mk le (.mk t ss :: ps) cs :: l')) rfl srcR_sl (rowsX _) (by unfold roomA maxLen; omega) ?_
    refine a_appB (rows := encXs (.mk le' (.mk t' ss' :: ps') cs' :: m')) (base := encXs (.mk le (.mk t ss :: ps) cs :: l')) rfl rfl rfl srcR_sl (rowsX _) (by unfold roomA maxLen; omega) ?_
    refine w_let ?_
    have hRa := con_rCheck ((.mk le (.mk t ss :: ps) cs :: l') ++ (.mk le' (.mk t' ss' :: ps') cs' :: m')) (by rw [zXs_append]; omega)
    have hMa := con_Most ((.mk le (.mk t ss :: ps) cs :: l') ++ (.mk le' (.mk t' ss' :: ps') cs' :: m')) (by rw [zXs_append]; omega)
    rw [encXs_append] at hRa hMa
    have pra : PureR (encXs (.mk le (.mk t ss :: ps) cs :: l') ++ encXs (.mk le' (.mk t' ss' :: ps') cs' :: m')) := by rw [← encXs_append]; exact pureXs _
    refine iCall_borrowD (by kernel_rfl) hRa (by rw [List.map_cons, List.map_nil, told_sb pra]; exact DLeL.refl _) (by simp) ?_
    have hwa := wXs_append (l := .mk le (.mk t ss :: ps) cs :: l') (m := .mk le' (.mk t' ss' :: ps') cs' :: m') (by simp) (by simp)
    have cases3 : checkL ((.mk le (.mk t ss :: ps) cs :: l') ++ (.mk le' (.mk t' ss' :: ps') cs' :: m')) ≠ 0 ∨ checkL ((.mk le (.mk t ss :: ps) cs :: l') ++ (.mk le' (.mk t' ss' :: ps') cs' :: m')) = 0 := by omega
    refine a_eql rfl rfl ?_
    rcases cases3 with ca | ca
    · refine a_cond0 rfl (by simpa using ca) ?_
      refine w_and ?_
      refine n_mkSl0 (h' := [_, _, _]) rfl ?_
      refine a_idx (l := .mk le (.mk t ss :: ps) cs :: l') rfl (encXs_map _) (n := 0) rfl rfl ?_
      refine a_loadAI rfl (by simp [encX_eq]) ?_
      refine n_mkSl1 (n := 3) (h' := [_, _, _, _]) (cs := [u1 le, .sl 2 (encPs (.mk t ss :: ps)), .sl 1 (cs.map fun c => [u1 c])]) (by rw [encX]; rfl) rfl rfl rfl rfl rfl ?_
      refine n_appO (n := 4) (h' := [_, _, _, _, _]) (k := 1) (rows := [[u1 le, .sl 2 (encPs (.mk t ss :: ps)), .sl 1 (cs.map fun c => [u1 c])]]) rfl ((srcR_own rfl (Nat.le_refl _)).trans rfl) rfl (by simp) rfl (by unfold roomA maxLen; simp) rfl rfl ?_
      refine a_idxOw (n := 0) rfl rfl (by simp) ?_
      refine w_fad rfl ?_
      refine w_load rfl rfl rfl ?_
      refine a_idx (l := .mk t ss :: ps) rfl (encPs_map _) (n := 0) rfl rfl ?_
      refine a_loadAI rfl (by simp [encP]) ?_
      refine n_new (n := 5) (h' := [_, _, _, _, _, _]) rfl rfl rfl rfl ?_
      refine n_store (h' := [_, _, _, _, _, _]) (cs := [.str t, .sl 9 (encSs ss)]) rfl rfl rfl (by rw [encP]; rfl) (Nat.le_refl _) rfl rfl rfl ?_
      refine w_fad rfl ?_
      refine w_load rfl rfl rfl ?_
      refine a_idx (l := .mk le' (.mk t' ss' :: ps') cs' :: m') rfl (encXs_map _) (n := 0) rfl rfl ?_
      rw [encX]
      refine a_fadI rfl ?_
      refine w_loadI rfl ?_
      refine a_idx (l := .mk t' ss' :: ps') rfl (encPs_map _) (n := 0) rfl rfl ?_
      rw [encP]
      refine a_fadI rfl ?_
      refine w_loadI rfl ?_
      refine a_mkSl0 ?_
      refine n_app0 (n := 6) (h' := [_, _, _, _, _, _, _]) (rows := encSs ss) rfl srcR_sl (rowsS _) rfl (by unfold roomA maxLen; omega) rfl rfl ?_
      refine n_appB (h' := [_, _, _, _, _, _, _]) (rows := encSs ss') (base := encSs ss) rfl rfl rfl srcR_sl (rowsS _) (by unfold roomA maxLen; omega) rfl ?_
      refine w_fad rfl ?_
      refine n_store (h' := [_, _, _, _, _, _, _]) (cs := [.sb 6 9 (encSs ss ++ encSs ss')]) rfl rfl rfl rfl (Nat.le_refl _) rfl rfl rfl ?_
      refine w_loadA rfl rfl (Nat.le_refl _) ?_
      refine a_idxOw (n := 0) rfl rfl (by simp) ?_
      refine w_fad rfl ?_
      refine w_load rfl rfl rfl ?_
      refine a_slT rfl (by simp [encPs_map]) ?_
      refine n_mkSl1 (n := 7) (h' := [_, _, _, _, _, _, _, _]) (cs := [.str t, .sb 6 9 (encSs ss ++ encSs ss')]) rfl rfl rfl rfl rfl rfl ?_
      refine n_appK (n := 8) (h' := [_, _, _, _, _, _, _, _, _]) (id := 7) (cells := [.str t, .sb 6 9 (encSs ss ++ encSs ss')]) (rows := encPs ps) rfl rfl (Nat.le_refl _) (by omega) (srcR_sl.trans (by rw [encPs]; rfl)) (rowsP _) (by unfold roomA maxLen; omega) rfl rfl ?_
      refine a_idxOw (n := 0) rfl rfl (by simp) ?_
      refine w_fad rfl ?_
      refine n_store (h' := [_, _, _, _, _, _, _, _, _]) (cs := [.own 8 0 (1 + (encPs ps).length) 2]) rfl rfl rfl rfl (by simp [setAll]) rfl rfl rfl ?_
      repeat' (first
        | (with_reducible apply w_let)
        | (with_reducible apply w_and)
        | (with_reducible refine And.intro True.intro ?_)
        | ((with_reducible apply a_lss); rfl; rfl)
        | ((with_reducible apply a_leq); rfl; rfl)
        | ((with_reducible apply a_gtr); rfl; rfl)
        | ((with_reducible apply a_geq); rfl; rfl)
        | ((with_reducible apply a_eql); rfl; rfl)
        | ((with_reducible apply a_neq); rfl; rfl)
        | ((with_reducible apply a_eqlS); rfl; rfl)
        | ((with_reducible apply a_neqS); rfl; rfl)
        | ((with_reducible apply a_eqlB); rfl; rfl)
        | ((with_reducible apply a_neqB); rfl; rfl)
        | ((with_reducible apply w_add); rfl; rfl; first | assumption | (unfold inI; omega))
        | ((with_reducible apply w_sub); rfl; rfl; first | assumption | (unfold inI; omega))
        | ((with_reducible apply a_not); rfl)
        | ((with_reducible apply w_pick_t); rfl)
        | ((with_reducible apply w_pick_f); rfl)
        | ((with_reducible apply a_cond1); rfl; first | rfl | assumption)
        | ((with_reducible apply a_cond0); rfl; first | rfl | assumption)
        | ((with_reducible apply a_guard1); rfl; first | rfl | assumption)
        | ((with_reducible apply a_guard0); rfl; first | rfl | assumption)
        | ((with_reducible apply w_guard_u); rfl)
        | ((with_reducible apply a_pick1); rfl; first | rfl | assumption)
        | ((with_reducible apply a_pick0); rfl; first | rfl | assumption)
        | ((with_reducible apply a_pickN); rfl)
        | ((with_reducible apply a_condN); rfl)
        | ((with_reducible apply a_guardN); rfl)
        | ((with_reducible apply w_fad); rfl)
        | ((with_reducible apply a_fadI); rfl)
        | ((with_reducible apply w_load); rfl; rfl; rfl)
        | ((with_reducible apply w_loadI); rfl)
        | ((with_reducible apply w_loadA); rfl; rfl; first | exact Nat.le_refl _ | exact Nat.le_of_ble_eq_true rfl)
        | ((with_reducible apply a_eqA); rfl; rfl; rfl)
        | ((with_reducible apply a_loadAI); rfl; first | rfl | simp)
        | ((with_reducible apply w_new); first | rfl | simp)
        | ((with_reducible apply a_store); rfl; rfl; rfl; rfl; (first | exact Nat.le_refl _ | simp); (first | rfl | simp); (first | rfl | simp))
        | ((with_reducible apply a_lenS); rfl; intro _)
        | ((with_reducible apply a_len); rfl; (first | rfl | simp); intro _)
        | ((with_reducible apply a_build); rfl)
        | ((with_reducible apply a_extr); rfl; rfl)
        | (refine iCall_con (by kernel_rfl) (hE) ?_)
        | ((with_reducible apply a_cond); rfl)
        | ((with_reducible apply a_guard); rfl)
        | (with_reducible intro _))
      refine iCall_borrowD (by kernel_rfl) hRm (by rw [List.map_cons, List.map_nil, told_more (i3 := 6) rfl rfl rfl rfl]; exact DLeL.refl _) (by simp) ?_
      by_cases cm : checkL [moreX le t ss ss' ps cs] = 0
      · have n5 : (!decide (checkL [moreX le t ss ss' ps cs] = 0)) = false := by simpa using cm
        rw [mostV, cm, if_pos rfl, wXs, wM] at hMm
        have hC2 : Con Tryz.prog 15 [w3 (wX (.mk le (.mk t ss :: ps) cs)), w3 (wX (moreX le t ss ss' ps cs))] (.tup [int (ordW (wX (.mk le (.mk t ss :: ps) cs)) (wX (moreX le t ss ss' ps cs))), int 0]) := by
          have := con_Compare (wX (.mk le (.mk t ss :: ps) cs)) (wX (moreX le t ss ss' ps cs))
          rw [cmpW, cmpV, cmpE, okW_of (wX_bd _) (by rw [zXs] at z1; omega), okW_of (wX_bd _) (by rw [moreX, zX, zPs, zP, zSs_append]; rw [zXs, zX, zPs, zP] at z1 z2; omega)] at this
          exact this
        have n6 : decide (ordW (wX (.mk le (.mk t ss :: ps) cs)) (wX (moreX le t ss ss' ps cs)) ≤ 0) = true := by simpa using more_le le t ss ss' ps cs
        repeat' (first
          | (with_reducible apply w_let)
          | (with_reducible apply w_and)
          | (with_reducible refine And.intro True.intro ?_)
          | ((with_reducible apply a_lss); rfl; rfl)
          | ((with_reducible apply a_leq); rfl; rfl)
          | ((with_reducible apply a_gtr); rfl; rfl)
          | ((with_reducible apply a_geq); rfl; rfl)
          | ((with_reducible apply a_eql); rfl; rfl)
          | ((with_reducible apply a_neq); rfl; rfl)
          | ((with_reducible apply a_eqlS); rfl; rfl)
          | ((with_reducible apply a_neqS); rfl; rfl)
          | ((with_reducible apply a_eqlB); rfl; rfl)
          | ((with_reducible apply a_neqB); rfl; rfl)
          | ((with_reducible apply w_add); rfl; rfl; first | assumption | (unfold inI; omega))
          | ((with_reducible apply w_sub); rfl; rfl; first | assumption | (unfold inI; omega))
          | ((with_reducible apply a_not); rfl)
          | ((with_reducible apply w_pick_t); rfl)
          | ((with_reducible apply w_pick_f); rfl)
          | ((with_reducible apply a_cond1); rfl; first | rfl | assumption)
          | ((with_reducible apply a_cond0); rfl; first | rfl | assumption)
          | ((with_reducible apply a_guard1); rfl; first | rfl | assumption)
          | ((with_reducible apply a_guard0); rfl; first | rfl | assumption)
          | ((with_reducible apply w_guard_u); rfl)
          | ((with_reducible apply a_pick1); rfl; first | rfl | assumption)
          | ((with_reducible apply a_pick0); rfl; first | rfl | assumption)
          | ((with_reducible apply a_pickN); rfl)
          | ((with_reducible apply a_condN); rfl)
          | ((with_reducible apply a_guardN); rfl)
          | ((with_reducible apply w_fad); rfl)
          | ((with_reducible apply a_fadI); rfl)
          | ((with_reducible apply w_load); rfl; rfl; rfl)
          | ((with_reducible apply w_loadI); rfl)
          | ((with_reducible apply w_loadA); rfl; rfl; first | exact Nat.le_refl _ | exact Nat.le_of_ble_eq_true rfl)
          | ((with_reducible apply a_eqA); rfl; rfl; rfl)
          | ((with_reducible apply a_loadAI); rfl; first | rfl | simp)
          | ((with_reducible apply w_new); first | rfl | simp)
          | ((with_reducible apply a_store); rfl; rfl; rfl; rfl; (first | exact Nat.le_refl _ | simp); (first | rfl | simp); (first | rfl | simp))
          | ((with_reducible apply a_lenS); rfl; intro _)
          | ((with_reducible apply a_len); rfl; (first | rfl | simp); intro _)
          | ((with_reducible apply a_build); rfl)
          | ((with_reducible apply a_extr); rfl; rfl)
          | ((with_reducible apply a_cond); rfl)
          | ((with_reducible apply a_guard); rfl)
          | (with_reducible intro _))
        refine iCall_borrowD (by kernel_rfl) hMm (by rw [List.map_cons, List.map_nil, told_more (i3 := 6) rfl rfl rfl rfl]; exact DLeL.refl _) (by simp) ?_
        repeat' (first
          | (with_reducible apply w_let)
          | (with_reducible apply w_and)
          | (with_reducible refine And.intro True.intro ?_)
          | ((with_reducible apply a_lss); rfl; rfl)
          | ((with_reducible apply a_leq); rfl; rfl)
          | ((with_reducible apply a_gtr); rfl; rfl)
          | ((with_reducible apply a_geq); rfl; rfl)
          | ((with_reducible apply a_eql); rfl; rfl)
          | ((with_reducible apply a_neq); rfl; rfl)
          | ((with_reducible apply a_eqlS); rfl; rfl)
          | ((with_reducible apply a_neqS); rfl; rfl)
          | ((with_reducible apply a_eqlB); rfl; rfl)
          | ((with_reducible apply a_neqB); rfl; rfl)
          | ((with_reducible apply w_add); rfl; rfl; first | assumption | (unfold inI; omega))
          | ((with_reducible apply w_sub); rfl; rfl; first | assumption | (unfold inI; omega))
          | ((with_reducible apply a_not); rfl)
          | ((with_reducible apply w_pick_t); rfl)
          | ((with_reducible apply w_pick_f); rfl)
          | ((with_reducible apply a_cond1); rfl; first | rfl | assumption)
          | ((with_reducible apply a_cond0); rfl; first | rfl | assumption)
          | ((with_reducible apply a_guard1); rfl; first | rfl | assumption)
          | ((with_reducible apply a_guard0); rfl; first | rfl | assumption)
          | ((with_reducible apply w_guard_u); rfl)
          | ((with_reducible apply a_pick1); rfl; first | rfl | assumption)
          | ((with_reducible apply a_pick0); rfl; first | rfl | assumption)
          | ((with_reducible apply a_pickN); rfl)
          | ((with_reducible apply a_condN); rfl)
          | ((with_reducible apply a_guardN); rfl)
          | ((with_reducible apply w_fad); rfl)
          | ((with_reducible apply a_fadI); rfl)
          | ((with_reducible apply w_load); rfl; rfl; rfl)
          | ((with_reducible apply w_loadI); rfl)
          | ((with_reducible apply w_loadA); rfl; rfl; first | exact Nat.le_refl _ | exact Nat.le_of_ble_eq_true rfl)
          | ((with_reducible apply a_eqA); rfl; rfl; rfl)
          | ((with_reducible apply a_loadAI); rfl; first | rfl | simp)
          | ((with_reducible apply w_new); first | rfl | simp)
          | ((with_reducible apply a_store); rfl; rfl; rfl; rfl; (first | exact Nat.le_refl _ | simp); (first | rfl | simp); (first | rfl | simp))
          | ((with_reducible apply a_lenS); rfl; intro _)
          | ((with_reducible apply a_len); rfl; (first | rfl | simp); intro _)
          | ((with_reducible apply a_build); rfl)
          | ((with_reducible apply a_extr); rfl; rfl)
          | (refine a_idx (l := wX (.mk le (.mk t ss :: ps) cs) :: l'.map wX) (f := w3c) rfl rfl (n := 0) rfl rfl ?_)
          | (refine w_callQ rfl (by kernel_rfl) hC2 ?_)
          | (refine iCall_con (by kernel_rfl) (hal) ?_)
          | ((with_reducible apply a_store); rfl; rfl; rfl; rfl; (simp [w3]); rfl; rfl)
          | ((with_reducible apply a_cond); rfl)
          | ((with_reducible apply a_guard); rfl)
          | (with_reducible intro _))
        all_goals first
          | exact .pure (by simp) rfl
          | (exfalso; simp_all; done)
          | (exfalso; grind)
      · have n5 : (!decide (checkL [moreX le t ss ss' ps cs] = 0)) = true := by simpa using cm
        repeat' (first
          | (with_reducible apply w_let)
          | (with_reducible apply w_and)
          | (with_reducible refine And.intro True.intro ?_)
          | ((with_reducible apply a_lss); rfl; rfl)
          | ((with_reducible apply a_leq); rfl; rfl)
          | ((with_reducible apply a_gtr); rfl; rfl)
          | ((with_reducible apply a_geq); rfl; rfl)
          | ((with_reducible apply a_eql); rfl; rfl)
          | ((with_reducible apply a_neq); rfl; rfl)
          | ((with_reducible apply a_eqlS); rfl; rfl)
          | ((with_reducible apply a_neqS); rfl; rfl)
          | ((with_reducible apply a_eqlB); rfl; rfl)
          | ((with_reducible apply a_neqB); rfl; rfl)
          | ((with_reducible apply w_add); rfl; rfl; first | assumption | (unfold inI; omega))
          | ((with_reducible apply w_sub); rfl; rfl; first | assumption | (unfold inI; omega))
          | ((with_reducible apply a_not); rfl)
          | ((with_reducible apply w_pick_t); rfl)
          | ((with_reducible apply w_pick_f); rfl)
          | ((with_reducible apply a_cond1); rfl; first | rfl | assumption)
          | ((with_reducible apply a_cond0); rfl; first | rfl | assumption)
          | ((with_reducible apply a_guard1); rfl; first | rfl | assumption)
          | ((with_reducible apply a_guard0); rfl; first | rfl | assumption)
          | ((with_reducible apply w_guard_u); rfl)
          | ((with_reducible apply a_pick1); rfl; first | rfl | assumption)
          | ((with_reducible apply a_pick0); rfl; first | rfl | assumption)
          | ((with_reducible apply a_pickN); rfl)
          | ((with_reducible apply a_condN); rfl)
          | ((with_reducible apply a_guardN); rfl)
          | ((with_reducible apply w_fad); rfl)
          | ((with_reducible apply a_fadI); rfl)
          | ((with_reducible apply w_load); rfl; rfl; rfl)
          | ((with_reducible apply w_loadI); rfl)
          | ((with_reducible apply w_loadA); rfl; rfl; first | exact Nat.le_refl _ | exact Nat.le_of_ble_eq_true rfl)
          | ((with_reducible apply a_eqA); rfl; rfl; rfl)
          | ((with_reducible apply a_loadAI); rfl; first | rfl | simp)
          | ((with_reducible apply w_new); first | rfl | simp)
          | ((with_reducible apply a_store); rfl; rfl; rfl; rfl; (first | exact Nat.le_refl _ | simp); (first | rfl | simp); (first | rfl | simp))
          | ((with_reducible apply a_lenS); rfl; intro _)
          | ((with_reducible apply a_len); rfl; (first | rfl | simp); intro _)
          | ((with_reducible apply a_build); rfl)
          | ((with_reducible apply a_extr); rfl; rfl)
          | (refine iCall_con (by kernel_rfl) (hal) ?_)
          | ((with_reducible apply a_cond); rfl)
          | ((with_reducible apply a_guard); rfl)
          | (with_reducible intro _))
        exact .pure (by simp) rfl
    · refine a_cond1 rfl (by simpa using ca) ?_
      rw [mostV, ca, if_pos rfl, hwa] at hMa
      by_cases hn : 0 ≤ ordW (wXs (.mk le (.mk t ss :: ps) cs :: l')) (wXs (.mk le' (.mk t' ss' :: ps') cs' :: m'))
      · rw [if_pos hn] at hMa
        have n1 : decide (0 ≤ ordW (wXs (.mk le (.mk t ss :: ps) cs :: l')) (wXs (.mk le' (.mk t' ss' :: ps') cs' :: m'))) = true := by simpa using hn
        have n2 : decide (ordW (wXs (.mk le (.mk t ss :: ps) cs :: l')) (wXs (.mk le' (.mk t' ss' :: ps') cs' :: m')) < 0) = false := by simpa using hn
        refine iCall_borrowD (by kernel_rfl) hMa (by rw [List.map_cons, List.map_nil, told_sb pra]; exact DLeL.refl _) (by simp) ?_
        repeat' (first
          | ((with_reducible apply a_neW); rfl; rfl)
          | (with_reducible apply w_let)
          | (with_reducible apply w_and)
          | (with_reducible refine And.intro True.intro ?_)
          | ((with_reducible apply a_lss); rfl; rfl)
          | ((with_reducible apply a_leq); rfl; rfl)
          | ((with_reducible apply a_gtr); rfl; rfl)
          | ((with_reducible apply a_geq); rfl; rfl)
          | ((with_reducible apply a_eql); rfl; rfl)
          | ((with_reducible apply a_neq); rfl; rfl)
          | ((with_reducible apply a_eqlS); rfl; rfl)
          | ((with_reducible apply a_neqS); rfl; rfl)
          | ((with_reducible apply a_eqlB); rfl; rfl)
          | ((with_reducible apply a_neqB); rfl; rfl)
          | ((with_reducible apply w_add); rfl; rfl; first | assumption | (unfold inI; omega))
          | ((with_reducible apply w_sub); rfl; rfl; first | assumption | (unfold inI; omega))
          | ((with_reducible apply a_not); rfl)
          | ((with_reducible apply w_pick_t); rfl)
          | ((with_reducible apply w_pick_f); rfl)
          | ((with_reducible apply a_cond1); rfl; first | rfl | assumption)
          | ((with_reducible apply a_cond0); rfl; first | rfl | assumption)
          | ((with_reducible apply a_guard1); rfl; first | rfl | assumption)
          | ((with_reducible apply a_guard0); rfl; first | rfl | assumption)
          | ((with_reducible apply w_guard_u); rfl)
          | ((with_reducible apply a_pick1); rfl; first | rfl | assumption)
          | ((with_reducible apply a_pick0); rfl; first | rfl | assumption)
          | ((with_reducible apply a_pickN); rfl)
          | ((with_reducible apply a_condN); rfl)
          | ((with_reducible apply a_guardN); rfl)
          | ((with_reducible apply w_fad); rfl)
          | ((with_reducible apply a_fadI); rfl)
          | ((with_reducible apply w_load); rfl; rfl; rfl)
          | ((with_reducible apply w_loadI); rfl)
          | ((with_reducible apply w_loadA); rfl; rfl; first | exact Nat.le_refl _ | exact Nat.le_of_ble_eq_true rfl)
          | ((with_reducible apply a_eqA); rfl; rfl; rfl)
          | ((with_reducible apply a_loadAI); rfl; first | rfl | simp)
          | ((with_reducible apply w_new); first | rfl | simp)
          | ((with_reducible apply a_store); rfl; rfl; rfl; rfl; (first | exact Nat.le_refl _ | simp); (first | rfl | simp); (first | rfl | simp))
          | ((with_reducible apply a_lenS); rfl; intro _)
          | ((with_reducible apply a_len); rfl; (first | rfl | simp); intro _)
          | ((with_reducible apply a_build); rfl)
          | ((with_reducible apply a_extr); rfl; rfl)
          | ((with_reducible apply a_store); rfl; rfl; rfl; rfl; (simp [w3]); rfl; rfl)
          | ((with_reducible apply a_cond); rfl)
          | ((with_reducible apply a_guard); rfl)
          | (with_reducible intro _))
        refine n_mkSl0 (h' := [_, _, _, _]) rfl ?_
        refine a_idx (l := .mk le (.mk t ss :: ps) cs :: l') rfl (encXs_map _) (n := 0) rfl rfl ?_
        refine a_loadAI rfl (by simp [encX_eq]) ?_
        refine n_mkSl1 (n := 4) (h' := [_, _, _, _, _]) (cs := [u1 le, .sl 2 (encPs (.mk t ss :: ps)), .sl 1 (cs.map fun c => [u1 c])]) (by rw [encX]; rfl) rfl rfl rfl rfl rfl ?_
        refine n_appO (n := 5) (h' := [_, _, _, _, _, _]) (k := 1) (rows := [[u1 le, .sl 2 (encPs (.mk t ss :: ps)), .sl 1 (cs.map fun c => [u1 c])]]) rfl ((srcR_own rfl (Nat.le_refl _)).trans rfl) rfl (by simp) rfl (by unfold roomA maxLen; simp) rfl rfl ?_
        refine a_idxOw (n := 0) rfl rfl (by simp) ?_
        refine w_fad rfl ?_
        refine w_load rfl rfl rfl ?_
        refine a_idx (l := .mk t ss :: ps) rfl (encPs_map _) (n := 0) rfl rfl ?_
        refine a_loadAI rfl (by simp [encP]) ?_
        refine n_new (n := 6) (h' := [_, _, _, _, _, _, _]) rfl rfl rfl rfl ?_
        refine n_store (h' := [_, _, _, _, _, _, _]) (cs := [.str t, .sl 9 (encSs ss)]) rfl rfl rfl (by rw [encP]; rfl) (Nat.le_refl _) rfl rfl rfl ?_
        refine w_fad rfl ?_
        refine w_load rfl rfl rfl ?_
        refine a_idx (l := .mk le' (.mk t' ss' :: ps') cs' :: m') rfl (encXs_map _) (n := 0) rfl rfl ?_
        rw [encX]
        refine a_fadI rfl ?_
        refine w_loadI rfl ?_
        refine a_idx (l := .mk t' ss' :: ps') rfl (encPs_map _) (n := 0) rfl rfl ?_
        rw [encP]
        refine a_fadI rfl ?_
        refine w_loadI rfl ?_
        refine a_mkSl0 ?_
        refine n_app0 (n := 7) (h' := [_, _, _, _, _, _, _, _]) (rows := encSs ss) rfl srcR_sl (rowsS _) rfl (by unfold roomA maxLen; omega) rfl rfl ?_
        refine n_appB (h' := [_, _, _, _, _, _, _, _]) (rows := encSs ss') (base := encSs ss) rfl rfl rfl srcR_sl (rowsS _) (by unfold roomA maxLen; omega) rfl ?_
        refine w_fad rfl ?_
        refine n_store (h' := [_, _, _, _, _, _, _, _]) (cs := [.sb 7 9 (encSs ss ++ encSs ss')]) rfl rfl rfl rfl (Nat.le_refl _) rfl rfl rfl ?_
        refine w_loadA rfl rfl (Nat.le_refl _) ?_
        refine a_idxOw (n := 0) rfl rfl (by simp) ?_
        refine w_fad rfl ?_
        refine w_load rfl rfl rfl ?_
        refine a_slT rfl (by simp [encPs_map]) ?_
        refine n_mkSl1 (n := 8) (h' := [_, _, _, _, _, _, _, _, _]) (cs := [.str t, .sb 7 9 (encSs ss ++ encSs ss')]) rfl rfl rfl rfl rfl rfl ?_
        refine n_appK (n := 9) (h' := [_, _, _, _, _, _, _, _, _, _]) (id := 8) (cells := [.str t, .sb 7 9 (encSs ss ++ encSs ss')]) (rows := encPs ps) rfl rfl (Nat.le_refl _) (by omega) (srcR_sl.trans (by rw [encPs]; rfl)) (rowsP _) (by unfold roomA maxLen; omega) rfl rfl ?_
        refine a_idxOw (n := 0) rfl rfl (by simp) ?_
        refine w_fad rfl ?_
        refine n_store (h' := [_, _, _, _, _, _, _, _, _, _]) (cs := [.own 9 0 (1 + (encPs ps).length) 2]) rfl rfl rfl rfl (by simp [setAll]) rfl rfl rfl ?_
        repeat' (first
          | (with_reducible apply w_let)
          | (with_reducible apply w_and)
          | (with_reducible refine And.intro True.intro ?_)
          | ((with_reducible apply a_lss); rfl; rfl)
          | ((with_reducible apply a_leq); rfl; rfl)
          | ((with_reducible apply a_gtr); rfl; rfl)
          | ((with_reducible apply a_geq); rfl; rfl)
          | ((with_reducible apply a_eql); rfl; rfl)
          | ((with_reducible apply a_neq); rfl; rfl)
          | ((with_reducible apply a_eqlS); rfl; rfl)
          | ((with_reducible apply a_neqS); rfl; rfl)
          | ((with_reducible apply a_eqlB); rfl; rfl)
          | ((with_reducible apply a_neqB); rfl; rfl)
          | ((with_reducible apply w_add); rfl; rfl; first | assumption | (unfold inI; omega))
          | ((with_reducible apply w_sub); rfl; rfl; first | assumption | (unfold inI; omega))
          | ((with_reducible apply a_not); rfl)
          | ((with_reducible apply w_pick_t); rfl)
          | ((with_reducible apply w_pick_f); rfl)
          | ((with_reducible apply a_cond1); rfl; first | rfl | assumption)
          | ((with_reducible apply a_cond0); rfl; first | rfl | assumption)
          | ((with_reducible apply a_guard1); rfl; first | rfl | assumption)
          | ((with_reducible apply a_guard0); rfl; first | rfl | assumption)
          | ((with_reducible apply w_guard_u); rfl)
          | ((with_reducible apply a_pick1); rfl; first | rfl | assumption)
          | ((with_reducible apply a_pick0); rfl; first | rfl | assumption)
          | ((with_reducible apply a_pickN); rfl)
          | ((with_reducible apply a_condN); rfl)
          | ((with_reducible apply a_guardN); rfl)
          | ((with_reducible apply w_fad); rfl)
          | ((with_reducible apply a_fadI); rfl)
          | ((with_reducible apply w_load); rfl; rfl; rfl)
          | ((with_reducible apply w_loadI); rfl)
          | ((with_reducible apply w_loadA); rfl; rfl; first | exact Nat.le_refl _ | exact Nat.le_of_ble_eq_true rfl)
          | ((with_reducible apply a_eqA); rfl; rfl; rfl)
          | ((with_reducible apply a_loadAI); rfl; first | rfl | simp)
          | ((with_reducible apply w_new); first | rfl | simp)
          | ((with_reducible apply a_store); rfl; rfl; rfl; rfl; (first | exact Nat.le_refl _ | simp); (first | rfl | simp); (first | rfl | simp))
          | ((with_reducible apply a_lenS); rfl; intro _)
          | ((with_reducible apply a_len); rfl; (first | rfl | simp); intro _)
          | ((with_reducible apply a_build); rfl)
          | ((with_reducible apply a_extr); rfl; rfl)
          | (refine iCall_con (by kernel_rfl) (hE) ?_)
          | ((with_reducible apply a_cond); rfl)
          | ((with_reducible apply a_guard); rfl)
          | (with_reducible intro _))
        refine iCall_borrowD (by kernel_rfl) hRm (by rw [List.map_cons, List.map_nil, told_more (i3 := 7) rfl rfl rfl rfl]; exact DLeL.refl _) (by simp) ?_
        by_cases cm : checkL [moreX le t ss ss' ps cs] = 0
        · have n5 : (!decide (checkL [moreX le t ss ss' ps cs] = 0)) = false := by simpa using cm
          rw [mostV, cm, if_pos rfl, wXs, wM] at hMm
          have hC2 : Con Tryz.prog 15 [w3 (wX (.mk le (.mk t ss :: ps) cs)), w3 (wX (moreX le t ss ss' ps cs))] (.tup [int (ordW (wX (.mk le (.mk t ss :: ps) cs)) (wX (moreX le t ss ss' ps cs))), int 0]) := by
            have := con_Compare (wX (.mk le (.mk t ss :: ps) cs)) (wX (moreX le t ss ss' ps cs))
            rw [cmpW, cmpV, cmpE, okW_of (wX_bd _) (by rw [zXs] at z1; omega), okW_of (wX_bd _) (by rw [moreX, zX, zPs, zP, zSs_append]; rw [zXs, zX, zPs, zP] at z1 z2; omega)] at this
            exact this
          have n6 : decide (ordW (wX (.mk le (.mk t ss :: ps) cs)) (wX (moreX le t ss ss' ps cs)) ≤ 0) = true := by simpa using more_le le t ss ss' ps cs
          repeat' (first
            | (with_reducible apply w_let)
            | (with_reducible apply w_and)
            | (with_reducible refine And.intro True.intro ?_)
            | ((with_reducible apply a_lss); rfl; rfl)
            | ((with_reducible apply a_leq); rfl; rfl)
            | ((with_reducible apply a_gtr); rfl; rfl)
            | ((with_reducible apply a_geq); rfl; rfl)
            | ((with_reducible apply a_eql); rfl; rfl)
            | ((with_reducible apply a_neq); rfl; rfl)
            | ((with_reducible apply a_eqlS); rfl; rfl)
            | ((with_reducible apply a_neqS); rfl; rfl)
            | ((with_reducible apply a_eqlB); rfl; rfl)
            | ((with_reducible apply a_neqB); rfl; rfl)
            | ((with_reducible apply w_add); rfl; rfl; first | assumption | (unfold inI; omega))
            | ((with_reducible apply w_sub); rfl; rfl; first | assumption | (unfold inI; omega))
            | ((with_reducible apply a_not); rfl)
            | ((with_reducible apply w_pick_t); rfl)
            | ((with_reducible apply w_pick_f); rfl)
            | ((with_reducible apply a_cond1); rfl; first | rfl | assumption)
            | ((with_reducible apply a_cond0); rfl; first | rfl | assumption)
            | ((with_reducible apply a_guard1); rfl; first | rfl | assumption)
            | ((with_reducible apply a_guard0); rfl; first | rfl | assumption)
            | ((with_reducible apply w_guard_u); rfl)
            | ((with_reducible apply a_pick1); rfl; first | rfl | assumption)
            | ((with_reducible apply a_pick0); rfl; first | rfl | assumption)
            | ((with_reducible apply a_pickN); rfl)
            | ((with_reducible apply a_condN); rfl)
            | ((with_reducible apply a_guardN); rfl)
            | ((with_reducible apply w_fad); rfl)
            | ((with_reducible apply a_fadI); rfl)
            | ((with_reducible apply w_load); rfl; rfl; rfl)
            | ((with_reducible apply w_loadI); rfl)
            | ((with_reducible apply w_loadA); rfl; rfl; first | exact Nat.le_refl _ | exact Nat.le_of_ble_eq_true rfl)
            | ((with_reducible apply a_eqA); rfl; rfl; rfl)
            | ((with_reducible apply a_loadAI); rfl; first | rfl | simp)
            | ((with_reducible apply w_new); first | rfl | simp)
            | ((with_reducible apply a_store); rfl; rfl; rfl; rfl; (first | exact Nat.le_refl _ | simp); (first | rfl | simp); (first | rfl | simp))
            | ((with_reducible apply a_lenS); rfl; intro _)
            | ((with_reducible apply a_len); rfl; (first | rfl | simp); intro _)
            | ((with_reducible apply a_build); rfl)
            | ((with_reducible apply a_extr); rfl; rfl)
            | ((with_reducible apply a_cond); rfl)
            | ((with_reducible apply a_guard); rfl)
            | (with_reducible intro _))
          refine iCall_borrowD (by kernel_rfl) hMm (by rw [List.map_cons, List.map_nil, told_more (i3 := 7) rfl rfl rfl rfl]; exact DLeL.refl _) (by simp) ?_
          repeat' (first
            | (with_reducible apply w_let)
            | (with_reducible apply w_and)
            | (with_reducible refine And.intro True.intro ?_)
            | ((with_reducible apply a_lss); rfl; rfl)
            | ((with_reducible apply a_leq); rfl; rfl)
            | ((with_reducible apply a_gtr); rfl; rfl)
            | ((with_reducible apply a_geq); rfl; rfl)
            | ((with_reducible apply a_eql); rfl; rfl)
            | ((with_reducible apply a_neq); rfl; rfl)
            | ((with_reducible apply a_eqlS); rfl; rfl)
            | ((with_reducible apply a_neqS); rfl; rfl)
            | ((with_reducible apply a_eqlB); rfl; rfl)
            | ((with_reducible apply a_neqB); rfl; rfl)
            | ((with_reducible apply w_add); rfl; rfl; first | assumption | (unfold inI; omega))
            | ((with_reducible apply w_sub); rfl; rfl; first | assumption | (unfold inI; omega))
            | ((with_reducible apply a_not); rfl)
            | ((with_reducible apply w_pick_t); rfl)
            | ((with_reducible apply w_pick_f); rfl)
            | ((with_reducible apply a_cond1); rfl; first | rfl | assumption)
            | ((with_reducible apply a_cond0); rfl; first | rfl | assumption)
            | ((with_reducible apply a_guard1); rfl; first | rfl | assumption)
            | ((with_reducible apply a_guard0); rfl; first | rfl | assumption)
            | ((with_reducible apply w_guard_u); rfl)
            | ((with_reducible apply a_pick1); rfl; first | rfl | assumption)
            | ((with_reducible apply a_pick0); rfl; first | rfl | assumption)
            | ((with_reducible apply a_pickN); rfl)
            | ((with_reducible apply a_condN); rfl)
            | ((with_reducible apply a_guardN); rfl)
            | ((with_reducible apply w_fad); rfl)
            | ((with_reducible apply a_fadI); rfl)
            | ((with_reducible apply w_load); rfl; rfl; rfl)
            | ((with_reducible apply w_loadI); rfl)
            | ((with_reducible apply w_loadA); rfl; rfl; first | exact Nat.le_refl _ | exact Nat.le_of_ble_eq_true rfl)
            | ((with_reducible apply a_eqA); rfl; rfl; rfl)
            | ((with_reducible apply a_loadAI); rfl; first | rfl | simp)
            | ((with_reducible apply w_new); first | rfl | simp)
            | ((with_reducible apply a_store); rfl; rfl; rfl; rfl; (first | exact Nat.le_refl _ | simp); (first | rfl | simp); (first | rfl | simp))
            | ((with_reducible apply a_lenS); rfl; intro _)
            | ((with_reducible apply a_len); rfl; (first | rfl | simp); intro _)
            | ((with_reducible apply a_build); rfl)
            | ((with_reducible apply a_extr); rfl; rfl)
            | (refine a_idx (l := wX (.mk le (.mk t ss :: ps) cs) :: l'.map wX) (f := w3c) rfl rfl (n := 0) rfl rfl ?_)
            | (refine w_callQ rfl (by kernel_rfl) hC2 ?_)
            | (refine iCall_con (by kernel_rfl) (hal) ?_)
            | ((with_reducible apply a_store); rfl; rfl; rfl; rfl; (simp [w3]); rfl; rfl)
            | ((with_reducible apply a_cond); rfl)
            | ((with_reducible apply a_guard); rfl)
            | (with_reducible intro _))
          all_goals first
            | exact .pure (by simp) rfl
            | (exfalso; simp_all; done)
            | (exfalso; grind)
        · have n5 : (!decide (checkL [moreX le t ss ss' ps cs] = 0)) = true := by simpa using cm
          repeat' (first
            | (with_reducible apply w_let)
            | (with_reducible apply w_and)
            | (with_reducible refine And.intro True.intro ?_)
            | ((with_reducible apply a_lss); rfl; rfl)
            | ((with_reducible apply a_leq); rfl; rfl)
            | ((with_reducible apply a_gtr); rfl; rfl)
            | ((with_reducible apply a_geq); rfl; rfl)
            | ((with_reducible apply a_eql); rfl; rfl)
            | ((with_reducible apply a_neq); rfl; rfl)
            | ((with_reducible apply a_eqlS); rfl; rfl)
            | ((with_reducible apply a_neqS); rfl; rfl)
            | ((with_reducible apply a_eqlB); rfl; rfl)
            | ((with_reducible apply a_neqB); rfl; rfl)
            | ((with_reducible apply w_add); rfl; rfl; first | assumption | (unfold inI; omega))
            | ((with_reducible apply w_sub); rfl; rfl; first | assumption | (unfold inI; omega))
            | ((with_reducible apply a_not); rfl)
            | ((with_reducible apply w_pick_t); rfl)
            | ((with_reducible apply w_pick_f); rfl)
            | ((with_reducible apply a_cond1); rfl; first | rfl | assumption)
            | ((with_reducible apply a_cond0); rfl; first | rfl | assumption)
            | ((with_reducible apply a_guard1); rfl; first | rfl | assumption)
            | ((with_reducible apply a_guard0); rfl; first | rfl | assumption)
            | ((with_reducible apply w_guard_u); rfl)
            | ((with_reducible apply a_pick1); rfl; first | rfl | assumption)
            | ((with_reducible apply a_pick0); rfl; first | rfl | assumption)
            | ((with_reducible apply a_pickN); rfl)
            | ((with_reducible apply a_condN); rfl)
            | ((with_reducible apply a_guardN); rfl)
            | ((with_reducible apply w_fad); rfl)
            | ((with_reducible apply a_fadI); rfl)
            | ((with_reducible apply w_load); rfl; rfl; rfl)
            | ((with_reducible apply w_loadI); rfl)
            | ((with_reducible apply w_loadA); rfl; rfl; first | exact Nat.le_refl _ | exact Nat.le_of_ble_eq_true rfl)
            | ((with_reducible apply a_eqA); rfl; rfl; rfl)
            | ((with_reducible apply a_loadAI); rfl; first | rfl | simp)
            | ((with_reducible apply w_new); first | rfl | simp)
            | ((with_reducible apply a_store); rfl; rfl; rfl; rfl; (first | exact Nat.le_refl _ | simp); (first | rfl | simp); (first | rfl | simp))
            | ((with_reducible apply a_lenS); rfl; intro _)
            | ((with_reducible apply a_len); rfl; (first | rfl | simp); intro _)
            | ((with_reducible apply a_build); rfl)
            | ((with_reducible apply a_extr); rfl; rfl)
            | (refine iCall_con (by kernel_rfl) (hal) ?_)
            | ((with_reducible apply a_cond); rfl)
            | ((with_reducible apply a_guard); rfl)
            | (with_reducible intro _))
          exact .pure (by simp) rfl
      · rw [if_neg hn] at hMa
        have n1 : decide (0 ≤ ordW (wXs (.mk le (.mk t ss :: ps) cs :: l')) (wXs (.mk le' (.mk t' ss' :: ps') cs' :: m'))) = false := by simpa using hn
        have n2 : decide (ordW (wXs (.mk le (.mk t ss :: ps) cs :: l')) (wXs (.mk le' (.mk t' ss' :: ps') cs' :: m')) < 0) = true := by simp; omega
        refine iCall_borrowD (by kernel_rfl) hMa (by rw [List.map_cons, List.map_nil, told_sb pra]; exact DLeL.refl _) (by simp) ?_
        repeat' (first
          | ((with_reducible apply a_neW); rfl; rfl)
          | (with_reducible apply w_let)
          | (with_reducible apply w_and)
          | (with_reducible refine And.intro True.intro ?_)
          | ((with_reducible apply a_lss); rfl; rfl)
          | ((with_reducible apply a_leq); rfl; rfl)
          | ((with_reducible apply a_gtr); rfl; rfl)
          | ((with_reducible apply a_geq); rfl; rfl)
          | ((with_reducible apply a_eql); rfl; rfl)
          | ((with_reducible apply a_neq); rfl; rfl)
          | ((with_reducible apply a_eqlS); rfl; rfl)
          | ((with_reducible apply a_neqS); rfl; rfl)
          | ((with_reducible apply a_eqlB); rfl; rfl)
          | ((with_reducible apply a_neqB); rfl; rfl)
          | ((with_reducible apply w_add); rfl; rfl; first | assumption | (unfold inI; omega))
          | ((with_reducible apply w_sub); rfl; rfl; first | assumption | (unfold inI; omega))
          | ((with_reducible apply a_not); rfl)
          | ((with_reducible apply w_pick_t); rfl)
          | ((with_reducible apply w_pick_f); rfl)
          | ((with_reducible apply a_cond1); rfl; first | rfl | assumption)
          | ((with_reducible apply a_cond0); rfl; first | rfl | assumption)
          | ((with_reducible apply a_guard1); rfl; first | rfl | assumption)
          | ((with_reducible apply a_guard0); rfl; first | rfl | assumption)
          | ((with_reducible apply w_guard_u); rfl)
          | ((with_reducible apply a_pick1); rfl; first | rfl | assumption)
          | ((with_reducible apply a_pick0); rfl; first | rfl | assumption)
          | ((with_reducible apply a_pickN); rfl)
          | ((with_reducible apply a_condN); rfl)
          | ((with_reducible apply a_guardN); rfl)
          | ((with_reducible apply w_fad); rfl)
          | ((with_reducible apply a_fadI); rfl)
          | ((with_reducible apply w_load); rfl; rfl; rfl)
          | ((with_reducible apply w_loadI); rfl)
          | ((with_reducible apply w_loadA); rfl; rfl; first | exact Nat.le_refl _ | exact Nat.le_of_ble_eq_true rfl)
          | ((with_reducible apply a_eqA); rfl; rfl; rfl)
          | ((with_reducible apply a_loadAI); rfl; first | rfl | simp)
          | ((with_reducible apply w_new); first | rfl | simp)
          | ((with_reducible apply a_store); rfl; rfl; rfl; rfl; (first | exact Nat.le_refl _ | simp); (first | rfl | simp); (first | rfl | simp))
          | ((with_reducible apply a_lenS); rfl; intro _)
          | ((with_reducible apply a_len); rfl; (first | rfl | simp); intro _)
          | ((with_reducible apply a_build); rfl)
          | ((with_reducible apply a_extr); rfl; rfl)
          | ((with_reducible apply a_store); rfl; rfl; rfl; rfl; (simp [w3]); rfl; rfl)
          | ((with_reducible apply a_cond); rfl)
          | ((with_reducible apply a_guard); rfl)
          | (with_reducible intro _))
        refine n_mkSl0 (h' := [_, _, _, _]) rfl ?_
        refine a_idx (l := .mk le (.mk t ss :: ps) cs :: l') rfl (encXs_map _) (n := 0) rfl rfl ?_
        refine a_loadAI rfl (by simp [encX_eq]) ?_
        refine n_mkSl1 (n := 4) (h' := [_, _, _, _, _]) (cs := [u1 le, .sl 2 (encPs (.mk t ss :: ps)), .sl 1 (cs.map fun c => [u1 c])]) (by rw [encX]; rfl) rfl rfl rfl rfl rfl ?_
        refine n_appO (n := 5) (h' := [_, _, _, _, _, _]) (k := 1) (rows := [[u1 le, .sl 2 (encPs (.mk t ss :: ps)), .sl 1 (cs.map fun c => [u1 c])]]) rfl ((srcR_own rfl (Nat.le_refl _)).trans rfl) rfl (by simp) rfl (by unfold roomA maxLen; simp) rfl rfl ?_
        refine a_idxOw (n := 0) rfl rfl (by simp) ?_
        refine w_fad rfl ?_
        refine w_load rfl rfl rfl ?_
        refine a_idx (l := .mk t ss :: ps) rfl (encPs_map _) (n := 0) rfl rfl ?_
        refine a_loadAI rfl (by simp [encP]) ?_
        refine n_new (n := 6) (h' := [_, _, _, _, _, _, _]) rfl rfl rfl rfl ?_
        refine n_store (h' := [_, _, _, _, _, _, _]) (cs := [.str t, .sl 9 (encSs ss)]) rfl rfl rfl (by rw [encP]; rfl) (Nat.le_refl _) rfl rfl rfl ?_
        refine w_fad rfl ?_
        refine w_load rfl rfl rfl ?_
        refine a_idx (l := .mk le' (.mk t' ss' :: ps') cs' :: m') rfl (encXs_map _) (n := 0) rfl rfl ?_
        rw [encX]
        refine a_fadI rfl ?_
        refine w_loadI rfl ?_
        refine a_idx (l := .mk t' ss' :: ps') rfl (encPs_map _) (n := 0) rfl rfl ?_
        rw [encP]
        refine a_fadI rfl ?_
        refine w_loadI rfl ?_
        refine a_mkSl0 ?_
        refine n_app0 (n := 7) (h' := [_, _, _, _, _, _, _, _]) (rows := encSs ss) rfl srcR_sl (rowsS _) rfl (by unfold roomA maxLen; omega) rfl rfl ?_
        refine n_appB (h' := [_, _, _, _, _, _, _, _]) (rows := encSs ss') (base := encSs ss) rfl rfl rfl srcR_sl (rowsS _) (by unfold roomA maxLen; omega) rfl ?_
        refine w_fad rfl ?_
        refine n_store (h' := [_, _, _, _, _, _, _, _]) (cs := [.sb 7 9 (encSs ss ++ encSs ss')]) rfl rfl rfl rfl (Nat.le_refl _) rfl rfl rfl ?_
        refine w_loadA rfl rfl (Nat.le_refl _) ?_
        refine a_idxOw (n := 0) rfl rfl (by simp) ?_
        refine w_fad rfl ?_
        refine w_load rfl rfl rfl ?_
        refine a_slT rfl (by simp [encPs_map]) ?_
        refine n_mkSl1 (n := 8) (h' := [_, _, _, _, _, _, _, _, _]) (cs := [.str t, .sb 7 9 (encSs ss ++ encSs ss')]) rfl rfl rfl rfl rfl rfl ?_
        refine n_appK (n := 9) (h' := [_, _, _, _, _, _, _, _, _, _]) (id := 8) (cells := [.str t, .sb 7 9 (encSs ss ++ encSs ss')]) (rows := encPs ps) rfl rfl (Nat.le_refl _) (by omega) (srcR_sl.trans (by rw [encPs]; rfl)) (rowsP _) (by unfold roomA maxLen; omega) rfl rfl ?_
        refine a_idxOw (n := 0) rfl rfl (by simp) ?_
        refine w_fad rfl ?_
        refine n_store (h' := [_, _, _, _, _, _, _, _, _, _]) (cs := [.own 9 0 (1 + (encPs ps).length) 2]) rfl rfl rfl rfl (by simp [setAll]) rfl rfl rfl ?_
        repeat' (first
          | (with_reducible apply w_let)
          | (with_reducible apply w_and)
          | (with_reducible refine And.intro True.intro ?_)
          | ((with_reducible apply a_lss); rfl; rfl)
          | ((with_reducible apply a_leq); rfl; rfl)
          | ((with_reducible apply a_gtr); rfl; rfl)
          | ((with_reducible apply a_geq); rfl; rfl)
          | ((with_reducible apply a_eql); rfl; rfl)
          | ((with_reducible apply a_neq); rfl; rfl)
          | ((with_reducible apply a_eqlS); rfl; rfl)
          | ((with_reducible apply a_neqS); rfl; rfl)
          | ((with_reducible apply a_eqlB); rfl; rfl)
          | ((with_reducible apply a_neqB); rfl; rfl)
          | ((with_reducible apply w_add); rfl; rfl; first | assumption | (unfold inI; omega))
          | ((with_reducible apply w_sub); rfl; rfl; first | assumption | (unfold inI; omega))
          | ((with_reducible apply a_not); rfl)
          | ((with_reducible apply w_pick_t); rfl)
          | ((with_reducible apply w_pick_f); rfl)
          | ((with_reducible apply a_cond1); rfl; first | rfl | assumption)
          | ((with_reducible apply a_cond0); rfl; first | rfl | assumption)
          | ((with_reducible apply a_guard1); rfl; first | rfl | assumption)
          | ((with_reducible apply a_guard0); rfl; first | rfl | assumption)
          | ((with_reducible apply w_guard_u); rfl)
          | ((with_reducible apply a_pick1); rfl; first | rfl | assumption)
          | ((with_reducible apply a_pick0); rfl; first | rfl | assumption)
          | ((with_reducible apply a_pickN); rfl)
          | ((with_reducible apply a_condN); rfl)
          | ((with_reducible apply a_guardN); rfl)
          | ((with_reducible apply w_fad); rfl)
          | ((with_reducible apply a_fadI); rfl)
          | ((with_reducible apply w_load); rfl; rfl; rfl)
          | ((with_reducible apply w_loadI); rfl)
          | ((with_reducible apply w_loadA); rfl; rfl; first | exact Nat.le_refl _ | exact Nat.le_of_ble_eq_true rfl)
          | ((with_reducible apply a_eqA); rfl; rfl; rfl)
          | ((with_reducible apply a_loadAI); rfl; first | rfl | simp)
          | ((with_reducible apply w_new); first | rfl | simp)
          | ((with_reducible apply a_store); rfl; rfl; rfl; rfl; (first | exact Nat.le_refl _ | simp); (first | rfl | simp); (first | rfl | simp))
          | ((with_reducible apply a_lenS); rfl; intro _)
          | ((with_reducible apply a_len); rfl; (first | rfl | simp); intro _)
          | ((with_reducible apply a_build); rfl)
          | ((with_reducible apply a_extr); rfl; rfl)
          | (refine iCall_con (by kernel_rfl) (hE) ?_)
          | ((with_reducible apply a_cond); rfl)
          | ((with_reducible apply a_guard); rfl)
          | (with_reducible intro _))
        refine iCall_borrowD (by kernel_rfl) hRm (by rw [List.map_cons, List.map_nil, told_more (i3 := 7) rfl rfl rfl rfl]; exact DLeL.refl _) (by simp) ?_
        by_cases cm : checkL [moreX le t ss ss' ps cs] = 0
        · have n5 : (!decide (checkL [moreX le t ss ss' ps cs] = 0)) = false := by simpa using cm
          rw [mostV, cm, if_pos rfl, wXs, wM] at hMm
          have hC2 : Con Tryz.prog 15 [w3 (wX (.mk le (.mk t ss :: ps) cs)), w3 (wX (moreX le t ss ss' ps cs))] (.tup [int (ordW (wX (.mk le (.mk t ss :: ps) cs)) (wX (moreX le t ss ss' ps cs))), int 0]) := by
            have := con_Compare (wX (.mk le (.mk t ss :: ps) cs)) (wX (moreX le t ss ss' ps cs))
            rw [cmpW, cmpV, cmpE, okW_of (wX_bd _) (by rw [zXs] at z1; omega), okW_of (wX_bd _) (by rw [moreX, zX, zPs, zP, zSs_append]; rw [zXs, zX, zPs, zP] at z1 z2; omega)] at this
            exact this
          have n6 : decide (ordW (wX (.mk le (.mk t ss :: ps) cs)) (wX (moreX le t ss ss' ps cs)) ≤ 0) = true := by simpa using more_le le t ss ss' ps cs
          repeat' (first
            | (with_reducible apply w_let)
            | (with_reducible apply w_and)
            | (with_reducible refine And.intro True.intro ?_)
            | ((with_reducible apply a_lss); rfl; rfl)
            | ((with_reducible apply a_leq); rfl; rfl)
            | ((with_reducible apply a_gtr); rfl; rfl)
            | ((with_reducible apply a_geq); rfl; rfl)
            | ((with_reducible apply a_eql); rfl; rfl)
            | ((with_reducible apply a_neq); rfl; rfl)
            | ((with_reducible apply a_eqlS); rfl; rfl)
            | ((with_reducible apply a_neqS); rfl; rfl)
            | ((with_reducible apply a_eqlB); rfl; rfl)
            | ((with_reducible apply a_neqB); rfl; rfl)
            | ((with_reducible apply w_add); rfl; rfl; first | assumption | (unfold inI; omega))
            | ((with_reducible apply w_sub); rfl; rfl; first | assumption | (unfold inI; omega))
            | ((with_reducible apply a_not); rfl)
            | ((with_reducible apply w_pick_t); rfl)
            | ((with_reducible apply w_pick_f); rfl)
            | ((with_reducible apply a_cond1); rfl; first | rfl | assumption)
            | ((with_reducible apply a_cond0); rfl; first | rfl | assumption)
            | ((with_reducible apply a_guard1); rfl; first | rfl | assumption)
            | ((with_reducible apply a_guard0); rfl; first | rfl | assumption)
            | ((with_reducible apply w_guard_u); rfl)
            | ((with_reducible apply a_pick1); rfl; first | rfl | assumption)
            | ((with_reducible apply a_pick0); rfl; first | rfl | assumption)
            | ((with_reducible apply a_pickN); rfl)
            | ((with_reducible apply a_condN); rfl)
            | ((with_reducible apply a_guardN); rfl)
            | ((with_reducible apply w_fad); rfl)
            | ((with_reducible apply a_fadI); rfl)
            | ((with_reducible apply w_load); rfl; rfl; rfl)
            | ((with_reducible apply w_loadI); rfl)
            | ((with_reducible apply w_loadA); rfl; rfl; first | exact Nat.le_refl _ | exact Nat.le_of_ble_eq_true rfl)
            | ((with_reducible apply a_eqA); rfl; rfl; rfl)
            | ((with_reducible apply a_loadAI); rfl; first | rfl | simp)
            | ((with_reducible apply w_new); first | rfl | simp)
            | ((with_reducible apply a_store); rfl; rfl; rfl; rfl; (first | exact Nat.le_refl _ | simp); (first | rfl | simp); (first | rfl | simp))
            | ((with_reducible apply a_lenS); rfl; intro _)
            | ((with_reducible apply a_len); rfl; (first | rfl | simp); intro _)
            | ((with_reducible apply a_build); rfl)
            | ((with_reducible apply a_extr); rfl; rfl)
            | ((with_reducible apply a_cond); rfl)
            | ((with_reducible apply a_guard); rfl)
            | (with_reducible intro _))
          refine iCall_borrowD (by kernel_rfl) hMm (by rw [List.map_cons, List.map_nil, told_more (i3 := 7) rfl rfl rfl rfl]; exact DLeL.refl _) (by simp) ?_
          repeat' (first
            | (with_reducible apply w_let)
            | (with_reducible apply w_and)
            | (with_reducible refine And.intro True.intro ?_)
            | ((with_reducible apply a_lss); rfl; rfl)
            | ((with_reducible apply a_leq); rfl; rfl)
            | ((with_reducible apply a_gtr); rfl; rfl)
            | ((with_reducible apply a_geq); rfl; rfl)
            | ((with_reducible apply a_eql); rfl; rfl)
            | ((with_reducible apply a_neq); rfl; rfl)
            | ((with_reducible apply a_eqlS); rfl; rfl)
            | ((with_reducible apply a_neqS); rfl; rfl)
            | ((with_reducible apply a_eqlB); rfl; rfl)
            | ((with_reducible apply a_neqB); rfl; rfl)
            | ((with_reducible apply w_add); rfl; rfl; first | assumption | (unfold inI; omega))
            | ((with_reducible apply w_sub); rfl; rfl; first | assumption | (unfold inI; omega))
            | ((with_reducible apply a_not); rfl)
            | ((with_reducible apply w_pick_t); rfl)
            | ((with_reducible apply w_pick_f); rfl)
            | ((with_reducible apply a_cond1); rfl; first | rfl | assumption)
            | ((with_reducible apply a_cond0); rfl; first | rfl | assumption)
            | ((with_reducible apply a_guard1); rfl; first | rfl | assumption)
            | ((with_reducible apply a_guard0); rfl; first | rfl | assumption)
            | ((with_reducible apply w_guard_u); rfl)
            | ((with_reducible apply a_pick1); rfl; first | rfl | assumption)
            | ((with_reducible apply a_pick0); rfl; first | rfl | assumption)
            | ((with_reducible apply a_pickN); rfl)
            | ((with_reducible apply a_condN); rfl)
            | ((with_reducible apply a_guardN); rfl)
            | ((with_reducible apply w_fad); rfl)
            | ((with_reducible apply a_fadI); rfl)
            | ((with_reducible apply w_load); rfl; rfl; rfl)
            | ((with_reducible apply w_loadI); rfl)
            | ((with_reducible apply w_loadA); rfl; rfl; first | exact Nat.le_refl _ | exact Nat.le_of_ble_eq_true rfl)
            | ((with_reducible apply a_eqA); rfl; rfl; rfl)
            | ((with_reducible apply a_loadAI); rfl; first | rfl | simp)
            | ((with_reducible apply w_new); first | rfl | simp)
            | ((with_reducible apply a_store); rfl; rfl; rfl; rfl; (first | exact Nat.le_refl _ | simp); (first | rfl | simp); (first | rfl | simp))
            | ((with_reducible apply a_lenS); rfl; intro _)
            | ((with_reducible apply a_len); rfl; (first | rfl | simp); intro _)
            | ((with_reducible apply a_build); rfl)
            | ((with_reducible apply a_extr); rfl; rfl)
            | (refine a_idx (l := wX (.mk le (.mk t ss :: ps) cs) :: l'.map wX) (f := w3c) rfl rfl (n := 0) rfl rfl ?_)
            | (refine w_callQ rfl (by kernel_rfl) hC2 ?_)
            | (refine iCall_con (by kernel_rfl) (hal) ?_)
            | ((with_reducible apply a_store); rfl; rfl; rfl; rfl; (simp [w3]); rfl; rfl)
            | ((with_reducible apply a_cond); rfl)
            | ((with_reducible apply a_guard); rfl)
            | (with_reducible intro _))
          all_goals first
            | exact .pure (by simp) rfl
            | (exfalso; simp_all; done)
            | (exfalso; grind)
        · have n5 : (!decide (checkL [moreX le t ss ss' ps cs] = 0)) = true := by simpa using cm
          repeat' (first
            | (with_reducible apply w_let)
            | (with_reducible apply w_and)
            | (with_reducible refine And.intro True.intro ?_)
            | ((with_reducible apply a_lss); rfl; rfl)
            | ((with_reducible apply a_leq); rfl; rfl)
            | ((with_reducible apply a_gtr); rfl; rfl)
            | ((with_reducible apply a_geq); rfl; rfl)
            | ((with_reducible apply a_eql); rfl; rfl)
            | ((with_reducible apply a_neq); rfl; rfl)
            | ((with_reducible apply a_eqlS); rfl; rfl)
            | ((with_reducible apply a_neqS); rfl; rfl)
            | ((with_reducible apply a_eqlB); rfl; rfl)
            | ((with_reducible apply a_neqB); rfl; rfl)
            | ((with_reducible apply w_add); rfl; rfl; first | assumption | (unfold inI; omega))
            | ((with_reducible apply w_sub); rfl; rfl; first | assumption | (unfold inI; omega))
            | ((with_reducible apply a_not); rfl)
            | ((with_reducible apply w_pick_t); rfl)
            | ((with_reducible apply w_pick_f); rfl)
            | ((with_reducible apply a_cond1); rfl; first | rfl | assumption)
            | ((with_reducible apply a_cond0); rfl; first | rfl | assumption)
            | ((with_reducible apply a_guard1); rfl; first | rfl | assumption)
            | ((with_reducible apply a_guard0); rfl; first | rfl | assumption)
            | ((with_reducible apply w_guard_u); rfl)
            | ((with_reducible apply a_pick1); rfl; first | rfl | assumption)
            | ((with_reducible apply a_pick0); rfl; first | rfl | assumption)
            | ((with_reducible apply a_pickN); rfl)
            | ((with_reducible apply a_condN); rfl)
            | ((with_reducible apply a_guardN); rfl)
            | ((with_reducible apply w_fad); rfl)
            | ((with_reducible apply a_fadI); rfl)
            | ((with_reducible apply w_load); rfl; rfl; rfl)
            | ((with_reducible apply w_loadI); rfl)
            | ((with_reducible apply w_loadA); rfl; rfl; first | exact Nat.le_refl _ | exact Nat.le_of_ble_eq_true rfl)
            | ((with_reducible apply a_eqA); rfl; rfl; rfl)
            | ((with_reducible apply a_loadAI); rfl; first | rfl | simp)
            | ((with_reducible apply w_new); first | rfl | simp)
            | ((with_reducible apply a_store); rfl; rfl; rfl; rfl; (first | exact Nat.le_refl _ | simp); (first | rfl | simp); (first | rfl | simp))
            | ((with_reducible apply a_lenS); rfl; intro _)
            | ((with_reducible apply a_len); rfl; (first | rfl | simp); intro _)
            | ((with_reducible apply a_build); rfl)
            | ((with_reducible apply a_extr); rfl; rfl)
            | (refine iCall_con (by kernel_rfl) (hal) ?_)
            | ((with_reducible apply a_cond); rfl)
            | ((with_reducible apply a_guard); rfl)
            | (with_reducible intro _))
          exact .pure (by simp) rfl
  · have hm : ¬ (decide (600 < szXs 600 0 l) = false ∧ decide (600 < szXs 600 0 m) = false ∧ checkL l = 0 ∧ checkL m = 0) := by simpa using main
    repeat' (first
      | (with_reducible apply w_let)
      | (with_reducible apply w_and)
      | (with_reducible refine And.intro True.intro ?_)
      | ((with_reducible apply a_lss); rfl; rfl)
      | ((with_reducible apply a_leq); rfl; rfl)
      | ((with_reducible apply a_gtr); rfl; rfl)
      | ((with_reducible apply a_geq); rfl; rfl)
      | ((with_reducible apply a_eql); rfl; rfl)
      | ((with_reducible apply a_neq); rfl; rfl)
      | ((with_reducible apply a_eqlS); rfl; rfl)
      | ((with_reducible apply a_neqS); rfl; rfl)
      | ((with_reducible apply a_eqlB); rfl; rfl)
      | ((with_reducible apply a_neqB); rfl; rfl)
      | ((with_reducible apply w_add); rfl; rfl; first | assumption | (unfold inI; omega))
      | ((with_reducible apply w_sub); rfl; rfl; first | assumption | (unfold inI; omega))
      | ((with_reducible apply a_not); rfl)
      | ((with_reducible apply w_pick_t); rfl)
      | ((with_reducible apply w_pick_f); rfl)
      | ((with_reducible apply a_cond1); rfl; first | rfl | assumption)
      | ((with_reducible apply a_cond0); rfl; first | rfl | assumption)
      | ((with_reducible apply a_guard1); rfl; first | rfl | assumption)
      | ((with_reducible apply a_guard0); rfl; first | rfl | assumption)
      | ((with_reducible apply w_guard_u); rfl)
      | ((with_reducible apply a_pick1); rfl; first | rfl | assumption)
      | ((with_reducible apply a_pick0); rfl; first | rfl | assumption)
      | ((with_reducible apply a_pickN); rfl)
      | ((with_reducible apply a_condN); rfl)
      | ((with_reducible apply a_guardN); rfl)
      | ((with_reducible apply w_fad); rfl)
      | ((with_reducible apply a_fadI); rfl)
      | ((with_reducible apply w_load); rfl; rfl; rfl)
      | ((with_reducible apply w_loadI); rfl)
      | ((with_reducible apply w_loadA); rfl; rfl; first | exact Nat.le_refl _ | exact Nat.le_of_ble_eq_true rfl)
      | ((with_reducible apply a_eqA); rfl; rfl; rfl)
      | ((with_reducible apply a_loadAI); rfl; first | rfl | simp)
      | ((with_reducible apply w_new); first | rfl | simp)
      | ((with_reducible apply a_store); rfl; rfl; rfl; rfl; (first | exact Nat.le_refl _ | simp); (first | rfl | simp); (first | rfl | simp))
      | ((with_reducible apply a_lenS); rfl; intro _)
      | ((with_reducible apply a_len); rfl; (first | rfl | simp); intro _)
      | ((with_reducible apply a_build); rfl)
      | ((with_reducible apply a_extr); rfl; rfl)
      | (refine iCall_con (by kernel_rfl) (hG1) ?_)
      | (refine iCall_con (by kernel_rfl) (hG2) ?_)
      | (refine iCall_con (by kernel_rfl) (hR1) ?_)
      | (refine iCall_con (by kernel_rfl) (hR2) ?_)
      | (refine iCall_con (by kernel_rfl) (hal) ?_)
      | ((with_reducible apply a_cond); rfl)
      | ((with_reducible apply a_guard); rfl)
      | (with_reducible intro _))
    all_goals first
      | exact .pure (by simp) rfl
      | (exfalso; grind)
end Go.Proofs.YtlapkmobmgffoaaGreatDoor
