/-
  Longhands of shorthands, by either way.
  No conditions: contracts.
-/
import Derived.Test.YtlapkmobmgffoaaDoorSrtA
set_option linter.unusedVariables false
set_option linter.unusedSimpArgs false
namespace Go.Proofs.YtlapkmobmgffoaaDoor
open Go Go.Aw
set_option maxRecDepth 1000000
def inhV (s : Str) : AV := if customS s then .tup [tt, int 0] else match findS s with | some n => .tup [bool (nm.getD n ([], false)).2, int 0] | none => .tup [ff, int 6]
theorem inhV_pure (s : Str) : Aw.Pure (inhV s) := by unfold inhV; split <;> (try split) <;> simp
theorem findS_lt {s : Str} {n : Nat} (h : findS s = some n) : n < 18 := by
  have := findN_spec nm 0 n h
  rw [nm_len] at this; omega
theorem con_Inherited (s : Str) : Con Tryd.prog 36 [.str s] (inhV s) := by
  refine (V36 _).gives (by simp) (inhV_pure s) ?_
  unfold W36
  have hF := con_Find s
  refine w_call rfl (by kernel_rfl) (con_Custom s) ?_
  by_cases hc : customS s = true
  · refine a_cond1 rfl hc ?_
    exact .pure (by simp) (by rw [inhV, if_pos hc])
  · refine a_cond0 rfl (by simpa using hc) ?_
    rw [inhV, if_neg hc]
    unfold findV at hF
    cases hf : findS s with
    | none =>
      rw [hf] at hF
      repeat' (first
        | (with_reducible apply w_let)
        | (with_reducible apply w_and)
        | (with_reducible refine And.intro True.intro ?_)
        | ((with_reducible apply a_lss); rfl; rfl)
        | ((with_reducible apply a_leq); rfl; rfl)
        | ((with_reducible apply a_gtr); rfl; rfl)
        | ((with_reducible apply a_geq); rfl; rfl)
        | ((with_reducible apply a_eql); rfl; rfl)
        | ((with_reducible apply a_neq); rfl; rfl)
        | ((with_reducible apply a_eqlS); rfl; rfl)
        | ((with_reducible apply a_neqS); rfl; rfl)
        | ((with_reducible apply a_eqlB); rfl; rfl)
        | ((with_reducible apply a_neqB); rfl; rfl)
        | ((with_reducible apply w_add); rfl; rfl; first | assumption | (unfold inI; omega))
        | ((with_reducible apply w_sub); rfl; rfl; first | assumption | (unfold inI; omega))
        | ((with_reducible apply a_not); rfl)
        | ((with_reducible apply w_pick_t); rfl)
        | ((with_reducible apply w_pick_f); rfl)
        | ((with_reducible apply a_cond1); rfl; first | rfl | assumption)
        | ((with_reducible apply a_cond0); rfl; first | rfl | assumption)
        | ((with_reducible apply a_guard1); rfl; first | rfl | assumption)
        | ((with_reducible apply a_guard0); rfl; first | rfl | assumption)
        | ((with_reducible apply w_guard_u); rfl)
        | ((with_reducible apply a_pick1); rfl; first | rfl | assumption)
        | ((with_reducible apply a_pick0); rfl; first | rfl | assumption)
        | ((with_reducible apply a_pickN); rfl)
        | ((with_reducible apply a_condN); rfl)
        | ((with_reducible apply a_guardN); rfl)
        | ((with_reducible apply w_fad); rfl)
        | ((with_reducible apply a_fadI); rfl)
        | ((with_reducible apply w_load); rfl; rfl; rfl)
        | ((with_reducible apply w_loadI); rfl)
        | ((with_reducible apply w_loadA); rfl; rfl; first | exact Nat.le_refl _ | exact Nat.le_of_ble_eq_true rfl)
        | ((with_reducible apply a_eqA); rfl; rfl; rfl)
        | ((with_reducible apply a_loadAI); rfl; first | rfl | simp)
        | ((with_reducible apply w_new); first | rfl | simp)
        | ((with_reducible apply a_store); rfl; rfl; rfl; rfl; (first | exact Nat.le_refl _ | simp); (first | rfl | simp); (first | rfl | simp))
        | ((with_reducible apply a_lenS); rfl; intro _)
        | ((with_reducible apply a_len); rfl; (first | rfl | simp); intro _)
        | ((with_reducible apply a_build); rfl)
        | ((with_reducible apply a_extr); rfl; rfl)
        | (refine iCall_con (by kernel_rfl) (hF) ?_)
        | ((with_reducible apply a_cond); rfl)
        | ((with_reducible apply a_guard); rfl)
        | (with_reducible intro _))
      exact .pure (by simp) rfl
    | some n =>
      rw [hf] at hF
      have hn := findS_lt hf
      obtain ⟨p, hp⟩ : ∃ p, nmP[n]? = some p := ⟨nmP[n]'(by rw [nmP_len]; exact hn), List.getElem?_eq_getElem (by rw [nmP_len]; exact hn)⟩
      have e := nmP_nm hp
      repeat' (first
        | (with_reducible apply w_let)
        | (with_reducible apply w_and)
        | (with_reducible refine And.intro True.intro ?_)
        | ((with_reducible apply a_lss); rfl; rfl)
        | ((with_reducible apply a_leq); rfl; rfl)
        | ((with_reducible apply a_gtr); rfl; rfl)
        | ((with_reducible apply a_geq); rfl; rfl)
        | ((with_reducible apply a_eql); rfl; rfl)
        | ((with_reducible apply a_neq); rfl; rfl)
        | ((with_reducible apply a_eqlS); rfl; rfl)
        | ((with_reducible apply a_neqS); rfl; rfl)
        | ((with_reducible apply a_eqlB); rfl; rfl)
        | ((with_reducible apply a_neqB); rfl; rfl)
        | ((with_reducible apply w_add); rfl; rfl; first | assumption | (unfold inI; omega))
        | ((with_reducible apply w_sub); rfl; rfl; first | assumption | (unfold inI; omega))
        | ((with_reducible apply a_not); rfl)
        | ((with_reducible apply w_pick_t); rfl)
        | ((with_reducible apply w_pick_f); rfl)
        | ((with_reducible apply a_cond1); rfl; first | rfl | assumption)
        | ((with_reducible apply a_cond0); rfl; first | rfl | assumption)
        | ((with_reducible apply a_guard1); rfl; first | rfl | assumption)
        | ((with_reducible apply a_guard0); rfl; first | rfl | assumption)
        | ((with_reducible apply w_guard_u); rfl)
        | ((with_reducible apply a_pick1); rfl; first | rfl | assumption)
        | ((with_reducible apply a_pick0); rfl; first | rfl | assumption)
        | ((with_reducible apply a_pickN); rfl)
        | ((with_reducible apply a_condN); rfl)
        | ((with_reducible apply a_guardN); rfl)
        | ((with_reducible apply w_fad); rfl)
        | ((with_reducible apply a_fadI); rfl)
        | ((with_reducible apply w_load); rfl; rfl; rfl)
        | ((with_reducible apply w_loadI); rfl)
        | ((with_reducible apply w_loadA); rfl; rfl; first | exact Nat.le_refl _ | exact Nat.le_of_ble_eq_true rfl)
        | ((with_reducible apply a_eqA); rfl; rfl; rfl)
        | ((with_reducible apply a_loadAI); rfl; first | rfl | simp)
        | ((with_reducible apply w_new); first | rfl | simp)
        | ((with_reducible apply a_store); rfl; rfl; rfl; rfl; (first | exact Nat.le_refl _ | simp); (first | rfl | simp); (first | rfl | simp))
        | ((with_reducible apply a_lenS); rfl; intro _)
        | ((with_reducible apply a_len); rfl; (first | rfl | simp); intro _)
        | ((with_reducible apply a_build); rfl)
        | ((with_reducible apply a_extr); rfl; rfl)
        | (refine iCall_con (by kernel_rfl) (hF) ?_)
        | (refine iCall_con (by kernel_rfl) (con_Table) ?_)
        | (refine a_idx rfl tabP_eq rfl hp ?_)
        | ((with_reducible apply a_cond); rfl)
        | ((with_reducible apply a_guard); rfl)
        | (with_reducible intro _))
      refine .pure (by simp) ?_
      simp only [List.getD_eq_getElem?_getD, e]; rfl
theorem con_rInherited (s : Str) : Con Tryd.prog 40 [.str s] (inhV s) := by
  refine (V40 _).gives (by simp) (inhV_pure s) ?_
  unfold W40
  have hF := con_rFind s
  refine w_call rfl (by kernel_rfl) (con_rCustom s) ?_
  by_cases hc : customS s = true
  · refine a_cond1 rfl hc ?_
    exact .pure (by simp) (by rw [inhV, if_pos hc])
  · refine a_cond0 rfl (by simpa using hc) ?_
    rw [inhV, if_neg hc]
    unfold findV at hF
    cases hf : findS s with
    | none =>
      rw [hf] at hF
      repeat' (first
        | (with_reducible apply w_let)
        | (with_reducible apply w_and)
        | (with_reducible refine And.intro True.intro ?_)
        | ((with_reducible apply a_lss); rfl; rfl)
        | ((with_reducible apply a_leq); rfl; rfl)
        | ((with_reducible apply a_gtr); rfl; rfl)
        | ((with_reducible apply a_geq); rfl; rfl)
        | ((with_reducible apply a_eql); rfl; rfl)
        | ((with_reducible apply a_neq); rfl; rfl)
        | ((with_reducible apply a_eqlS); rfl; rfl)
        | ((with_reducible apply a_neqS); rfl; rfl)
        | ((with_reducible apply a_eqlB); rfl; rfl)
        | ((with_reducible apply a_neqB); rfl; rfl)
        | ((with_reducible apply w_add); rfl; rfl; first | assumption | (unfold inI; omega))
        | ((with_reducible apply w_sub); rfl; rfl; first | assumption | (unfold inI; omega))
        | ((with_reducible apply a_not); rfl)
        | ((with_reducible apply w_pick_t); rfl)
        | ((with_reducible apply w_pick_f); rfl)
        | ((with_reducible apply a_cond1); rfl; first | rfl | assumption)
        | ((with_reducible apply a_cond0); rfl; first | rfl | assumption)
        | ((with_reducible apply a_guard1); rfl; first | rfl | assumption)
        | ((with_reducible apply a_guard0); rfl; first | rfl | assumption)
        | ((with_reducible apply w_guard_u); rfl)
        | ((with_reducible apply a_pick1); rfl; first | rfl | assumption)
        | ((with_reducible apply a_pick0); rfl; first | rfl | assumption)
        | ((with_reducible apply a_pickN); rfl)
        | ((with_reducible apply a_condN); rfl)
        | ((with_reducible apply a_guardN); rfl)
        | ((with_reducible apply w_fad); rfl)
        | ((with_reducible apply a_fadI); rfl)
        | ((with_reducible apply w_load); rfl; rfl; rfl)
        | ((with_reducible apply w_loadI); rfl)
        | ((with_reducible apply w_loadA); rfl; rfl; first | exact Nat.le_refl _ | exact Nat.le_of_ble_eq_true rfl)
        | ((with_reducible apply a_eqA); rfl; rfl; rfl)
        | ((with_reducible apply a_loadAI); rfl; first | rfl | simp)
        | ((with_reducible apply w_new); first | rfl | simp)
        | ((with_reducible apply a_store); rfl; rfl; rfl; rfl; (first | exact Nat.le_refl _ | simp); (first | rfl | simp); (first | rfl | simp))
        | ((with_reducible apply a_lenS); rfl; intro _)
        | ((with_reducible apply a_len); rfl; (first | rfl | simp); intro _)
        | ((with_reducible apply a_build); rfl)
        | ((with_reducible apply a_extr); rfl; rfl)
        | (refine iCall_con (by kernel_rfl) (hF) ?_)
        | ((with_reducible apply a_cond); rfl)
        | ((with_reducible apply a_guard); rfl)
        | (with_reducible intro _))
      exact .pure (by simp) rfl
    | some n =>
      rw [hf] at hF
      have hn := findS_lt hf
      obtain ⟨p, hp⟩ : ∃ p, nmR[n]? = some p := ⟨nmR[n]'(by rw [nmR_len]; exact hn), List.getElem?_eq_getElem (by rw [nmR_len]; exact hn)⟩
      have e := nmR_nm hp
      repeat' (first
        | (with_reducible apply w_let)
        | (with_reducible apply w_and)
        | (with_reducible refine And.intro True.intro ?_)
        | ((with_reducible apply a_lss); rfl; rfl)
        | ((with_reducible apply a_leq); rfl; rfl)
        | ((with_reducible apply a_gtr); rfl; rfl)
        | ((with_reducible apply a_geq); rfl; rfl)
        | ((with_reducible apply a_eql); rfl; rfl)
        | ((with_reducible apply a_neq); rfl; rfl)
        | ((with_reducible apply a_eqlS); rfl; rfl)
        | ((with_reducible apply a_neqS); rfl; rfl)
        | ((with_reducible apply a_eqlB); rfl; rfl)
        | ((with_reducible apply a_neqB); rfl; rfl)
        | ((with_reducible apply w_add); rfl; rfl; first | assumption | (unfold inI; omega))
        | ((with_reducible apply w_sub); rfl; rfl; first | assumption | (unfold inI; omega))
        | ((with_reducible apply a_not); rfl)
        | ((with_reducible apply w_pick_t); rfl)
        | ((with_reducible apply w_pick_f); rfl)
        | ((with_reducible apply a_cond1); rfl; first | rfl | assumption)
        | ((with_reducible apply a_cond0); rfl; first | rfl | assumption)
        | ((with_reducible apply a_guard1); rfl; first | rfl | assumption)
        | ((with_reducible apply a_guard0); rfl; first | rfl | assumption)
        | ((with_reducible apply w_guard_u); rfl)
        | ((with_reducible apply a_pick1); rfl; first | rfl | assumption)
        | ((with_reducible apply a_pick0); rfl; first | rfl | assumption)
        | ((with_reducible apply a_pickN); rfl)
        | ((with_reducible apply a_condN); rfl)
        | ((with_reducible apply a_guardN); rfl)
        | ((with_reducible apply w_fad); rfl)
        | ((with_reducible apply a_fadI); rfl)
        | ((with_reducible apply w_load); rfl; rfl; rfl)
        | ((with_reducible apply w_loadI); rfl)
        | ((with_reducible apply w_loadA); rfl; rfl; first | exact Nat.le_refl _ | exact Nat.le_of_ble_eq_true rfl)
        | ((with_reducible apply a_eqA); rfl; rfl; rfl)
        | ((with_reducible apply a_loadAI); rfl; first | rfl | simp)
        | ((with_reducible apply w_new); first | rfl | simp)
        | ((with_reducible apply a_store); rfl; rfl; rfl; rfl; (first | exact Nat.le_refl _ | simp); (first | rfl | simp); (first | rfl | simp))
        | ((with_reducible apply a_lenS); rfl; intro _)
        | ((with_reducible apply a_len); rfl; (first | rfl | simp); intro _)
        | ((with_reducible apply a_build); rfl)
        | ((with_reducible apply a_extr); rfl; rfl)
        | (refine iCall_con (by kernel_rfl) (hF) ?_)
        | (refine iCall_con (by kernel_rfl) (con_rTable) ?_)
        | (refine a_idx rfl tabR_eq rfl hp ?_)
        | ((with_reducible apply a_cond); rfl)
        | ((with_reducible apply a_guard); rfl)
        | (with_reducible intro _))
      refine .pure (by simp) ?_
      simp only [List.getD_eq_getElem?_getD, e]; rfl
/-! ### Lists of names -/
def encSt (l : List Str) : List (List AV) := l.map fun s => [.str s]
theorem encSt_pure : ∀ l, PureR (encSt l)
  | [] => by simp [encSt, PureR]
  | s :: l => by have := encSt_pure l; unfold encSt at this ⊢; simp only [List.map_cons, PureR]; exact ⟨by simp, this⟩
theorem encSt_rows (l : List Str) : (encSt l).all (rowOK 1) = true := rows_ok (fun s => by simp [scal]) l
def idxN (v : Str) : List Str → Nat → Int
  | [], _ => -1
  | s :: l, k => if v = s then k else idxN v l (k + 1)
theorem idxN_drop {v s : Str} {l : List Str} {k : Nat} (h : l[k]? = some s) (n : Nat) : idxN v (l.drop k) n = if v = s then (n : Int) else idxN v (l.drop (k + 1)) (n + 1) := by
  have hk := (List.getElem?_eq_some_iff.1 h).1
  rw [List.drop_eq_getElem_cons hk, idxN, (List.getElem?_eq_some_iff.1 h).2]
theorem idxN_mem (v : Str) : ∀ (l : List Str) (k : Nat), (0 ≤ idxN v l k ↔ v ∈ l)
  | [], k => by simp [idxN]
  | s :: l, k => by
    rw [idxN]
    split
    · rename_i h; subst h; simp
    · rename_i h
      rw [idxN_mem v l (k + 1)]
      simp [h]
theorem con_sIndex (l : List Str) (v : Str) (hl : l.length < 2 ^ 40) : Con Tryd.prog 65 [.sl 1 (encSt l), .str v] (int (idxN v l 0)) := by
  refine (V65 _ _).gives (by simp [encSt_pure]) (by simp) ?_
  unfold W65
  refine a_len (n := l.length) rfl (by simp [encSt]) fun _ => ?_
  refine iLoop_of (α := Nat) (fun k => k ≤ l.length ∧ idxN v l 0 = idxN v (l.drop k) k) (fun k => [int k]) (fun _ => []) (fun k => l.length - k) 0 (by simp) (Wk.refl _ _ _ (by simp)) ?_
  rintro k ⟨hk, hf⟩
  refine a_lss rfl rfl ?_
  rcases Nat.lt_or_ge k l.length with q | q
  · obtain ⟨s, hs⟩ : ∃ x, l[k]? = some x := ⟨l[k], List.getElem?_eq_getElem q⟩
    have e := idxN_drop (v := v) hs k
    refine a_cond1 rfl (by simpa using q) ?_
    refine a_idx (f := fun s => [.str s]) rfl rfl rfl hs ?_
    refine w_loadI rfl ?_
    refine a_eqlS rfl rfl ?_
    refine a_cond rfl (fun hc => ?_) (fun hc => ?_)
    · rw [if_pos (by simpa using hc)] at e
      exact .pure (by simp) (by rw [hf, e]; rfl)
    · rw [if_neg (by simpa using hc)] at e
      refine w_add rfl rfl (by unfold inI; omega) ?_
      refine w_and ?_
      exact ⟨k + 1, ⟨q, by rw [hf, e]⟩, Wk.refl _ _ _ (by simp), by omega⟩
  · have hk : k = l.length := by omega
    subst hk
    rw [List.drop_length] at hf
    refine a_cond0 rfl (by simp) ?_
    exact .pure (by simp) (by rw [hf]; rfl)
theorem con_contains (l : List Str) (v : Str) (hl : l.length < 2 ^ 40) : Con Tryd.prog 39 [.sl 1 (encSt l), .str v] (bool (decide (v ∈ l))) := by
  refine (V39 _ _).gives (by simp [encSt_pure]) (by simp) ?_
  unfold W39
  refine w_call rfl (by kernel_rfl) (con_sIndex l v hl) ?_
  refine a_geq rfl rfl ?_
  refine .pure (by simp) ?_
  have := idxN_mem v l 0
  simp [this]
def marginS : Str := [109, 97, 114, 103, 105, 110]
def borderS : Str := [98, 111, 114, 100, 101, 114]
def outlineS : Str := [111, 117, 116, 108, 105, 110, 101]
def backS : Str := [98, 97, 99, 107, 103, 114, 111, 117, 110, 100]
def sidesL : List Str := [[116, 111, 112], [114, 105, 103, 104, 116], [98, 111, 116, 116, 111, 109], [108, 101, 102, 116]]
def longsL (s : Str) : List Str := if s = marginS then sidesL.map fun x => marginS ++ [45] ++ x else if s = borderS ∨ s = outlineS ∨ s = backS then [s ++ [45, 99, 111, 108, 111, 114]] else []
def ofV (s : Str) : AV := if longsL s = [] then .v (.slice none 0 0) else .sl 1 (encSt (longsL s))
theorem ofV_pure (s : Str) : Aw.Pure (ofV s) := by unfold ofV; split <;> simp [encSt_pure]
theorem con_Names : Con Tryd.prog 91 [] (.sl 1 (encSt [marginS, borderS, outlineS, backS])) := by
  refine (V91).gives (by simp) (by simp [encSt_pure]) ?_
  unfold W91
  refine a_mkSlP rfl ?_
  exact .pure (by simp [chunks, setAll, rep0]) rfl
set_option maxHeartbeats 2000000 in
theorem con_of (s : Str) (hs : s.length < 2 ^ 40) : Con Tryd.prog 64 [.str s] (ofV s) := by
  refine (V64 _).gives (by simp) (ofV_pure s) ?_
  unfold W64
  refine w_call rfl (by kernel_rfl) con_Names ?_
  refine w_call rfl (by kernel_rfl) (con_contains [marginS, borderS, outlineS, backS] s (by simp)) ?_
  refine a_not rfl ?_
  by_cases hm : s = marginS
  · refine a_cond0 rfl (by simp [hm]) ?_
    refine a_neqS rfl rfl ?_
    refine a_cond0 rfl (by simp [hm, marginS]) ?_
    refine a_mkSlP rfl ?_
    refine a_len rfl rfl fun _ => ?_
    subst hm
    refine iLoop_of (α := Nat) (fun k => k ≤ 4) (fun k => [.sb 0 1 (encSt ((longsL marginS).take k)), int k]) (fun k => [.tok 9 1 k]) (fun k => 4 - k) 0 (by simp) ?_ ?_
    · have a := Wk.nil (n := 0) (s := [.v (.slice none 0 0), int 0]) (h := []) (by simp) 0 rfl
      have b := Wk.tok (n := 0) (s := [.emp, int 0]) (h := []) (by simp) 0 9 1 rfl
      exact a.trans b
    · intro k hk
      obtain rfl | rfl | rfl | rfl | rfl : k = 0 ∨ k = 1 ∨ k = 2 ∨ k = 3 ∨ k = 4 := by omega
      iterate 4
        · refine a_lss rfl rfl ?_
          refine a_cond1 rfl rfl ?_
          refine w_idxS rfl rfl (by decide) ?_
          refine w_loadI rfl ?_
          refine a_addS rfl rfl (by unfold maxLen; decide) ?_
          refine a_addS rfl rfl (by unfold maxLen; decide) ?_
          refine a_mkSlP rfl ?_
          refine n_appB (h' := [_]) rfl rfl rfl srcR_sl rfl (by unfold roomA maxLen; decide) rfl ?_
          refine w_add rfl rfl (by unfold inI; omega) ?_
          refine w_and ?_
          exact ⟨_, by decide, Wk.refl _ _ _ (by simp), by decide⟩
      · refine a_lss rfl rfl ?_
        refine a_cond0 rfl rfl ?_
        refine Gives.of ?_
        show _ = _
        rfl
  · by_cases hb : s = borderS ∨ s = outlineS ∨ s = backS
    · refine a_cond0 rfl (by rcases hb with h | h | h <;> simp [h]) ?_
      refine a_neqS rfl rfl ?_
      refine a_cond1 rfl (by simpa [marginS] using hm) ?_
      refine a_addS rfl rfl (by unfold maxLen; simp; omega) ?_
      refine a_mkSlP (cs := [.str (s ++ [45, 99, 111, 108, 111, 114])]) rfl ?_
      refine .pure (by simp [chunks]) ?_
      unfold ofV longsL
      rw [if_neg hm, if_pos hb]
      simp [encSt, chunks]
    · refine a_cond1 rfl (by simp [not_or] at hb; simp [hm, hb]) ?_
      refine .pure (by simp) ?_
      unfold ofV longsL
      rw [if_neg hm, if_neg hb]
      simp
theorem con_rlongs (s : Str) (hs : s.length < 2 ^ 40) : Con Tryd.prog 94 [.str s] (ofV s) := by
  refine (V94 _).gives (by simp) (ofV_pure s) ?_
  unfold W94
  have hin : s.length + 6 ≤ maxLen := by unfold maxLen; omega
  repeat' (first
    | (with_reducible apply w_let)
    | (with_reducible apply w_and)
    | (with_reducible refine And.intro True.intro ?_)
    | ((with_reducible apply a_lss); rfl; rfl)
    | ((with_reducible apply a_leq); rfl; rfl)
    | ((with_reducible apply a_gtr); rfl; rfl)
    | ((with_reducible apply a_geq); rfl; rfl)
    | ((with_reducible apply a_eql); rfl; rfl)
    | ((with_reducible apply a_neq); rfl; rfl)
    | ((with_reducible apply a_eqlS); rfl; rfl)
    | ((with_reducible apply a_neqS); rfl; rfl)
    | ((with_reducible apply a_eqlB); rfl; rfl)
    | ((with_reducible apply a_neqB); rfl; rfl)
    | ((with_reducible apply w_add); rfl; rfl; first | assumption | (unfold inI; omega))
    | ((with_reducible apply w_sub); rfl; rfl; first | assumption | (unfold inI; omega))
    | ((with_reducible apply a_not); rfl)
    | ((with_reducible apply w_pick_t); rfl)
    | ((with_reducible apply w_pick_f); rfl)
    | ((with_reducible apply a_cond1); rfl; first | rfl | assumption)
    | ((with_reducible apply a_cond0); rfl; first | rfl | assumption)
    | ((with_reducible apply a_guard1); rfl; first | rfl | assumption)
    | ((with_reducible apply a_guard0); rfl; first | rfl | assumption)
    | ((with_reducible apply w_guard_u); rfl)
    | ((with_reducible apply a_pick1); rfl; first | rfl | assumption)
    | ((with_reducible apply a_pick0); rfl; first | rfl | assumption)
    | ((with_reducible apply a_pickN); rfl)
    | ((with_reducible apply a_condN); rfl)
    | ((with_reducible apply a_guardN); rfl)
    | ((with_reducible apply w_fad); rfl)
    | ((with_reducible apply a_fadI); rfl)
    | ((with_reducible apply w_load); rfl; rfl; rfl)
    | ((with_reducible apply w_loadI); rfl)
    | ((with_reducible apply w_loadA); rfl; rfl; first | exact Nat.le_refl _ | exact Nat.le_of_ble_eq_true rfl)
    | ((with_reducible apply a_eqA); rfl; rfl; rfl)
    | ((with_reducible apply a_loadAI); rfl; first | rfl | simp)
    | ((with_reducible apply w_new); first | rfl | simp)
    | ((with_reducible apply a_store); rfl; rfl; rfl; rfl; (first | exact Nat.le_refl _ | simp); (first | rfl | simp); (first | rfl | simp))
    | ((with_reducible apply a_lenS); rfl; intro _)
    | ((with_reducible apply a_len); rfl; (first | rfl | simp); intro _)
    | ((with_reducible apply a_build); rfl)
    | ((with_reducible apply a_extr); rfl; rfl)
    | (refine a_mkSlP rfl ?_)
    | (refine a_addS rfl rfl hin ?_)
    | ((with_reducible apply a_cond); rfl)
    | ((with_reducible apply a_guard); rfl)
    | (with_reducible intro _))
  all_goals
    refine .pure (by simp [chunks, setAll, rep0]) ?_
    unfold ofV longsL
    simp only [decide_eq_true_eq, decide_eq_false_iff_not] at *
    simp_all [marginS, borderS, outlineS, backS, encSt, chunks, setAll, rep0, sidesL]
end Go.Proofs.YtlapkmobmgffoaaDoor
