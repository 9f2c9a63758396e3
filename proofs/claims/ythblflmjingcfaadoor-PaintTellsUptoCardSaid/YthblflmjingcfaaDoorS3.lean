/-
  Styles checked: by either way. The used value: by either way. Painted colours: by either way. Painted colours by the reference. Painted colours by the program.
  No conditions.
-/
import Derived.Test.YthblflmjingcfaaDoorS2
import Derived.Test.YthblflmjingcfaaDoorS1
import Derived.Test.YthblflmjingcfaaDoorGrow
set_option linter.unusedVariables false
set_option linter.unusedSimpArgs false
section
namespace Go.Proofs.YthblflmjingcfaaDoor
open Go Go.Aw Go.Nst
set_option maxRecDepth 1000000
structure Sy where
  vals : List Vv
  customs : List Cu
def encWs (l : List Vv) : List (List AV) := l.map encW
theorem encWs_pure : ∀ l, PureR (encWs l)
  | [] => by simp [encWs, PureR]
  | s :: l => by have := encWs_pure l; unfold encWs at this ⊢; simp only [List.map_cons, PureR]; exact ⟨encW_pure s, this⟩
def encSy (s : Sy) : List AV := [.sl 7 (encWs s.vals), .sl 2 (encCus s.customs)]
theorem encSy_pure (s : Sy) : PureL (encSy s) := by simp [encSy, encWs_pure, encCus_pure]
def v0 : Vv := ⟨0, [], 0, 0, 0, 0, 0⟩
def vOk (i : Int) (v : Vv) : Bool := hasB i v && !decide (v.kind = 3) && !decide (v.kind = 4)
def lastOk (l : List Vv) : Bool := decide ((l.getD 0 v0).kind = 7) && decide (0 ≤ (l.getD 15 v0).num) && decide ((l.getD 15 v0).num ≤ 1000)
def styB (s : Sy) : Bool := decide (s.vals.length = 18) && decide (custE s.customs = 0) && (List.range 18).all (fun i => vOk i (s.vals.getD i v0)) && lastOk s.vals
def styE (s : Sy) : Int := if styB s = true then 0 else 8
def OkSy (s : Sy) : Prop := (∀ v ∈ s.vals, inI v.num) ∧ s.customs.length < 2 ^ 40 ∧ ∀ c ∈ s.customs, zVs c.value < 2 ^ 39

set_option maxHeartbeats 8000000 in
theorem con_syCheck (s : Sy) (ok : OkSy s) : Con Tryd.prog 23 [.agg (encSy s)] (int (styE s)) := by
  refine (V23 _).gives (by simp [encSy_pure]) (by simp) ?_
  unfold W23
  obtain ⟨vl, cu⟩ := s
  obtain ⟨o1, o2, o3⟩ := ok
  simp only at o1 o2 o3
  rw [encSy]
  have hlen : (encWs vl).length = vl.length := by simp [encWs]
  by_cases h1 : vl.length = 18
  case neg =>
    have g1 : (!decide ((vl.length : Int) = 18)) = true := by simp; omega
    repeat' (first | (refine a_len (n := vl.length) rfl hlen fun _ => ?_) | (with_reducible first | apply w_let | apply w_and | refine And.intro True.intro ?_) | ((with_reducible first | apply a_lss | apply a_leq | apply a_gtr | apply a_geq | apply a_eql | apply a_neq); rfl; rfl) | ((with_reducible first | apply a_eqlS | apply a_neqS | apply a_eqlB | apply a_neqB); rfl; rfl) | ((with_reducible apply w_add); rfl; rfl; first | assumption | (unfold inI; omega)) | ((with_reducible apply w_sub); rfl; rfl; first | assumption | (unfold inI; omega)) | ((with_reducible apply a_not); rfl) | ((with_reducible apply w_pick_t); rfl) | ((with_reducible apply w_pick_f); rfl) | ((with_reducible apply a_cond1); rfl; first | rfl | assumption) | ((with_reducible apply a_cond0); rfl; first | rfl | assumption) | ((with_reducible apply a_guard1); rfl; first | rfl | assumption) | ((with_reducible apply a_guard0); rfl; first | rfl | assumption) | ((with_reducible apply w_guard_u); rfl) | ((with_reducible apply a_pick1); rfl; first | rfl | assumption) | ((with_reducible apply a_pick0); rfl; first | rfl | assumption) | ((with_reducible apply a_pickN); rfl) | ((with_reducible apply a_condN); rfl) | ((with_reducible apply a_guardN); rfl) | ((with_reducible apply w_fad); rfl) | ((with_reducible apply a_fadI); rfl) | ((with_reducible apply w_load); rfl; rfl; rfl) | ((with_reducible apply w_loadI); rfl) | ((with_reducible apply w_loadA); rfl; rfl; first | exact Nat.le_refl _ | exact Nat.le_of_ble_eq_true rfl) | ((with_reducible apply a_eqA); rfl; rfl; rfl) | ((with_reducible apply a_loadAI); rfl; first | rfl | simp) | ((with_reducible apply w_new); first | rfl | simp) | ((with_reducible apply a_store); rfl; rfl; rfl; rfl; (first | exact Nat.le_refl _ | simp); (first | rfl | simp); (first | rfl | simp)) | ((with_reducible apply a_lenS); rfl; intro _) | ((with_reducible apply a_len); rfl; (first | rfl | simp); intro _) | ((with_reducible apply a_build); rfl) | ((with_reducible apply a_extr); rfl; rfl) | ((with_reducible apply a_cond); rfl) | ((with_reducible apply a_guard); rfl) | (with_reducible intro _))
    exact .pure (by simp) (by simp [styE, styB, h1])
  have g1 : (!decide ((vl.length : Int) = 18)) = false := by simp; omega
  have hN := con_cCheck cu o2 o3
  by_cases h2 : custE cu = 0
  case neg =>
    have g2 : (!decide (custE cu = 0)) = true := by simp [h2]
    repeat' (first | (refine a_len (n := vl.length) rfl hlen fun _ => ?_) | (with_reducible first | apply w_let | apply w_and | refine And.intro True.intro ?_) | ((with_reducible first | apply a_lss | apply a_leq | apply a_gtr | apply a_geq | apply a_eql | apply a_neq); rfl; rfl) | ((with_reducible first | apply a_eqlS | apply a_neqS | apply a_eqlB | apply a_neqB); rfl; rfl) | ((with_reducible apply w_add); rfl; rfl; first | assumption | (unfold inI; omega)) | ((with_reducible apply w_sub); rfl; rfl; first | assumption | (unfold inI; omega)) | ((with_reducible apply a_not); rfl) | ((with_reducible apply w_pick_t); rfl) | ((with_reducible apply w_pick_f); rfl) | ((with_reducible apply a_cond1); rfl; first | rfl | assumption) | ((with_reducible apply a_cond0); rfl; first | rfl | assumption) | ((with_reducible apply a_guard1); rfl; first | rfl | assumption) | ((with_reducible apply a_guard0); rfl; first | rfl | assumption) | ((with_reducible apply w_guard_u); rfl) | ((with_reducible apply a_pick1); rfl; first | rfl | assumption) | ((with_reducible apply a_pick0); rfl; first | rfl | assumption) | ((with_reducible apply a_pickN); rfl) | ((with_reducible apply a_condN); rfl) | ((with_reducible apply a_guardN); rfl) | ((with_reducible apply w_fad); rfl) | ((with_reducible apply a_fadI); rfl) | ((with_reducible apply w_load); rfl; rfl; rfl) | ((with_reducible apply w_loadI); rfl) | ((with_reducible apply w_loadA); rfl; rfl; first | exact Nat.le_refl _ | exact Nat.le_of_ble_eq_true rfl) | ((with_reducible apply a_eqA); rfl; rfl; rfl) | ((with_reducible apply a_loadAI); rfl; first | rfl | simp) | ((with_reducible apply w_new); first | rfl | simp) | ((with_reducible apply a_store); rfl; rfl; rfl; rfl; (first | exact Nat.le_refl _ | simp); (first | rfl | simp); (first | rfl | simp)) | ((with_reducible apply a_lenS); rfl; intro _) | ((with_reducible apply a_len); rfl; (first | rfl | simp); intro _) | ((with_reducible apply a_build); rfl) | ((with_reducible apply a_extr); rfl; rfl) | (refine iCall_con (by kernel_rfl) (hN) ?_) | ((with_reducible apply a_cond); rfl) | ((with_reducible apply a_guard); rfl) | (with_reducible intro _))
    exact .pure (by simp) (by simp [styE, styB, h2])
  have g2 : (!decide (custE cu = 0)) = false := by simp [h2]
  repeat' (first | (refine a_len (n := vl.length) rfl hlen fun _ => ?_) | (with_reducible first | apply w_let | apply w_and | refine And.intro True.intro ?_) | ((with_reducible first | apply a_lss | apply a_leq | apply a_gtr | apply a_geq | apply a_eql | apply a_neq); rfl; rfl) | ((with_reducible first | apply a_eqlS | apply a_neqS | apply a_eqlB | apply a_neqB); rfl; rfl) | ((with_reducible apply w_add); rfl; rfl; first | assumption | (unfold inI; omega)) | ((with_reducible apply w_sub); rfl; rfl; first | assumption | (unfold inI; omega)) | ((with_reducible apply a_not); rfl) | ((with_reducible apply w_pick_t); rfl) | ((with_reducible apply w_pick_f); rfl) | ((with_reducible apply a_cond1); rfl; first | rfl | assumption) | ((with_reducible apply a_cond0); rfl; first | rfl | assumption) | ((with_reducible apply a_guard1); rfl; first | rfl | assumption) | ((with_reducible apply a_guard0); rfl; first | rfl | assumption) | ((with_reducible apply w_guard_u); rfl) | ((with_reducible apply a_pick1); rfl; first | rfl | assumption) | ((with_reducible apply a_pick0); rfl; first | rfl | assumption) | ((with_reducible apply a_pickN); rfl) | ((with_reducible apply a_condN); rfl) | ((with_reducible apply a_guardN); rfl) | ((with_reducible apply w_fad); rfl) | ((with_reducible apply a_fadI); rfl) | ((with_reducible apply w_load); rfl; rfl; rfl) | ((with_reducible apply w_loadI); rfl) | ((with_reducible apply w_loadA); rfl; rfl; first | exact Nat.le_refl _ | exact Nat.le_of_ble_eq_true rfl) | ((with_reducible apply a_eqA); rfl; rfl; rfl) | ((with_reducible apply a_loadAI); rfl; first | rfl | simp) | ((with_reducible apply w_new); first | rfl | simp) | ((with_reducible apply a_store); rfl; rfl; rfl; rfl; (first | exact Nat.le_refl _ | simp); (first | rfl | simp); (first | rfl | simp)) | ((with_reducible apply a_lenS); rfl; intro _) | ((with_reducible apply a_len); rfl; (first | rfl | simp); intro _) | ((with_reducible apply a_build); rfl) | ((with_reducible apply a_extr); rfl; rfl) | (refine iCall_con (by kernel_rfl) (hN) ?_) | ((with_reducible apply a_cond); rfl) | ((with_reducible apply a_guard); rfl) | (with_reducible intro _))
  refine iLoop_of (α := Nat) (fun k => k ≤ vl.length ∧ ∀ i, i < k → vOk i (vl.getD i v0) = true) (fun k => [int k]) (fun _ => _) (fun k => vl.length - k) 0 ⟨by omega, fun i h => by omega⟩ (Wk.refl _ _ _ (by simp)) ?_
  rintro k ⟨hk, hall⟩
  rcases Nat.lt_or_ge k vl.length with q | q
  · obtain ⟨⟨c, w, n, r, g, b, a⟩, hs⟩ : ∃ x, vl[k]? = some x := ⟨vl[k], List.getElem?_eq_getElem q⟩
    have q1 : decide ((k : Int) < vl.length) = true := by simpa using q
    have hin : inI ((k : Int) + 1) := by unfold inI; omega
    have hn : inI n := o1 _ (List.mem_of_getElem? hs)
    have hH : Con Tryd.prog 42 [int k, .agg [.v (.int .u8 c), .str w, int n, .v (.int .u8 r), .v (.int .u8 g), .v (.int .u8 b), .v (.int .u8 a)]] (.tup [bool (hasB k ⟨c, w, n, r, g, b, a⟩), int (if 0 ≤ (k : Int) ∧ (k : Int) < 18 then 0 else 2)]) := con_Has k ⟨c, w, n, r, g, b, a⟩ hn
    have hv : vOk k (vl.getD k v0) = (!(!hasB k ⟨c, w, n, r, g, b, a⟩) && !decide (c = 3) && !decide (c = 4)) := by
      rw [List.getD_eq_getElem?_getD, hs]; simp [vOk]
    have bad : vOk k (vl.getD k v0) = false → styE ⟨vl, cu⟩ = 8 := fun e => by
      unfold styE
      rw [if_neg]
      intro h
      unfold styB at h
      simp only [Bool.and_eq_true] at h
      obtain ⟨⟨_, h⟩, _⟩ := h
      rw [List.all_eq_true] at h
      rw [h k (List.mem_range.2 (by omega))] at e
      cases e
    cases g3 : (!hasB k ⟨c, w, n, r, g, b, a⟩) <;> cases g4 : decide (c = 3) <;> cases g5 : decide (c = 4)
    all_goals
      rw [g3, g4, g5] at hv
      repeat' (first | (refine a_len (n := vl.length) rfl hlen fun _ => ?_) | (with_reducible first | apply w_let | apply w_and | refine And.intro True.intro ?_) | ((with_reducible first | apply a_lss | apply a_leq | apply a_gtr | apply a_geq | apply a_eql | apply a_neq); rfl; rfl) | ((with_reducible first | apply a_eqlS | apply a_neqS | apply a_eqlB | apply a_neqB); rfl; rfl) | ((with_reducible apply w_add); rfl; rfl; first | assumption | (unfold inI; omega)) | ((with_reducible apply w_sub); rfl; rfl; first | assumption | (unfold inI; omega)) | ((with_reducible apply a_not); rfl) | ((with_reducible apply w_pick_t); rfl) | ((with_reducible apply w_pick_f); rfl) | ((with_reducible apply a_cond1); rfl; first | rfl | assumption) | ((with_reducible apply a_cond0); rfl; first | rfl | assumption) | ((with_reducible apply a_guard1); rfl; first | rfl | assumption) | ((with_reducible apply a_guard0); rfl; first | rfl | assumption) | ((with_reducible apply w_guard_u); rfl) | ((with_reducible apply a_pick1); rfl; first | rfl | assumption) | ((with_reducible apply a_pick0); rfl; first | rfl | assumption) | ((with_reducible apply a_pickN); rfl) | ((with_reducible apply a_condN); rfl) | ((with_reducible apply a_guardN); rfl) | ((with_reducible apply w_fad); rfl) | ((with_reducible apply a_fadI); rfl) | ((with_reducible apply w_load); rfl; rfl; rfl) | ((with_reducible apply w_loadI); rfl) | ((with_reducible apply w_loadA); rfl; rfl; first | exact Nat.le_refl _ | exact Nat.le_of_ble_eq_true rfl) | ((with_reducible apply a_eqA); rfl; rfl; rfl) | ((with_reducible apply a_loadAI); rfl; first | rfl | simp) | ((with_reducible apply w_new); first | rfl | simp) | ((with_reducible apply a_store); rfl; rfl; rfl; rfl; (first | exact Nat.le_refl _ | simp); (first | rfl | simp); (first | rfl | simp)) | ((with_reducible apply a_lenS); rfl; intro _) | ((with_reducible apply a_len); rfl; (first | rfl | simp); intro _) | ((with_reducible apply a_build); rfl) | ((with_reducible apply a_extr); rfl; rfl) | (refine iCall_con (by kernel_rfl) (hH) ?_) | (refine a_idx (f := encW) rfl rfl rfl hs ?_) | (refine a_loadAI rfl (by simp [encW]) ?_) | (refine a_store (cs := [.v (.int .u8 c), .str w, int n, .v (.int .u8 r), .v (.int .u8 g), .v (.int .u8 b), .v (.int .u8 a)]) rfl rfl rfl rfl (Nat.le_refl _) rfl rfl ?_) | ((with_reducible apply a_cond); rfl) | ((with_reducible apply a_guard); rfl) | (with_reducible intro _))
    all_goals first
      | (refine .pure (by simp) ?_
         rw [bad hv]; done)
      | (refine ⟨k + 1, ⟨q, fun i hi => ?_⟩, ?_, by omega⟩
         · rcases Nat.lt_or_ge i k with z | z
           · exact hall i z
           · obtain rfl : i = k := by omega
             exact hv
         · first
             | exact Wk.refl _ _ _ (by simp)
             | exact Wk.le (by simp) (by simp)
             | exact Wk.back (M := 1) (by simp) (by simp) rfl rfl (by simp [entB]; exact BdL_pure _ _ (by simp [encWs_pure, encCus_pure, PureL])) (by simp [Bd]))
  · have hk : k = vl.length := by omega
    subst hk
    have q1 : decide ((vl.length : Int) < vl.length) = false := by simp
    obtain ⟨⟨c0, w0, n0, r0, x0, b0, a0⟩, e0⟩ : ∃ x, vl[0]? = some x := ⟨vl[0]'(by omega), List.getElem?_eq_getElem _⟩
    obtain ⟨⟨c1, w1, n1, r1, x1, b1, a1⟩, e1⟩ : ∃ x, vl[15]? = some x := ⟨vl[15]'(by omega), List.getElem?_eq_getElem _⟩
    have hl : styB ⟨vl, cu⟩ = (!(!decide (c0 = 7)) && !decide (n1 < 0) && !decide ((1000 : Int) < n1)) := by
      have ha : (List.range 18).all (fun i => vOk i (vl.getD i v0)) = true := by
        rw [List.all_eq_true]
        intro i hi
        exact hall i (by rw [h1]; exact List.mem_range.1 hi)
      unfold styB lastOk
      simp only
      rw [ha, h1, h2, List.getD_eq_getElem?_getD, e0, List.getD_eq_getElem?_getD, e1]
      by_cases z0 : c0 = 7 <;> by_cases z1 : n1 < 0 <;> by_cases z2 : (1000 : Int) < n1 <;> simp [z0, z1, z2] <;> omega
    cases g3 : (!decide (c0 = 7)) <;> cases g4 : decide (n1 < 0) <;> cases g5 : decide ((1000 : Int) < n1)
    all_goals
      rw [g3, g4, g5] at hl
      repeat' (first | (refine a_len (n := vl.length) rfl hlen fun _ => ?_) | (with_reducible first | apply w_let | apply w_and | refine And.intro True.intro ?_) | ((with_reducible first | apply a_lss | apply a_leq | apply a_gtr | apply a_geq | apply a_eql | apply a_neq); rfl; rfl) | ((with_reducible first | apply a_eqlS | apply a_neqS | apply a_eqlB | apply a_neqB); rfl; rfl) | ((with_reducible apply w_add); rfl; rfl; first | assumption | (unfold inI; omega)) | ((with_reducible apply w_sub); rfl; rfl; first | assumption | (unfold inI; omega)) | ((with_reducible apply a_not); rfl) | ((with_reducible apply w_pick_t); rfl) | ((with_reducible apply w_pick_f); rfl) | ((with_reducible apply a_cond1); rfl; first | rfl | assumption) | ((with_reducible apply a_cond0); rfl; first | rfl | assumption) | ((with_reducible apply a_guard1); rfl; first | rfl | assumption) | ((with_reducible apply a_guard0); rfl; first | rfl | assumption) | ((with_reducible apply w_guard_u); rfl) | ((with_reducible apply a_pick1); rfl; first | rfl | assumption) | ((with_reducible apply a_pick0); rfl; first | rfl | assumption) | ((with_reducible apply a_pickN); rfl) | ((with_reducible apply a_condN); rfl) | ((with_reducible apply a_guardN); rfl) | ((with_reducible apply w_fad); rfl) | ((with_reducible apply a_fadI); rfl) | ((with_reducible apply w_load); rfl; rfl; rfl) | ((with_reducible apply w_loadI); rfl) | ((with_reducible apply w_loadA); rfl; rfl; first | exact Nat.le_refl _ | exact Nat.le_of_ble_eq_true rfl) | ((with_reducible apply a_eqA); rfl; rfl; rfl) | ((with_reducible apply a_loadAI); rfl; first | rfl | simp) | ((with_reducible apply w_new); first | rfl | simp) | ((with_reducible apply a_store); rfl; rfl; rfl; rfl; (first | exact Nat.le_refl _ | simp); (first | rfl | simp); (first | rfl | simp)) | ((with_reducible apply a_lenS); rfl; intro _) | ((with_reducible apply a_len); rfl; (first | rfl | simp); intro _) | ((with_reducible apply a_build); rfl) | ((with_reducible apply a_extr); rfl; rfl) | (refine a_idx (f := encW) rfl rfl rfl e0 ?_) | (refine a_idx (f := encW) rfl rfl rfl e1 ?_) | ((with_reducible apply a_cond); rfl) | ((with_reducible apply a_guard); rfl) | (with_reducible intro _))
    all_goals exact .pure (by simp) (by unfold styE; rw [hl]; rfl)

set_option maxHeartbeats 8000000 in
theorem con_rsyCheck (s : Sy) (ok : OkSy s) : Con Tryd.prog 25 [.agg (encSy s)] (int (styE s)) := by
  refine (V25 _).gives (by simp [encSy_pure]) (by simp) ?_
  unfold W25
  obtain ⟨vl, cu⟩ := s
  obtain ⟨o1, o2, o3⟩ := ok
  simp only at o1 o2 o3
  rw [encSy]
  have hlen : (encWs vl).length = vl.length := by simp [encWs]
  by_cases h1 : vl.length = 18
  case neg =>
    have g1 : (!decide ((vl.length : Int) = 18)) = true := by simp; omega
    repeat' (first | (refine a_len (n := vl.length) rfl hlen fun _ => ?_) | (with_reducible first | apply w_let | apply w_and | refine And.intro True.intro ?_) | ((with_reducible first | apply a_lss | apply a_leq | apply a_gtr | apply a_geq | apply a_eql | apply a_neq); rfl; rfl) | ((with_reducible first | apply a_eqlS | apply a_neqS | apply a_eqlB | apply a_neqB); rfl; rfl) | ((with_reducible apply w_add); rfl; rfl; first | assumption | (unfold inI; omega)) | ((with_reducible apply w_sub); rfl; rfl; first | assumption | (unfold inI; omega)) | ((with_reducible apply a_not); rfl) | ((with_reducible apply w_pick_t); rfl) | ((with_reducible apply w_pick_f); rfl) | ((with_reducible apply a_cond1); rfl; first | rfl | assumption) | ((with_reducible apply a_cond0); rfl; first | rfl | assumption) | ((with_reducible apply a_guard1); rfl; first | rfl | assumption) | ((with_reducible apply a_guard0); rfl; first | rfl | assumption) | ((with_reducible apply w_guard_u); rfl) | ((with_reducible apply a_pick1); rfl; first | rfl | assumption) | ((with_reducible apply a_pick0); rfl; first | rfl | assumption) | ((with_reducible apply a_pickN); rfl) | ((with_reducible apply a_condN); rfl) | ((with_reducible apply a_guardN); rfl) | ((with_reducible apply w_fad); rfl) | ((with_reducible apply a_fadI); rfl) | ((with_reducible apply w_load); rfl; rfl; rfl) | ((with_reducible apply w_loadI); rfl) | ((with_reducible apply w_loadA); rfl; rfl; first | exact Nat.le_refl _ | exact Nat.le_of_ble_eq_true rfl) | ((with_reducible apply a_eqA); rfl; rfl; rfl) | ((with_reducible apply a_loadAI); rfl; first | rfl | simp) | ((with_reducible apply w_new); first | rfl | simp) | ((with_reducible apply a_store); rfl; rfl; rfl; rfl; (first | exact Nat.le_refl _ | simp); (first | rfl | simp); (first | rfl | simp)) | ((with_reducible apply a_lenS); rfl; intro _) | ((with_reducible apply a_len); rfl; (first | rfl | simp); intro _) | ((with_reducible apply a_build); rfl) | ((with_reducible apply a_extr); rfl; rfl) | ((with_reducible apply a_cond); rfl) | ((with_reducible apply a_guard); rfl) | (with_reducible intro _))
    exact .pure (by simp) (by simp [styE, styB, h1])
  have g1 : (!decide ((vl.length : Int) = 18)) = false := by simp; omega
  have hN := con_rcCheck cu o2 o3
  by_cases h2 : custE cu = 0
  case neg =>
    have g2 : (!decide (custE cu = 0)) = true := by simp [h2]
    repeat' (first | (refine a_len (n := vl.length) rfl hlen fun _ => ?_) | (with_reducible first | apply w_let | apply w_and | refine And.intro True.intro ?_) | ((with_reducible first | apply a_lss | apply a_leq | apply a_gtr | apply a_geq | apply a_eql | apply a_neq); rfl; rfl) | ((with_reducible first | apply a_eqlS | apply a_neqS | apply a_eqlB | apply a_neqB); rfl; rfl) | ((with_reducible apply w_add); rfl; rfl; first | assumption | (unfold inI; omega)) | ((with_reducible apply w_sub); rfl; rfl; first | assumption | (unfold inI; omega)) | ((with_reducible apply a_not); rfl) | ((with_reducible apply w_pick_t); rfl) | ((with_reducible apply w_pick_f); rfl) | ((with_reducible apply a_cond1); rfl; first | rfl | assumption) | ((with_reducible apply a_cond0); rfl; first | rfl | assumption) | ((with_reducible apply a_guard1); rfl; first | rfl | assumption) | ((with_reducible apply a_guard0); rfl; first | rfl | assumption) | ((with_reducible apply w_guard_u); rfl) | ((with_reducible apply a_pick1); rfl; first | rfl | assumption) | ((with_reducible apply a_pick0); rfl; first | rfl | assumption) | ((with_reducible apply a_pickN); rfl) | ((with_reducible apply a_condN); rfl) | ((with_reducible apply a_guardN); rfl) | ((with_reducible apply w_fad); rfl) | ((with_reducible apply a_fadI); rfl) | ((with_reducible apply w_load); rfl; rfl; rfl) | ((with_reducible apply w_loadI); rfl) | ((with_reducible apply w_loadA); rfl; rfl; first | exact Nat.le_refl _ | exact Nat.le_of_ble_eq_true rfl) | ((with_reducible apply a_eqA); rfl; rfl; rfl) | ((with_reducible apply a_loadAI); rfl; first | rfl | simp) | ((with_reducible apply w_new); first | rfl | simp) | ((with_reducible apply a_store); rfl; rfl; rfl; rfl; (first | exact Nat.le_refl _ | simp); (first | rfl | simp); (first | rfl | simp)) | ((with_reducible apply a_lenS); rfl; intro _) | ((with_reducible apply a_len); rfl; (first | rfl | simp); intro _) | ((with_reducible apply a_build); rfl) | ((with_reducible apply a_extr); rfl; rfl) | (refine iCall_con (by kernel_rfl) (hN) ?_) | ((with_reducible apply a_cond); rfl) | ((with_reducible apply a_guard); rfl) | (with_reducible intro _))
    exact .pure (by simp) (by simp [styE, styB, h2])
  have g2 : (!decide (custE cu = 0)) = false := by simp [h2]
  repeat' (first | (refine a_len (n := vl.length) rfl hlen fun _ => ?_) | (with_reducible first | apply w_let | apply w_and | refine And.intro True.intro ?_) | ((with_reducible first | apply a_lss | apply a_leq | apply a_gtr | apply a_geq | apply a_eql | apply a_neq); rfl; rfl) | ((with_reducible first | apply a_eqlS | apply a_neqS | apply a_eqlB | apply a_neqB); rfl; rfl) | ((with_reducible apply w_add); rfl; rfl; first | assumption | (unfold inI; omega)) | ((with_reducible apply w_sub); rfl; rfl; first | assumption | (unfold inI; omega)) | ((with_reducible apply a_not); rfl) | ((with_reducible apply w_pick_t); rfl) | ((with_reducible apply w_pick_f); rfl) | ((with_reducible apply a_cond1); rfl; first | rfl | assumption) | ((with_reducible apply a_cond0); rfl; first | rfl | assumption) | ((with_reducible apply a_guard1); rfl; first | rfl | assumption) | ((with_reducible apply a_guard0); rfl; first | rfl | assumption) | ((with_reducible apply w_guard_u); rfl) | ((with_reducible apply a_pick1); rfl; first | rfl | assumption) | ((with_reducible apply a_pick0); rfl; first | rfl | assumption) | ((with_reducible apply a_pickN); rfl) | ((with_reducible apply a_condN); rfl) | ((with_reducible apply a_guardN); rfl) | ((with_reducible apply w_fad); rfl) | ((with_reducible apply a_fadI); rfl) | ((with_reducible apply w_load); rfl; rfl; rfl) | ((with_reducible apply w_loadI); rfl) | ((with_reducible apply w_loadA); rfl; rfl; first | exact Nat.le_refl _ | exact Nat.le_of_ble_eq_true rfl) | ((with_reducible apply a_eqA); rfl; rfl; rfl) | ((with_reducible apply a_loadAI); rfl; first | rfl | simp) | ((with_reducible apply w_new); first | rfl | simp) | ((with_reducible apply a_store); rfl; rfl; rfl; rfl; (first | exact Nat.le_refl _ | simp); (first | rfl | simp); (first | rfl | simp)) | ((with_reducible apply a_lenS); rfl; intro _) | ((with_reducible apply a_len); rfl; (first | rfl | simp); intro _) | ((with_reducible apply a_build); rfl) | ((with_reducible apply a_extr); rfl; rfl) | (refine iCall_con (by kernel_rfl) (hN) ?_) | ((with_reducible apply a_cond); rfl) | ((with_reducible apply a_guard); rfl) | (with_reducible intro _))
  refine iLoop_of (α := Nat) (fun k => k ≤ vl.length ∧ ∀ i, i < k → vOk i (vl.getD i v0) = true) (fun k => [int k]) (fun _ => _) (fun k => vl.length - k) 0 ⟨by omega, fun i h => by omega⟩ (Wk.refl _ _ _ (by simp)) ?_
  rintro k ⟨hk, hall⟩
  rcases Nat.lt_or_ge k vl.length with q | q
  · obtain ⟨⟨c, w, n, r, g, b, a⟩, hs⟩ : ∃ x, vl[k]? = some x := ⟨vl[k], List.getElem?_eq_getElem q⟩
    have q1 : decide ((k : Int) < vl.length) = true := by simpa using q
    have hin : inI ((k : Int) + 1) := by unfold inI; omega
    have hn : inI n := o1 _ (List.mem_of_getElem? hs)
    have hH : Con Tryd.prog 44 [int k, .agg [.v (.int .u8 c), .str w, int n, .v (.int .u8 r), .v (.int .u8 g), .v (.int .u8 b), .v (.int .u8 a)]] (.tup [bool (hasB k ⟨c, w, n, r, g, b, a⟩), int (if 0 ≤ (k : Int) ∧ (k : Int) < 18 then 0 else 2)]) := con_rHas k ⟨c, w, n, r, g, b, a⟩ hn
    have hv : vOk k (vl.getD k v0) = (!(!hasB k ⟨c, w, n, r, g, b, a⟩) && !decide (c = 3) && !decide (c = 4)) := by
      rw [List.getD_eq_getElem?_getD, hs]; simp [vOk]
    have bad : vOk k (vl.getD k v0) = false → styE ⟨vl, cu⟩ = 8 := fun e => by
      unfold styE
      rw [if_neg]
      intro h
      unfold styB at h
      simp only [Bool.and_eq_true] at h
      obtain ⟨⟨_, h⟩, _⟩ := h
      rw [List.all_eq_true] at h
      rw [h k (List.mem_range.2 (by omega))] at e
      cases e
    cases g3 : (!hasB k ⟨c, w, n, r, g, b, a⟩) <;> cases g4 : decide (c = 3) <;> cases g5 : decide (c = 4)
    all_goals
      rw [g3, g4, g5] at hv
      repeat' (first | (refine a_len (n := vl.length) rfl hlen fun _ => ?_) | (with_reducible first | apply w_let | apply w_and | refine And.intro True.intro ?_) | ((with_reducible first | apply a_lss | apply a_leq | apply a_gtr | apply a_geq | apply a_eql | apply a_neq); rfl; rfl) | ((with_reducible first | apply a_eqlS | apply a_neqS | apply a_eqlB | apply a_neqB); rfl; rfl) | ((with_reducible apply w_add); rfl; rfl; first | assumption | (unfold inI; omega)) | ((with_reducible apply w_sub); rfl; rfl; first | assumption | (unfold inI; omega)) | ((with_reducible apply a_not); rfl) | ((with_reducible apply w_pick_t); rfl) | ((with_reducible apply w_pick_f); rfl) | ((with_reducible apply a_cond1); rfl; first | rfl | assumption) | ((with_reducible apply a_cond0); rfl; first | rfl | assumption) | ((with_reducible apply a_guard1); rfl; first | rfl | assumption) | ((with_reducible apply a_guard0); rfl; first | rfl | assumption) | ((with_reducible apply w_guard_u); rfl) | ((with_reducible apply a_pick1); rfl; first | rfl | assumption) | ((with_reducible apply a_pick0); rfl; first | rfl | assumption) | ((with_reducible apply a_pickN); rfl) | ((with_reducible apply a_condN); rfl) | ((with_reducible apply a_guardN); rfl) | ((with_reducible apply w_fad); rfl) | ((with_reducible apply a_fadI); rfl) | ((with_reducible apply w_load); rfl; rfl; rfl) | ((with_reducible apply w_loadI); rfl) | ((with_reducible apply w_loadA); rfl; rfl; first | exact Nat.le_refl _ | exact Nat.le_of_ble_eq_true rfl) | ((with_reducible apply a_eqA); rfl; rfl; rfl) | ((with_reducible apply a_loadAI); rfl; first | rfl | simp) | ((with_reducible apply w_new); first | rfl | simp) | ((with_reducible apply a_store); rfl; rfl; rfl; rfl; (first | exact Nat.le_refl _ | simp); (first | rfl | simp); (first | rfl | simp)) | ((with_reducible apply a_lenS); rfl; intro _) | ((with_reducible apply a_len); rfl; (first | rfl | simp); intro _) | ((with_reducible apply a_build); rfl) | ((with_reducible apply a_extr); rfl; rfl) | (refine iCall_con (by kernel_rfl) (hH) ?_) | (refine a_idx (f := encW) rfl rfl rfl hs ?_) | (refine a_loadAI rfl (by simp [encW]) ?_) | (refine a_store (cs := [.v (.int .u8 c), .str w, int n, .v (.int .u8 r), .v (.int .u8 g), .v (.int .u8 b), .v (.int .u8 a)]) rfl rfl rfl rfl (Nat.le_refl _) rfl rfl ?_) | ((with_reducible apply a_cond); rfl) | ((with_reducible apply a_guard); rfl) | (with_reducible intro _))
    all_goals first
      | (refine .pure (by simp) ?_
         rw [bad hv]; done)
      | (refine ⟨k + 1, ⟨q, fun i hi => ?_⟩, ?_, by omega⟩
         · rcases Nat.lt_or_ge i k with z | z
           · exact hall i z
           · obtain rfl : i = k := by omega
             exact hv
         · first
             | exact Wk.refl _ _ _ (by simp)
             | exact Wk.le (by simp) (by simp)
             | exact Wk.back (M := 1) (by simp) (by simp) rfl rfl (by simp [entB]; exact BdL_pure _ _ (by simp [encWs_pure, encCus_pure, PureL])) (by simp [Bd]))
  · have hk : k = vl.length := by omega
    subst hk
    have q1 : decide ((vl.length : Int) < vl.length) = false := by simp
    obtain ⟨⟨c0, w0, n0, r0, x0, b0, a0⟩, e0⟩ : ∃ x, vl[0]? = some x := ⟨vl[0]'(by omega), List.getElem?_eq_getElem _⟩
    obtain ⟨⟨c1, w1, n1, r1, x1, b1, a1⟩, e1⟩ : ∃ x, vl[15]? = some x := ⟨vl[15]'(by omega), List.getElem?_eq_getElem _⟩
    have hl : styB ⟨vl, cu⟩ = (!(!decide (c0 = 7)) && !decide (n1 < 0) && !decide ((1000 : Int) < n1)) := by
      have ha : (List.range 18).all (fun i => vOk i (vl.getD i v0)) = true := by
        rw [List.all_eq_true]
        intro i hi
        exact hall i (by rw [h1]; exact List.mem_range.1 hi)
      unfold styB lastOk
      simp only
      rw [ha, h1, h2, List.getD_eq_getElem?_getD, e0, List.getD_eq_getElem?_getD, e1]
      by_cases z0 : c0 = 7 <;> by_cases z1 : n1 < 0 <;> by_cases z2 : (1000 : Int) < n1 <;> simp [z0, z1, z2] <;> omega
    cases g3 : (!decide (c0 = 7)) <;> cases g4 : decide (n1 < 0) <;> cases g5 : decide ((1000 : Int) < n1)
    all_goals
      rw [g3, g4, g5] at hl
      repeat' (first | (refine a_len (n := vl.length) rfl hlen fun _ => ?_) | (with_reducible first | apply w_let | apply w_and | refine And.intro True.intro ?_) | ((with_reducible first | apply a_lss | apply a_leq | apply a_gtr | apply a_geq | apply a_eql | apply a_neq); rfl; rfl) | ((with_reducible first | apply a_eqlS | apply a_neqS | apply a_eqlB | apply a_neqB); rfl; rfl) | ((with_reducible apply w_add); rfl; rfl; first | assumption | (unfold inI; omega)) | ((with_reducible apply w_sub); rfl; rfl; first | assumption | (unfold inI; omega)) | ((with_reducible apply a_not); rfl) | ((with_reducible apply w_pick_t); rfl) | ((with_reducible apply w_pick_f); rfl) | ((with_reducible apply a_cond1); rfl; first | rfl | assumption) | ((with_reducible apply a_cond0); rfl; first | rfl | assumption) | ((with_reducible apply a_guard1); rfl; first | rfl | assumption) | ((with_reducible apply a_guard0); rfl; first | rfl | assumption) | ((with_reducible apply w_guard_u); rfl) | ((with_reducible apply a_pick1); rfl; first | rfl | assumption) | ((with_reducible apply a_pick0); rfl; first | rfl | assumption) | ((with_reducible apply a_pickN); rfl) | ((with_reducible apply a_condN); rfl) | ((with_reducible apply a_guardN); rfl) | ((with_reducible apply w_fad); rfl) | ((with_reducible apply a_fadI); rfl) | ((with_reducible apply w_load); rfl; rfl; rfl) | ((with_reducible apply w_loadI); rfl) | ((with_reducible apply w_loadA); rfl; rfl; first | exact Nat.le_refl _ | exact Nat.le_of_ble_eq_true rfl) | ((with_reducible apply a_eqA); rfl; rfl; rfl) | ((with_reducible apply a_loadAI); rfl; first | rfl | simp) | ((with_reducible apply w_new); first | rfl | simp) | ((with_reducible apply a_store); rfl; rfl; rfl; rfl; (first | exact Nat.le_refl _ | simp); (first | rfl | simp); (first | rfl | simp)) | ((with_reducible apply a_lenS); rfl; intro _) | ((with_reducible apply a_len); rfl; (first | rfl | simp); intro _) | ((with_reducible apply a_build); rfl) | ((with_reducible apply a_extr); rfl; rfl) | (refine a_idx (f := encW) rfl rfl rfl e0 ?_) | (refine a_idx (f := encW) rfl rfl rfl e1 ?_) | ((with_reducible apply a_cond); rfl) | ((with_reducible apply a_guard); rfl) | (with_reducible intro _))
    all_goals exact .pure (by simp) (by unfold styE; rw [hl]; rfl)
end Go.Proofs.YthblflmjingcfaaDoor
end

section
namespace Go.Proofs.YthblflmjingcfaaDoor
open Go Go.Aw Go.Nst
set_option maxRecDepth 1000000
def useV (z a : Vv) : Vv := if a.kind = 8 then z else a
set_option maxHeartbeats 4000000 in
theorem con_rSeen (s : Sy) (i : Nat) (z a : Vv) (h0 : s.vals[0]? = some z) (hi : s.vals[i]? = some a) : Con Tryd.prog 45 [.agg (encSy s), int i] (.agg (encW (useV z a))) := by
  refine (V45 _ _).gives (by simp [encSy_pure]) (by simp [encW_pure]) ?_
  unfold W45
  obtain ⟨vl, cu⟩ := s
  obtain ⟨c0, w0, n0, r0, x0, b0, a0⟩ := z
  obtain ⟨c, w, n, r, x, b, al⟩ := a
  simp only at h0 hi
  rw [encSy]
  by_cases h8 : c = 8
  · have g1 : decide (c = 8) = true := by simpa using h8
    repeat' (first | (refine a_store (cs := [.v (.int .u8 c0), .str w0, int n0, .v (.int .u8 r0), .v (.int .u8 x0), .v (.int .u8 b0), .v (.int .u8 a0)]) rfl rfl rfl rfl (Nat.le_refl _) rfl rfl ?_) | (with_reducible first | apply w_let | apply w_and | refine And.intro True.intro ?_) | ((with_reducible first | apply a_lss | apply a_leq | apply a_gtr | apply a_geq | apply a_eql | apply a_neq); rfl; rfl) | ((with_reducible first | apply a_eqlS | apply a_neqS | apply a_eqlB | apply a_neqB); rfl; rfl) | ((with_reducible apply w_add); rfl; rfl; first | assumption | (unfold inI; omega)) | ((with_reducible apply w_sub); rfl; rfl; first | assumption | (unfold inI; omega)) | ((with_reducible apply a_not); rfl) | ((with_reducible apply w_pick_t); rfl) | ((with_reducible apply w_pick_f); rfl) | ((with_reducible apply a_cond1); rfl; first | rfl | assumption) | ((with_reducible apply a_cond0); rfl; first | rfl | assumption) | ((with_reducible apply a_guard1); rfl; first | rfl | assumption) | ((with_reducible apply a_guard0); rfl; first | rfl | assumption) | ((with_reducible apply w_guard_u); rfl) | ((with_reducible apply a_pick1); rfl; first | rfl | assumption) | ((with_reducible apply a_pick0); rfl; first | rfl | assumption) | ((with_reducible apply a_pickN); rfl) | ((with_reducible apply a_condN); rfl) | ((with_reducible apply a_guardN); rfl) | ((with_reducible apply w_fad); rfl) | ((with_reducible apply a_fadI); rfl) | ((with_reducible apply w_load); rfl; rfl; rfl) | ((with_reducible apply w_loadI); rfl) | ((with_reducible apply w_loadA); rfl; rfl; first | exact Nat.le_refl _ | exact Nat.le_of_ble_eq_true rfl) | ((with_reducible apply a_eqA); rfl; rfl; rfl) | ((with_reducible apply a_loadAI); rfl; first | rfl | simp) | ((with_reducible apply w_new); first | rfl | simp) | ((with_reducible apply a_store); rfl; rfl; rfl; rfl; (first | exact Nat.le_refl _ | simp); (first | rfl | simp); (first | rfl | simp)) | ((with_reducible apply a_lenS); rfl; intro _) | ((with_reducible apply a_len); rfl; (first | rfl | simp); intro _) | ((with_reducible apply a_build); rfl) | ((with_reducible apply a_extr); rfl; rfl) | (refine a_idx (f := encW) rfl rfl rfl hi ?_) | (refine a_idx (f := encW) rfl rfl rfl h0 ?_) | (refine a_loadAI rfl (by simp [encW]) ?_) | ((with_reducible apply a_cond); rfl) | ((with_reducible apply a_guard); rfl) | (with_reducible intro _))
    exact .pure (by simp) (by rw [useV, if_pos h8]; rfl)
  · have g1 : decide (c = 8) = false := by simpa using h8
    repeat' (first | (refine a_store (cs := [.v (.int .u8 c), .str w, int n, .v (.int .u8 r), .v (.int .u8 x), .v (.int .u8 b), .v (.int .u8 al)]) rfl rfl rfl rfl (Nat.le_refl _) rfl rfl ?_) | (with_reducible first | apply w_let | apply w_and | refine And.intro True.intro ?_) | ((with_reducible first | apply a_lss | apply a_leq | apply a_gtr | apply a_geq | apply a_eql | apply a_neq); rfl; rfl) | ((with_reducible first | apply a_eqlS | apply a_neqS | apply a_eqlB | apply a_neqB); rfl; rfl) | ((with_reducible apply w_add); rfl; rfl; first | assumption | (unfold inI; omega)) | ((with_reducible apply w_sub); rfl; rfl; first | assumption | (unfold inI; omega)) | ((with_reducible apply a_not); rfl) | ((with_reducible apply w_pick_t); rfl) | ((with_reducible apply w_pick_f); rfl) | ((with_reducible apply a_cond1); rfl; first | rfl | assumption) | ((with_reducible apply a_cond0); rfl; first | rfl | assumption) | ((with_reducible apply a_guard1); rfl; first | rfl | assumption) | ((with_reducible apply a_guard0); rfl; first | rfl | assumption) | ((with_reducible apply w_guard_u); rfl) | ((with_reducible apply a_pick1); rfl; first | rfl | assumption) | ((with_reducible apply a_pick0); rfl; first | rfl | assumption) | ((with_reducible apply a_pickN); rfl) | ((with_reducible apply a_condN); rfl) | ((with_reducible apply a_guardN); rfl) | ((with_reducible apply w_fad); rfl) | ((with_reducible apply a_fadI); rfl) | ((with_reducible apply w_load); rfl; rfl; rfl) | ((with_reducible apply w_loadI); rfl) | ((with_reducible apply w_loadA); rfl; rfl; first | exact Nat.le_refl _ | exact Nat.le_of_ble_eq_true rfl) | ((with_reducible apply a_eqA); rfl; rfl; rfl) | ((with_reducible apply a_loadAI); rfl; first | rfl | simp) | ((with_reducible apply w_new); first | rfl | simp) | ((with_reducible apply a_store); rfl; rfl; rfl; rfl; (first | exact Nat.le_refl _ | simp); (first | rfl | simp); (first | rfl | simp)) | ((with_reducible apply a_lenS); rfl; intro _) | ((with_reducible apply a_len); rfl; (first | rfl | simp); intro _) | ((with_reducible apply a_build); rfl) | ((with_reducible apply a_extr); rfl; rfl) | (refine a_idx (f := encW) rfl rfl rfl hi ?_) | (refine a_idx (f := encW) rfl rfl rfl h0 ?_) | (refine a_loadAI rfl (by simp [encW]) ?_) | ((with_reducible apply a_cond); rfl) | ((with_reducible apply a_guard); rfl) | (with_reducible intro _))
    exact .pure (by simp) (by rw [useV, if_neg h8]; rfl)
set_option maxHeartbeats 4000000 in
theorem con_Used (s : Sy) (ok : OkSy s) (hs : styB s = true) (i : Nat) (hi18 : i < 18) (z a : Vv) (h0 : s.vals[0]? = some z) (hi : s.vals[i]? = some a) : Con Tryd.prog 24 [.agg (encSy s), int i] (.tup [.agg (encW (useV z a)), int 0]) := by
  refine (V24 _ _).gives (by simp [encSy_pure]) (by simp [encW_pure]) ?_
  unfold W24
  have hC := con_syCheck s ok
  rw [styE, if_pos hs] at hC
  obtain ⟨vl, cu⟩ := s
  obtain ⟨c0, w0, n0, r0, x0, b0, a0⟩ := z
  obtain ⟨c, w, n, r, x, b, al⟩ := a
  simp only at h0 hi
  rw [encSy] at hC ⊢
  have g2 : decide ((i : Int) < 0) = false := by simp
  have g3 : decide ((18 : Int) ≤ i) = false := by simp; omega
  by_cases h8 : c = 8
  · have g1 : (!decide (c = 8)) = false := by simp [h8]
    repeat' (first | (refine a_store (cs := [.v (.int .u8 c), .str w, int n, .v (.int .u8 r), .v (.int .u8 x), .v (.int .u8 b), .v (.int .u8 al)]) rfl rfl rfl rfl (Nat.le_refl _) rfl rfl ?_) | (refine a_store (cs := [.v (.int .u8 c0), .str w0, int n0, .v (.int .u8 r0), .v (.int .u8 x0), .v (.int .u8 b0), .v (.int .u8 a0)]) rfl rfl rfl rfl (Nat.le_refl _) rfl rfl ?_) | (with_reducible first | apply w_let | apply w_and | refine And.intro True.intro ?_) | ((with_reducible first | apply a_lss | apply a_leq | apply a_gtr | apply a_geq | apply a_eql | apply a_neq); rfl; rfl) | ((with_reducible first | apply a_eqlS | apply a_neqS | apply a_eqlB | apply a_neqB); rfl; rfl) | ((with_reducible apply w_add); rfl; rfl; first | assumption | (unfold inI; omega)) | ((with_reducible apply w_sub); rfl; rfl; first | assumption | (unfold inI; omega)) | ((with_reducible apply a_not); rfl) | ((with_reducible apply w_pick_t); rfl) | ((with_reducible apply w_pick_f); rfl) | ((with_reducible apply a_cond1); rfl; first | rfl | assumption) | ((with_reducible apply a_cond0); rfl; first | rfl | assumption) | ((with_reducible apply a_guard1); rfl; first | rfl | assumption) | ((with_reducible apply a_guard0); rfl; first | rfl | assumption) | ((with_reducible apply w_guard_u); rfl) | ((with_reducible apply a_pick1); rfl; first | rfl | assumption) | ((with_reducible apply a_pick0); rfl; first | rfl | assumption) | ((with_reducible apply a_pickN); rfl) | ((with_reducible apply a_condN); rfl) | ((with_reducible apply a_guardN); rfl) | ((with_reducible apply w_fad); rfl) | ((with_reducible apply a_fadI); rfl) | ((with_reducible apply w_load); rfl; rfl; rfl) | ((with_reducible apply w_loadI); rfl) | ((with_reducible apply w_loadA); rfl; rfl; first | exact Nat.le_refl _ | exact Nat.le_of_ble_eq_true rfl) | ((with_reducible apply a_eqA); rfl; rfl; rfl) | ((with_reducible apply a_loadAI); rfl; first | rfl | simp) | ((with_reducible apply w_new); first | rfl | simp) | ((with_reducible apply a_store); rfl; rfl; rfl; rfl; (first | exact Nat.le_refl _ | simp); (first | rfl | simp); (first | rfl | simp)) | ((with_reducible apply a_lenS); rfl; intro _) | ((with_reducible apply a_len); rfl; (first | rfl | simp); intro _) | ((with_reducible apply a_build); rfl) | ((with_reducible apply a_extr); rfl; rfl) | (refine iCall_con (by kernel_rfl) (hC) ?_) | (refine a_idx (f := encW) rfl rfl rfl hi ?_) | (refine a_idx (f := encW) rfl rfl rfl h0 ?_) | (refine a_loadAI rfl (by simp [encW]) ?_) | ((with_reducible apply a_cond); rfl) | ((with_reducible apply a_guard); rfl) | (with_reducible intro _))
    exact .pure (by simp) (by rw [useV, if_pos h8]; rfl)
  · have g1 : (!decide (c = 8)) = true := by simp [h8]
    repeat' (first | (refine a_store (cs := [.v (.int .u8 c), .str w, int n, .v (.int .u8 r), .v (.int .u8 x), .v (.int .u8 b), .v (.int .u8 al)]) rfl rfl rfl rfl (Nat.le_refl _) rfl rfl ?_) | (with_reducible first | apply w_let | apply w_and | refine And.intro True.intro ?_) | ((with_reducible first | apply a_lss | apply a_leq | apply a_gtr | apply a_geq | apply a_eql | apply a_neq); rfl; rfl) | ((with_reducible first | apply a_eqlS | apply a_neqS | apply a_eqlB | apply a_neqB); rfl; rfl) | ((with_reducible apply w_add); rfl; rfl; first | assumption | (unfold inI; omega)) | ((with_reducible apply w_sub); rfl; rfl; first | assumption | (unfold inI; omega)) | ((with_reducible apply a_not); rfl) | ((with_reducible apply w_pick_t); rfl) | ((with_reducible apply w_pick_f); rfl) | ((with_reducible apply a_cond1); rfl; first | rfl | assumption) | ((with_reducible apply a_cond0); rfl; first | rfl | assumption) | ((with_reducible apply a_guard1); rfl; first | rfl | assumption) | ((with_reducible apply a_guard0); rfl; first | rfl | assumption) | ((with_reducible apply w_guard_u); rfl) | ((with_reducible apply a_pick1); rfl; first | rfl | assumption) | ((with_reducible apply a_pick0); rfl; first | rfl | assumption) | ((with_reducible apply a_pickN); rfl) | ((with_reducible apply a_condN); rfl) | ((with_reducible apply a_guardN); rfl) | ((with_reducible apply w_fad); rfl) | ((with_reducible apply a_fadI); rfl) | ((with_reducible apply w_load); rfl; rfl; rfl) | ((with_reducible apply w_loadI); rfl) | ((with_reducible apply w_loadA); rfl; rfl; first | exact Nat.le_refl _ | exact Nat.le_of_ble_eq_true rfl) | ((with_reducible apply a_eqA); rfl; rfl; rfl) | ((with_reducible apply a_loadAI); rfl; first | rfl | simp) | ((with_reducible apply w_new); first | rfl | simp) | ((with_reducible apply a_store); rfl; rfl; rfl; rfl; (first | exact Nat.le_refl _ | simp); (first | rfl | simp); (first | rfl | simp)) | ((with_reducible apply a_lenS); rfl; intro _) | ((with_reducible apply a_len); rfl; (first | rfl | simp); intro _) | ((with_reducible apply a_build); rfl) | ((with_reducible apply a_extr); rfl; rfl) | (refine iCall_con (by kernel_rfl) (hC) ?_) | (refine a_idx (f := encW) rfl rfl rfl hi ?_) | (refine a_idx (f := encW) rfl rfl rfl h0 ?_) | (refine a_loadAI rfl (by simp [encW]) ?_) | ((with_reducible apply a_cond); rfl) | ((with_reducible apply a_guard); rfl) | (with_reducible intro _))
    exact .pure (by simp) (by rw [useV, if_neg h8]; rfl)
end Go.Proofs.YthblflmjingcfaaDoor
end

section
namespace Go.Proofs.YthblflmjingcfaaDoor
open Go Go.Aw Go.Nst
set_option maxRecDepth 1000000
def u8c (n : Int) : AV := .v (.int .u8 n)
def colI (s v : Sy) (was : Bool) (i : Nat) : List AV :=
  let o := useV (s.vals.getD 0 v0) (s.vals.getD i v0)
  let x := if was then useV (v.vals.getD 0 v0) (v.vals.getD i v0) else o
  [u8c x.cr, u8c x.cg, u8c x.cb, u8c o.ca]
def zero4 : List AV := [u8c 0, u8c 0, u8c 0, u8c 0]
def colK (s v : Sy) (was : Bool) (k : Nat) : List AV := (if 0 < k then colI s v was 0 else zero4) ++ (if 1 < k then colI s v was 1 else zero4) ++ (if 2 < k then colI s v was 2 else zero4) ++ (if 3 < k then colI s v was 3 else zero4)
theorem a_fld {g : Bool} {off n : Nat} {x : AV} {cs ds : List AV} {K : AV → Prop} (e : x = .agg cs) (hn : n ≤ (cs.drop off).length) (ht : (cs.drop off).take n = ds) (hg : g = true) (q : K (.agg ds)) : iFld g off n x K := by
  subst e; subst ht; subst hg
  rw [iFld_a]
  exact ⟨hn, q⟩
theorem a_idxQ {len sz id off k : Nat} {x i : AV} {K : AV → Prop} (e : x = .op id off) (ei : i = int (k : Int)) (hk : k < len) (q : K (.op id (off + k * sz))) : iIdxQ len sz x i K := by
  subst e; subst ei
  rw [iIdxQ_o]
  exact ⟨⟨by omega, by omega⟩, q⟩
theorem colK_pure (s v : Sy) (was : Bool) (k : Nat) : PureL (colK s v was k) := by
  unfold colK colI zero4
  dsimp only
  repeat' split
  all_goals simp [u8c]

def shown (s : Sy) (i : Nat) : Vv := useV (s.vals.getD 0 v0) (s.vals.getD i v0)
theorem rSeen_at (s : Sy) (hs : s.vals.length = 18) (i : Nat) (hi : i < 18) : Con Tryd.prog 45 [.agg (encSy s), int i] (.agg (encW (shown s i))) := by
  have h0 : s.vals[0]? = some (s.vals.getD 0 v0) := by rw [List.getD_eq_getElem?_getD, List.getElem?_eq_getElem (by omega)]; rfl
  have h1 : s.vals[i]? = some (s.vals.getD i v0) := by rw [List.getD_eq_getElem?_getD, List.getElem?_eq_getElem (by omega)]; rfl
  exact con_rSeen s i _ _ h0 h1
theorem colI_eq (s v : Sy) (was : Bool) (i : Nat) : colI s v was i = [u8c (if was then shown v i else shown s i).cr, u8c (if was then shown v i else shown s i).cg, u8c (if was then shown v i else shown s i).cb, u8c (shown s i).ca] := rfl
set_option maxHeartbeats 8000000 in
theorem con_rMixed (s v : Sy) (hs : s.vals.length = 18) (hv : v.vals.length = 18) (was : Bool) : Con Tryd.prog 26 [.agg (encSy s), .agg (encSy v), bool was] (.agg (colK s v was 4)) := by
  refine (V26 _ _ _).gives (by simp [encSy_pure]) (by simp [colK_pure]) ?_
  unfold W26
  have p1 := encSy_pure s
  have p2 := encSy_pure v
  have hS := rSeen_at s hs
  have hV := rSeen_at v hv
  rw [encSy] at hS p1 ⊢
  rw [encSy] at hV p2 ⊢
  repeat' (first | (with_reducible first | apply w_let | apply w_and | refine And.intro True.intro ?_) | ((with_reducible first | apply a_lss | apply a_leq | apply a_gtr | apply a_geq | apply a_eql | apply a_neq); rfl; rfl) | ((with_reducible first | apply a_eqlS | apply a_neqS | apply a_eqlB | apply a_neqB); rfl; rfl) | ((with_reducible apply w_add); rfl; rfl; first | assumption | (unfold inI; omega)) | ((with_reducible apply w_sub); rfl; rfl; first | assumption | (unfold inI; omega)) | ((with_reducible apply a_not); rfl) | ((with_reducible apply w_pick_t); rfl) | ((with_reducible apply w_pick_f); rfl) | ((with_reducible apply a_cond1); rfl; first | rfl | assumption) | ((with_reducible apply a_cond0); rfl; first | rfl | assumption) | ((with_reducible apply a_guard1); rfl; first | rfl | assumption) | ((with_reducible apply a_guard0); rfl; first | rfl | assumption) | ((with_reducible apply w_guard_u); rfl) | ((with_reducible apply a_pick1); rfl; first | rfl | assumption) | ((with_reducible apply a_pick0); rfl; first | rfl | assumption) | ((with_reducible apply a_pickN); rfl) | ((with_reducible apply a_condN); rfl) | ((with_reducible apply a_guardN); rfl) | ((with_reducible apply w_fad); rfl) | ((with_reducible apply a_fadI); rfl) | ((with_reducible apply w_load); rfl; rfl; rfl) | ((with_reducible apply w_loadI); rfl) | ((with_reducible apply w_loadA); rfl; rfl; first | exact Nat.le_refl _ | exact Nat.le_of_ble_eq_true rfl) | ((with_reducible apply a_eqA); rfl; rfl; rfl) | ((with_reducible apply a_loadAI); rfl; first | rfl | simp) | ((with_reducible apply w_new); first | rfl | simp) | ((with_reducible apply a_store); rfl; rfl; rfl; rfl; (first | exact Nat.le_refl _ | simp); (first | rfl | simp); (first | rfl | simp)) | ((with_reducible apply a_lenS); rfl; intro _) | ((with_reducible apply a_len); rfl; (first | rfl | simp); intro _) | ((with_reducible apply a_build); rfl) | ((with_reducible apply a_extr); rfl; rfl) | ((with_reducible apply a_cond); rfl) | ((with_reducible apply a_guard); rfl) | (with_reducible intro _))
  refine iLoop_of (α := Nat) (fun k => k ≤ 4) (fun k => [int k]) (fun k => [.blk ⟨26, encSy s, true⟩, .blk ⟨26, encSy v, true⟩, .blk ⟨36, zero4 ++ zero4 ++ zero4 ++ zero4, true⟩, .blk ⟨36, colK s v was k, true⟩]) (fun k => 4 - k) 0 (by simp) (Wk.refl _ _ _ (by simp)) ?_
  rintro k hk
  have hk5 : k = 0 ∨ k = 1 ∨ k = 2 ∨ k = 3 ∨ k = 4 := by omega
  rcases hk5 with rfl | rfl | rfl | rfl | rfl
  · have c1 := hS 0 (by decide)
    have c2 := hV 0 (by decide)
    cases was
    all_goals
      repeat' (first | (refine a_idxQ rfl rfl (by decide) ?_) | (refine a_store (cs := [u8c _, u8c _, u8c _, u8c _]) rfl rfl rfl rfl (Nat.le_of_ble_eq_true rfl) rfl rfl ?_) | (refine a_store (cs := [u8c _]) rfl rfl rfl rfl (Nat.le_of_ble_eq_true rfl) rfl rfl ?_) | (refine a_fld (ds := [u8c _, u8c _, u8c _, u8c _]) rfl (Nat.le_of_ble_eq_true rfl) rfl rfl ?_) | (with_reducible first | apply w_let | apply w_and | refine And.intro True.intro ?_) | ((with_reducible first | apply a_lss | apply a_leq | apply a_gtr | apply a_geq | apply a_eql | apply a_neq); rfl; rfl) | ((with_reducible first | apply a_eqlS | apply a_neqS | apply a_eqlB | apply a_neqB); rfl; rfl) | ((with_reducible apply w_add); rfl; rfl; first | assumption | (unfold inI; omega)) | ((with_reducible apply w_sub); rfl; rfl; first | assumption | (unfold inI; omega)) | ((with_reducible apply a_not); rfl) | ((with_reducible apply w_pick_t); rfl) | ((with_reducible apply w_pick_f); rfl) | ((with_reducible apply a_cond1); rfl; first | rfl | assumption) | ((with_reducible apply a_cond0); rfl; first | rfl | assumption) | ((with_reducible apply a_guard1); rfl; first | rfl | assumption) | ((with_reducible apply a_guard0); rfl; first | rfl | assumption) | ((with_reducible apply w_guard_u); rfl) | ((with_reducible apply a_pick1); rfl; first | rfl | assumption) | ((with_reducible apply a_pick0); rfl; first | rfl | assumption) | ((with_reducible apply a_pickN); rfl) | ((with_reducible apply a_condN); rfl) | ((with_reducible apply a_guardN); rfl) | ((with_reducible apply w_fad); rfl) | ((with_reducible apply a_fadI); rfl) | ((with_reducible apply w_load); rfl; rfl; rfl) | ((with_reducible apply w_loadI); rfl) | ((with_reducible apply w_loadA); rfl; rfl; first | exact Nat.le_refl _ | exact Nat.le_of_ble_eq_true rfl) | ((with_reducible apply a_eqA); rfl; rfl; rfl) | ((with_reducible apply a_loadAI); rfl; first | rfl | simp) | ((with_reducible apply w_new); first | rfl | simp) | ((with_reducible apply a_store); rfl; rfl; rfl; rfl; (first | exact Nat.le_refl _ | simp); (first | rfl | simp); (first | rfl | simp)) | ((with_reducible apply a_lenS); rfl; intro _) | ((with_reducible apply a_len); rfl; (first | rfl | simp); intro _) | ((with_reducible apply a_build); rfl) | ((with_reducible apply a_extr); rfl; rfl) | (refine iCall_con (by kernel_rfl) (c1) ?_) | (refine iCall_con (by kernel_rfl) (c2) ?_) | ((with_reducible apply a_cond); rfl) | ((with_reducible apply a_guard); rfl) | (with_reducible intro _))
      refine ⟨1, by decide, ?_, by decide⟩
      exact Wk.refl _ _ _ (by simp)
  · have c1 := hS 1 (by decide)
    have c2 := hV 1 (by decide)
    cases was
    all_goals
      repeat' (first | (refine a_idxQ rfl rfl (by decide) ?_) | (refine a_store (cs := [u8c _, u8c _, u8c _, u8c _]) rfl rfl rfl rfl (Nat.le_of_ble_eq_true rfl) rfl rfl ?_) | (refine a_store (cs := [u8c _]) rfl rfl rfl rfl (Nat.le_of_ble_eq_true rfl) rfl rfl ?_) | (refine a_fld (ds := [u8c _, u8c _, u8c _, u8c _]) rfl (Nat.le_of_ble_eq_true rfl) rfl rfl ?_) | (with_reducible first | apply w_let | apply w_and | refine And.intro True.intro ?_) | ((with_reducible first | apply a_lss | apply a_leq | apply a_gtr | apply a_geq | apply a_eql | apply a_neq); rfl; rfl) | ((with_reducible first | apply a_eqlS | apply a_neqS | apply a_eqlB | apply a_neqB); rfl; rfl) | ((with_reducible apply w_add); rfl; rfl; first | assumption | (unfold inI; omega)) | ((with_reducible apply w_sub); rfl; rfl; first | assumption | (unfold inI; omega)) | ((with_reducible apply a_not); rfl) | ((with_reducible apply w_pick_t); rfl) | ((with_reducible apply w_pick_f); rfl) | ((with_reducible apply a_cond1); rfl; first | rfl | assumption) | ((with_reducible apply a_cond0); rfl; first | rfl | assumption) | ((with_reducible apply a_guard1); rfl; first | rfl | assumption) | ((with_reducible apply a_guard0); rfl; first | rfl | assumption) | ((with_reducible apply w_guard_u); rfl) | ((with_reducible apply a_pick1); rfl; first | rfl | assumption) | ((with_reducible apply a_pick0); rfl; first | rfl | assumption) | ((with_reducible apply a_pickN); rfl) | ((with_reducible apply a_condN); rfl) | ((with_reducible apply a_guardN); rfl) | ((with_reducible apply w_fad); rfl) | ((with_reducible apply a_fadI); rfl) | ((with_reducible apply w_load); rfl; rfl; rfl) | ((with_reducible apply w_loadI); rfl) | ((with_reducible apply w_loadA); rfl; rfl; first | exact Nat.le_refl _ | exact Nat.le_of_ble_eq_true rfl) | ((with_reducible apply a_eqA); rfl; rfl; rfl) | ((with_reducible apply a_loadAI); rfl; first | rfl | simp) | ((with_reducible apply w_new); first | rfl | simp) | ((with_reducible apply a_store); rfl; rfl; rfl; rfl; (first | exact Nat.le_refl _ | simp); (first | rfl | simp); (first | rfl | simp)) | ((with_reducible apply a_lenS); rfl; intro _) | ((with_reducible apply a_len); rfl; (first | rfl | simp); intro _) | ((with_reducible apply a_build); rfl) | ((with_reducible apply a_extr); rfl; rfl) | (refine iCall_con (by kernel_rfl) (c1) ?_) | (refine iCall_con (by kernel_rfl) (c2) ?_) | ((with_reducible apply a_cond); rfl) | ((with_reducible apply a_guard); rfl) | (with_reducible intro _))
      refine ⟨2, by decide, ?_, by decide⟩
      exact Wk.refl _ _ _ (by simp)
  · have c1 := hS 2 (by decide)
    have c2 := hV 2 (by decide)
    cases was
    all_goals
      repeat' (first | (refine a_idxQ rfl rfl (by decide) ?_) | (refine a_store (cs := [u8c _, u8c _, u8c _, u8c _]) rfl rfl rfl rfl (Nat.le_of_ble_eq_true rfl) rfl rfl ?_) | (refine a_store (cs := [u8c _]) rfl rfl rfl rfl (Nat.le_of_ble_eq_true rfl) rfl rfl ?_) | (refine a_fld (ds := [u8c _, u8c _, u8c _, u8c _]) rfl (Nat.le_of_ble_eq_true rfl) rfl rfl ?_) | (with_reducible first | apply w_let | apply w_and | refine And.intro True.intro ?_) | ((with_reducible first | apply a_lss | apply a_leq | apply a_gtr | apply a_geq | apply a_eql | apply a_neq); rfl; rfl) | ((with_reducible first | apply a_eqlS | apply a_neqS | apply a_eqlB | apply a_neqB); rfl; rfl) | ((with_reducible apply w_add); rfl; rfl; first | assumption | (unfold inI; omega)) | ((with_reducible apply w_sub); rfl; rfl; first | assumption | (unfold inI; omega)) | ((with_reducible apply a_not); rfl) | ((with_reducible apply w_pick_t); rfl) | ((with_reducible apply w_pick_f); rfl) | ((with_reducible apply a_cond1); rfl; first | rfl | assumption) | ((with_reducible apply a_cond0); rfl; first | rfl | assumption) | ((with_reducible apply a_guard1); rfl; first | rfl | assumption) | ((with_reducible apply a_guard0); rfl; first | rfl | assumption) | ((with_reducible apply w_guard_u); rfl) | ((with_reducible apply a_pick1); rfl; first | rfl | assumption) | ((with_reducible apply a_pick0); rfl; first | rfl | assumption) | ((with_reducible apply a_pickN); rfl) | ((with_reducible apply a_condN); rfl) | ((with_reducible apply a_guardN); rfl) | ((with_reducible apply w_fad); rfl) | ((with_reducible apply a_fadI); rfl) | ((with_reducible apply w_load); rfl; rfl; rfl) | ((with_reducible apply w_loadI); rfl) | ((with_reducible apply w_loadA); rfl; rfl; first | exact Nat.le_refl _ | exact Nat.le_of_ble_eq_true rfl) | ((with_reducible apply a_eqA); rfl; rfl; rfl) | ((with_reducible apply a_loadAI); rfl; first | rfl | simp) | ((with_reducible apply w_new); first | rfl | simp) | ((with_reducible apply a_store); rfl; rfl; rfl; rfl; (first | exact Nat.le_refl _ | simp); (first | rfl | simp); (first | rfl | simp)) | ((with_reducible apply a_lenS); rfl; intro _) | ((with_reducible apply a_len); rfl; (first | rfl | simp); intro _) | ((with_reducible apply a_build); rfl) | ((with_reducible apply a_extr); rfl; rfl) | (refine iCall_con (by kernel_rfl) (c1) ?_) | (refine iCall_con (by kernel_rfl) (c2) ?_) | ((with_reducible apply a_cond); rfl) | ((with_reducible apply a_guard); rfl) | (with_reducible intro _))
      refine ⟨3, by decide, ?_, by decide⟩
      exact Wk.refl _ _ _ (by simp)
  · have c1 := hS 3 (by decide)
    have c2 := hV 3 (by decide)
    cases was
    all_goals
      repeat' (first | (refine a_idxQ rfl rfl (by decide) ?_) | (refine a_store (cs := [u8c _, u8c _, u8c _, u8c _]) rfl rfl rfl rfl (Nat.le_of_ble_eq_true rfl) rfl rfl ?_) | (refine a_store (cs := [u8c _]) rfl rfl rfl rfl (Nat.le_of_ble_eq_true rfl) rfl rfl ?_) | (refine a_fld (ds := [u8c _, u8c _, u8c _, u8c _]) rfl (Nat.le_of_ble_eq_true rfl) rfl rfl ?_) | (with_reducible first | apply w_let | apply w_and | refine And.intro True.intro ?_) | ((with_reducible first | apply a_lss | apply a_leq | apply a_gtr | apply a_geq | apply a_eql | apply a_neq); rfl; rfl) | ((with_reducible first | apply a_eqlS | apply a_neqS | apply a_eqlB | apply a_neqB); rfl; rfl) | ((with_reducible apply w_add); rfl; rfl; first | assumption | (unfold inI; omega)) | ((with_reducible apply w_sub); rfl; rfl; first | assumption | (unfold inI; omega)) | ((with_reducible apply a_not); rfl) | ((with_reducible apply w_pick_t); rfl) | ((with_reducible apply w_pick_f); rfl) | ((with_reducible apply a_cond1); rfl; first | rfl | assumption) | ((with_reducible apply a_cond0); rfl; first | rfl | assumption) | ((with_reducible apply a_guard1); rfl; first | rfl | assumption) | ((with_reducible apply a_guard0); rfl; first | rfl | assumption) | ((with_reducible apply w_guard_u); rfl) | ((with_reducible apply a_pick1); rfl; first | rfl | assumption) | ((with_reducible apply a_pick0); rfl; first | rfl | assumption) | ((with_reducible apply a_pickN); rfl) | ((with_reducible apply a_condN); rfl) | ((with_reducible apply a_guardN); rfl) | ((with_reducible apply w_fad); rfl) | ((with_reducible apply a_fadI); rfl) | ((with_reducible apply w_load); rfl; rfl; rfl) | ((with_reducible apply w_loadI); rfl) | ((with_reducible apply w_loadA); rfl; rfl; first | exact Nat.le_refl _ | exact Nat.le_of_ble_eq_true rfl) | ((with_reducible apply a_eqA); rfl; rfl; rfl) | ((with_reducible apply a_loadAI); rfl; first | rfl | simp) | ((with_reducible apply w_new); first | rfl | simp) | ((with_reducible apply a_store); rfl; rfl; rfl; rfl; (first | exact Nat.le_refl _ | simp); (first | rfl | simp); (first | rfl | simp)) | ((with_reducible apply a_lenS); rfl; intro _) | ((with_reducible apply a_len); rfl; (first | rfl | simp); intro _) | ((with_reducible apply a_build); rfl) | ((with_reducible apply a_extr); rfl; rfl) | (refine iCall_con (by kernel_rfl) (c1) ?_) | (refine iCall_con (by kernel_rfl) (c2) ?_) | ((with_reducible apply a_cond); rfl) | ((with_reducible apply a_guard); rfl) | (with_reducible intro _))
      refine ⟨4, by decide, ?_, by decide⟩
      exact Wk.refl _ _ _ (by simp)
  · repeat' (first | (refine a_store (cs := colK s v was 4) rfl rfl rfl rfl (Nat.le_of_ble_eq_true rfl) rfl rfl ?_) | (with_reducible first | apply w_let | apply w_and | refine And.intro True.intro ?_) | ((with_reducible first | apply a_lss | apply a_leq | apply a_gtr | apply a_geq | apply a_eql | apply a_neq); rfl; rfl) | ((with_reducible first | apply a_eqlS | apply a_neqS | apply a_eqlB | apply a_neqB); rfl; rfl) | ((with_reducible apply w_add); rfl; rfl; first | assumption | (unfold inI; omega)) | ((with_reducible apply w_sub); rfl; rfl; first | assumption | (unfold inI; omega)) | ((with_reducible apply a_not); rfl) | ((with_reducible apply w_pick_t); rfl) | ((with_reducible apply w_pick_f); rfl) | ((with_reducible apply a_cond1); rfl; first | rfl | assumption) | ((with_reducible apply a_cond0); rfl; first | rfl | assumption) | ((with_reducible apply a_guard1); rfl; first | rfl | assumption) | ((with_reducible apply a_guard0); rfl; first | rfl | assumption) | ((with_reducible apply w_guard_u); rfl) | ((with_reducible apply a_pick1); rfl; first | rfl | assumption) | ((with_reducible apply a_pick0); rfl; first | rfl | assumption) | ((with_reducible apply a_pickN); rfl) | ((with_reducible apply a_condN); rfl) | ((with_reducible apply a_guardN); rfl) | ((with_reducible apply w_fad); rfl) | ((with_reducible apply a_fadI); rfl) | ((with_reducible apply w_load); rfl; rfl; rfl) | ((with_reducible apply w_loadI); rfl) | ((with_reducible apply w_loadA); rfl; rfl; first | exact Nat.le_refl _ | exact Nat.le_of_ble_eq_true rfl) | ((with_reducible apply a_eqA); rfl; rfl; rfl) | ((with_reducible apply a_loadAI); rfl; first | rfl | simp) | ((with_reducible apply w_new); first | rfl | simp) | ((with_reducible apply a_store); rfl; rfl; rfl; rfl; (first | exact Nat.le_refl _ | simp); (first | rfl | simp); (first | rfl | simp)) | ((with_reducible apply a_lenS); rfl; intro _) | ((with_reducible apply a_len); rfl; (first | rfl | simp); intro _) | ((with_reducible apply a_build); rfl) | ((with_reducible apply a_extr); rfl; rfl) | ((with_reducible apply a_cond); rfl) | ((with_reducible apply a_guard); rfl) | (with_reducible intro _))
    exact .pure (by simp; exact colK_pure s v was 4) rfl
end Go.Proofs.YthblflmjingcfaaDoor
end

section
namespace Go.Proofs.YthblflmjingcfaaDoor
open Go Go.Aw Go.Nst
set_option maxRecDepth 1000000
def zero16 : List AV := zero4 ++ zero4 ++ zero4 ++ zero4
def colV (s v : Sy) (was : Bool) : AV := if styB s = true ∧ styB v = true then .tup [.agg (colK s v was 4), int 0] else .tup [.agg zero16, int 8]
theorem colV_pure (s v : Sy) (was : Bool) : Aw.Pure (colV s v was) := by
  unfold colV
  split
  · simp [colK_pure]
  · simp [zero16, zero4, u8c]
theorem styB_len {s : Sy} (h : styB s = true) : s.vals.length = 18 := by
  unfold styB at h
  simp only [Bool.and_eq_true, decide_eq_true_eq] at h
  exact h.1.1.1
set_option maxHeartbeats 8000000 in
theorem con_rColors (s v : Sy) (oks : OkSy s) (okv : OkSy v) (was : Bool) : Con Tryd.prog 10 [.agg (encSy s), .agg (encSy v), bool was] (colV s v was) := by
  refine (V10 _ _ _).gives (by simp [encSy_pure]) (colV_pure s v was) ?_
  unfold W10
  have hS := con_rsyCheck s oks
  have hV := con_rsyCheck v okv
  rw [styE] at hS hV
  unfold colV
  cases h1 : styB s with
  | false =>
    rw [h1, if_neg (by simp)] at hS
    rw [encSy] at hS ⊢
    repeat' (first | (refine a_store (cs := zero16) rfl rfl rfl rfl (Nat.le_of_ble_eq_true rfl) rfl rfl ?_) | (with_reducible first | apply w_let | apply w_and | refine And.intro True.intro ?_) | ((with_reducible first | apply a_lss | apply a_leq | apply a_gtr | apply a_geq | apply a_eql | apply a_neq); rfl; rfl) | ((with_reducible first | apply a_eqlS | apply a_neqS | apply a_eqlB | apply a_neqB); rfl; rfl) | ((with_reducible apply w_add); rfl; rfl; first | assumption | (unfold inI; omega)) | ((with_reducible apply w_sub); rfl; rfl; first | assumption | (unfold inI; omega)) | ((with_reducible apply a_not); rfl) | ((with_reducible apply w_pick_t); rfl) | ((with_reducible apply w_pick_f); rfl) | ((with_reducible apply a_cond1); rfl; first | rfl | assumption) | ((with_reducible apply a_cond0); rfl; first | rfl | assumption) | ((with_reducible apply a_guard1); rfl; first | rfl | assumption) | ((with_reducible apply a_guard0); rfl; first | rfl | assumption) | ((with_reducible apply w_guard_u); rfl) | ((with_reducible apply a_pick1); rfl; first | rfl | assumption) | ((with_reducible apply a_pick0); rfl; first | rfl | assumption) | ((with_reducible apply a_pickN); rfl) | ((with_reducible apply a_condN); rfl) | ((with_reducible apply a_guardN); rfl) | ((with_reducible apply w_fad); rfl) | ((with_reducible apply a_fadI); rfl) | ((with_reducible apply w_load); rfl; rfl; rfl) | ((with_reducible apply w_loadI); rfl) | ((with_reducible apply w_loadA); rfl; rfl; first | exact Nat.le_refl _ | exact Nat.le_of_ble_eq_true rfl) | ((with_reducible apply a_eqA); rfl; rfl; rfl) | ((with_reducible apply a_loadAI); rfl; first | rfl | simp) | ((with_reducible apply w_new); first | rfl | simp) | ((with_reducible apply a_store); rfl; rfl; rfl; rfl; (first | exact Nat.le_refl _ | simp); (first | rfl | simp); (first | rfl | simp)) | ((with_reducible apply a_lenS); rfl; intro _) | ((with_reducible apply a_len); rfl; (first | rfl | simp); intro _) | ((with_reducible apply a_build); rfl) | ((with_reducible apply a_extr); rfl; rfl) | (refine iCall_con (by kernel_rfl) (hS) ?_) | ((with_reducible apply a_cond); rfl) | ((with_reducible apply a_guard); rfl) | (with_reducible intro _))
    exact .pure (by simp [zero16, zero4, u8c]) rfl
  | true =>
  rw [h1, if_pos rfl] at hS
  cases h2 : styB v with
  | false =>
    rw [h2, if_neg (by simp)] at hV
    rw [encSy] at hS hV ⊢
    rw [encSy]
    repeat' (first | (refine a_store (cs := zero16) rfl rfl rfl rfl (Nat.le_of_ble_eq_true rfl) rfl rfl ?_) | (with_reducible first | apply w_let | apply w_and | refine And.intro True.intro ?_) | ((with_reducible first | apply a_lss | apply a_leq | apply a_gtr | apply a_geq | apply a_eql | apply a_neq); rfl; rfl) | ((with_reducible first | apply a_eqlS | apply a_neqS | apply a_eqlB | apply a_neqB); rfl; rfl) | ((with_reducible apply w_add); rfl; rfl; first | assumption | (unfold inI; omega)) | ((with_reducible apply w_sub); rfl; rfl; first | assumption | (unfold inI; omega)) | ((with_reducible apply a_not); rfl) | ((with_reducible apply w_pick_t); rfl) | ((with_reducible apply w_pick_f); rfl) | ((with_reducible apply a_cond1); rfl; first | rfl | assumption) | ((with_reducible apply a_cond0); rfl; first | rfl | assumption) | ((with_reducible apply a_guard1); rfl; first | rfl | assumption) | ((with_reducible apply a_guard0); rfl; first | rfl | assumption) | ((with_reducible apply w_guard_u); rfl) | ((with_reducible apply a_pick1); rfl; first | rfl | assumption) | ((with_reducible apply a_pick0); rfl; first | rfl | assumption) | ((with_reducible apply a_pickN); rfl) | ((with_reducible apply a_condN); rfl) | ((with_reducible apply a_guardN); rfl) | ((with_reducible apply w_fad); rfl) | ((with_reducible apply a_fadI); rfl) | ((with_reducible apply w_load); rfl; rfl; rfl) | ((with_reducible apply w_loadI); rfl) | ((with_reducible apply w_loadA); rfl; rfl; first | exact Nat.le_refl _ | exact Nat.le_of_ble_eq_true rfl) | ((with_reducible apply a_eqA); rfl; rfl; rfl) | ((with_reducible apply a_loadAI); rfl; first | rfl | simp) | ((with_reducible apply w_new); first | rfl | simp) | ((with_reducible apply a_store); rfl; rfl; rfl; rfl; (first | exact Nat.le_refl _ | simp); (first | rfl | simp); (first | rfl | simp)) | ((with_reducible apply a_lenS); rfl; intro _) | ((with_reducible apply a_len); rfl; (first | rfl | simp); intro _) | ((with_reducible apply a_build); rfl) | ((with_reducible apply a_extr); rfl; rfl) | (refine iCall_con (by kernel_rfl) (hS) ?_) | (refine iCall_con (by kernel_rfl) (hV) ?_) | ((with_reducible apply a_cond); rfl) | ((with_reducible apply a_guard); rfl) | (with_reducible intro _))
    exact .pure (by simp [zero16, zero4, u8c]) rfl
  | true =>
  rw [h2, if_pos rfl] at hV
  rw [if_pos ⟨rfl, rfl⟩]
  have hM := con_rMixed s v (styB_len h1) (styB_len h2) was
  have e1 : encSy s = [.sl 7 (encWs s.vals), .sl 2 (encCus s.customs)] := rfl
  have e2 : encSy v = [.sl 7 (encWs v.vals), .sl 2 (encCus v.customs)] := rfl
  rw [e1] at hS hM ⊢
  rw [e2] at hV hM ⊢
  repeat' (first | (refine a_store (cs := colK s v was 4) rfl rfl rfl rfl (Nat.le_of_ble_eq_true rfl) rfl rfl ?_) | (with_reducible first | apply w_let | apply w_and | refine And.intro True.intro ?_) | ((with_reducible first | apply a_lss | apply a_leq | apply a_gtr | apply a_geq | apply a_eql | apply a_neq); rfl; rfl) | ((with_reducible first | apply a_eqlS | apply a_neqS | apply a_eqlB | apply a_neqB); rfl; rfl) | ((with_reducible apply w_add); rfl; rfl; first | assumption | (unfold inI; omega)) | ((with_reducible apply w_sub); rfl; rfl; first | assumption | (unfold inI; omega)) | ((with_reducible apply a_not); rfl) | ((with_reducible apply w_pick_t); rfl) | ((with_reducible apply w_pick_f); rfl) | ((with_reducible apply a_cond1); rfl; first | rfl | assumption) | ((with_reducible apply a_cond0); rfl; first | rfl | assumption) | ((with_reducible apply a_guard1); rfl; first | rfl | assumption) | ((with_reducible apply a_guard0); rfl; first | rfl | assumption) | ((with_reducible apply w_guard_u); rfl) | ((with_reducible apply a_pick1); rfl; first | rfl | assumption) | ((with_reducible apply a_pick0); rfl; first | rfl | assumption) | ((with_reducible apply a_pickN); rfl) | ((with_reducible apply a_condN); rfl) | ((with_reducible apply a_guardN); rfl) | ((with_reducible apply w_fad); rfl) | ((with_reducible apply a_fadI); rfl) | ((with_reducible apply w_load); rfl; rfl; rfl) | ((with_reducible apply w_loadI); rfl) | ((with_reducible apply w_loadA); rfl; rfl; first | exact Nat.le_refl _ | exact Nat.le_of_ble_eq_true rfl) | ((with_reducible apply a_eqA); rfl; rfl; rfl) | ((with_reducible apply a_loadAI); rfl; first | rfl | simp) | ((with_reducible apply w_new); first | rfl | simp) | ((with_reducible apply a_store); rfl; rfl; rfl; rfl; (first | exact Nat.le_refl _ | simp); (first | rfl | simp); (first | rfl | simp)) | ((with_reducible apply a_lenS); rfl; intro _) | ((with_reducible apply a_len); rfl; (first | rfl | simp); intro _) | ((with_reducible apply a_build); rfl) | ((with_reducible apply a_extr); rfl; rfl) | (refine iCall_con (by kernel_rfl) (hS) ?_) | (refine iCall_con (by kernel_rfl) (hV) ?_) | (refine iCall_con (by kernel_rfl) (hM) ?_) | ((with_reducible apply a_cond); rfl) | ((with_reducible apply a_guard); rfl) | (with_reducible intro _))
  exact .pure (by simp; exact colK_pure s v was 4) rfl
end Go.Proofs.YthblflmjingcfaaDoor
end

section
namespace Go.Proofs.YthblflmjingcfaaDoor
open Go Go.Aw Go.Nst
set_option maxRecDepth 1000000
theorem used_at (s : Sy) (ok : OkSy s) (h : styB s = true) (i : Nat) (hi : i < 18) : Con Tryd.prog 24 [.agg (encSy s), int i] (.tup [.agg (encW (shown s i)), int 0]) := by
  have hs := styB_len h
  have h0 : s.vals[0]? = some (s.vals.getD 0 v0) := by rw [List.getD_eq_getElem?_getD, List.getElem?_eq_getElem (by omega)]; rfl
  have h1 : s.vals[i]? = some (s.vals.getD i v0) := by rw [List.getD_eq_getElem?_getD, List.getElem?_eq_getElem (by omega)]; rfl
  exact con_Used s ok h i hi _ _ h0 h1
/-- The colours of a chosen style, up to some number. -/
def c4 (s c : Sy) (i : Nat) : List AV := [u8c (shown c i).cr, u8c (shown c i).cg, u8c (shown c i).cb, u8c (shown s i).ca]
def cK (s c : Sy) (k : Nat) : List AV := (if 0 < k then c4 s c 0 else zero4) ++ (if 1 < k then c4 s c 1 else zero4) ++ (if 2 < k then c4 s c 2 else zero4) ++ (if 3 < k then c4 s c 3 else zero4)
theorem colK_cK (s v : Sy) (was : Bool) (k : Nat) : colK s v was k = cK s (if was then v else s) k := by cases was <;> rfl
theorem cK_pure (s c : Sy) (k : Nat) : PureL (cK s c k) := by
  unfold cK c4 zero4
  repeat' split
  all_goals simp [u8c]
theorem cK_len (s c : Sy) (k : Nat) : (cK s c k).length = 16 := by
  unfold cK
  split <;> split <;> split <;> split <;> rfl
theorem setAll_len : ∀ (xs l : List AV) (o : Nat), (setAll l o xs).length = l.length
  | [], l, o => rfl
  | x :: xs, l, o => by
    rw [setAll]
    first
      | (rw [setAll_len xs]; simp; done)
      | simp [setAll_len xs]
theorem cK_step (s c : Sy) (k : Nat) (hk : k < 4) : setAll (setAll (cK s c k) (0 + k * 4) [u8c (shown c k).cr, u8c (shown c k).cg, u8c (shown c k).cb, u8c (shown c k).ca]) (0 + k * 4 + 3) [u8c (shown s k).ca] = cK s c (k + 1) := by
  have : k = 0 ∨ k = 1 ∨ k = 2 ∨ k = 3 := by omega
  rcases this with rfl | rfl | rfl | rfl <;> rfl
def bSy (s : Sy) : Ent := .blk ⟨26, [.sl 7 (encWs s.vals), .sl 2 (encCus s.customs)], true⟩
def bCo (l : List AV) : Ent := .blk ⟨36, l, true⟩
theorem a_idxP {len sz id off k : Nat} {x i : AV} {K : AV → Prop} (e : x = .op id off) (ei : i = int (k : Int)) (hk : k < len) (q : K (.op id (off + k * sz))) : iIdxQ len sz x i K := by
  subst e; subst ei
  rw [iIdxQ_o]
  exact ⟨⟨by omega, by omega⟩, q⟩
set_option maxHeartbeats 4000000 in
theorem con_Colors (s v : Sy) (oks : OkSy s) (okv : OkSy v) (was : Bool) : Con Tryd.prog 9 [.agg (encSy s), .agg (encSy v), bool was] (colV s v was) := by
  refine (V9 _ _ _).gives (by simp [encSy_pure]) (colV_pure s v was) ?_
  unfold W9
  have hS := con_syCheck s oks
  have hV := con_syCheck v okv
  rw [styE] at hS hV
  have e1 : encSy s = [.sl 7 (encWs s.vals), .sl 2 (encCus s.customs)] := rfl
  have e2 : encSy v = [.sl 7 (encWs v.vals), .sl 2 (encCus v.customs)] := rfl
  unfold colV
  refine n_new (n := 0) (cs := [.sl 7 (encWs s.vals), .sl 2 (encCus s.customs)]) (h' := [bSy s]) rfl rfl rfl rfl ?_
  refine n_new (n := 1) (cs := [.sl 7 (encWs v.vals), .sl 2 (encCus v.customs)]) (h' := [bSy s, bSy v]) rfl rfl rfl rfl ?_
  refine n_new (n := 2) (cs := zero16) (h' := [bSy s, bSy v, bCo zero16]) rfl rfl rfl rfl ?_
  refine n_new (n := 3) (cs := zero16) (h' := [bSy s, bSy v, bCo zero16, bCo zero16]) rfl rfl rfl rfl ?_
  refine w_loadA rfl rfl (Nat.le_of_ble_eq_true rfl) ?_
  refine iCall_con (by kernel_rfl) hS ?_
  refine a_neq rfl rfl ?_
  refine w_let ?_
  cases h1 : styB s with
  | false =>
    refine a_guard0 rfl (by simp [h1]) ?_
    refine w_and ?_
    refine w_pick_t (by simp [h1]) ?_
    refine w_cond_t rfl ?_
    refine w_loadA rfl rfl (Nat.le_of_ble_eq_true rfl) ?_
    refine n_store (h' := [bSy s, bSy v, bCo zero16, bCo zero16]) (cs := zero16) rfl rfl rfl rfl (Nat.le_of_ble_eq_true rfl) rfl rfl rfl ?_
    refine w_loadA rfl rfl (Nat.le_of_ble_eq_true rfl) ?_
    exact .pure (by simp [zero16, zero4, u8c]) rfl
  | true =>
  refine a_guard1 rfl (by simp [h1]) ?_
  refine w_loadA rfl rfl (Nat.le_of_ble_eq_true rfl) ?_
  refine iCall_con (by kernel_rfl) hV ?_
  refine a_neq rfl rfl ?_
  refine w_and ?_
  cases h2 : styB v with
  | false =>
    refine w_pick_f rfl ?_
    refine w_cond_t (by simp [h2]) ?_
    refine w_loadA rfl rfl (Nat.le_of_ble_eq_true rfl) ?_
    refine n_store (h' := [bSy s, bSy v, bCo zero16, bCo zero16]) (cs := zero16) rfl rfl rfl rfl (Nat.le_of_ble_eq_true rfl) rfl rfl rfl ?_
    refine w_loadA rfl rfl (Nat.le_of_ble_eq_true rfl) ?_
    exact .pure (by simp [zero16, zero4, u8c]) rfl
  | true =>
  refine w_pick_f rfl ?_
  refine w_cond_f (by simp [h2]) ?_
  rw [if_pos ⟨rfl, rfl⟩, colK_cK]
  have hUs := used_at s oks h1
  have hUv := used_at (if was then v else s) (by cases was <;> assumption) (by cases was <;> assumption)
  have p1 := encSy_pure s
  have p2 := encSy_pure v
  have p3 := encSy_pure (if was then v else s)
  refine w_loadA rfl rfl (Nat.le_of_ble_eq_true rfl) ?_
  refine n_new (n := 4) (cs := [.v (.slice none 0 0), .v (.slice none 0 0)]) (h' := [_, _, _, _, _]) rfl rfl rfl rfl ?_
  refine n_store (h' := [bSy s, bSy v, bCo zero16, bCo zero16, bSy s]) (cs := [.sl 7 (encWs s.vals), .sl 2 (encCus s.customs)]) rfl rfl rfl rfl (Nat.le_of_ble_eq_true rfl) rfl rfl rfl ?_
  refine w_join [] [bSy s, bSy v, bCo zero16, bCo zero16, bSy (if was then v else s)] ?_ ?_
  case refine_2 =>
    intro F hF
    cases was with
    | true =>
      refine w_cond_t rfl ?_
      refine w_loadA rfl rfl (Nat.le_of_ble_eq_true rfl) ?_
      refine n_store (h' := [bSy s, bSy v, bCo zero16, bCo zero16, bSy v]) (cs := [.sl 7 (encWs v.vals), .sl 2 (encCus v.customs)]) rfl rfl rfl rfl (Nat.le_of_ble_eq_true rfl) rfl rfl rfl ?_
      refine w_and ?_
      exact hF
    | false =>
      refine w_cond_f rfl ?_
      refine w_and ?_
      exact hF
  generalize (if was then v else s) = c at hUv p3 ⊢
  refine iLoop_of (α := Nat) (fun k => k ≤ 4) (fun k => [int k]) (fun k => [bSy s, bSy v, bCo zero16, bCo (cK s c k), bSy c]) (fun k => 4 - k) 0 (by simp) (Wk.refl _ _ _ (by simp)) ?_
  intro k hk
  refine a_lss rfl rfl ?_
  rcases Nat.lt_or_ge k 4 with q | q
  · have c1 := hUs k (by omega)
    have c2 := hUv k (by omega)
    refine a_cond1 rfl (by simp; omega) ?_
    refine w_loadA rfl rfl (Nat.le_of_ble_eq_true rfl) ?_
    refine iCall_con (by kernel_rfl) c1 ?_
    refine w_extr rfl rfl ?_
    refine w_extr rfl rfl ?_
    refine n_new (n := 5) (h' := [_, _, _, _, _, _]) rfl rfl rfl rfl ?_
    refine n_store (h' := [bSy s, bSy v, bCo zero16, bCo (cK s c k), bSy c, .blk ⟨58, encW (shown s k), true⟩]) (cs := encW (shown s k)) rfl rfl rfl rfl (Nat.le_of_ble_eq_true rfl) rfl rfl rfl ?_
    refine w_loadA rfl rfl (Nat.le_of_ble_eq_true rfl) ?_
    refine iCall_con (by kernel_rfl) c2 ?_
    refine w_extr rfl rfl ?_
    refine w_extr rfl rfl ?_
    refine n_new (n := 6) (h' := [_, _, _, _, _, _, _]) rfl rfl rfl rfl ?_
    refine n_store (h' := [bSy s, bSy v, bCo zero16, bCo (cK s c k), bSy c, .blk ⟨58, encW (shown s k), true⟩, .blk ⟨58, encW (shown c k), true⟩]) (cs := encW (shown c k)) rfl rfl rfl rfl (Nat.le_of_ble_eq_true rfl) rfl rfl rfl ?_
    refine w_fad rfl ?_
    refine w_loadA rfl rfl (Nat.le_of_ble_eq_true rfl) ?_
    refine a_idxP rfl rfl q ?_
    refine n_store (h' := [bSy s, bSy v, bCo zero16, bCo (setAll (cK s c k) (0 + k * 4) [u8c (shown c k).cr, u8c (shown c k).cg, u8c (shown c k).cb, u8c (shown c k).ca]), bSy c, .blk ⟨58, encW (shown s k), true⟩, .blk ⟨58, encW (shown c k), true⟩]) (cs := [u8c (shown c k).cr, u8c (shown c k).cg, u8c (shown c k).cb, u8c (shown c k).ca]) rfl rfl rfl rfl (by show 0 + k * 4 + 4 ≤ (cK s c k).length; rw [cK_len]; omega) rfl rfl rfl ?_
    refine w_fad rfl ?_
    refine w_fad rfl ?_
    refine w_load rfl rfl rfl ?_
    refine a_idxP rfl rfl q ?_
    refine w_fad rfl ?_
    refine n_store (h' := [bSy s, bSy v, bCo zero16, bCo (cK s c (k + 1)), bSy c, .blk ⟨58, encW (shown s k), true⟩, .blk ⟨58, encW (shown c k), true⟩]) (cs := [u8c (shown s k).ca]) rfl rfl rfl rfl (by show 0 + k * 4 + 3 + 1 ≤ (setAll (cK s c k) _ _).length; rw [setAll_len, cK_len]; omega) rfl rfl (by rw [← cK_step s c k q]; rfl) ?_
    refine w_add rfl rfl (by unfold inI; omega) ?_
    refine w_and ?_
    refine ⟨k + 1, q, ?_, by omega⟩
    exact Wk.back (M := 5) (by simp) (by simp) rfl rfl (by simp [entB, bSy, bCo]; exact ⟨BdL_pure _ _ p1, BdL_pure _ _ p2, BdL_pure _ _ (by simp [zero16, zero4, u8c]), BdL_pure _ _ (cK_pure _ _ _), BdL_pure _ _ p3⟩) (by simp [Bd])
  · obtain rfl : k = 4 := by omega
    refine a_cond0 rfl rfl ?_
    refine w_loadA rfl rfl (Nat.le_of_ble_eq_true (by show Nat.ble 16 ((cK s c 4).drop 0).length = true; rw [List.drop_zero, cK_len]; rfl)) ?_
    refine n_store (h' := [bSy s, bSy v, bCo (cK s c 4), bCo (cK s c 4), bSy c]) (cs := cK s c 4) rfl rfl rfl rfl (Nat.le_of_ble_eq_true rfl) rfl rfl rfl ?_
    refine w_loadA rfl rfl (Nat.le_of_ble_eq_true rfl) ?_
    exact .pure (by simp; exact cK_pure s c 4) rfl
end Go.Proofs.YthblflmjingcfaaDoor
end
