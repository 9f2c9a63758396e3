/-
  Longhands of a name; declarations as plain data; checked by either way.
  No conditions: contracts.
-/
import Derived.Test.YtlapkmobmgffoaaDoorSrtB
import Derived.Test.YtlapkmobmgffoaaDoorNstC
set_option linter.unusedVariables false
set_option linter.unusedSimpArgs false
namespace Go.Proofs.YtlapkmobmgffoaaDoor
open Go Go.Aw Go.Nst
set_option maxRecDepth 1000000
def isPr (s : Str) : Bool := customS s || (findS s).isSome
theorem inhV_known {s : Str} (h : isPr s = true) : ∃ b, inhV s = .tup [bool b, int 0] := by
  unfold inhV
  by_cases hc : customS s = true
  · rw [if_pos hc]; exact ⟨true, rfl⟩
  · rw [if_neg hc]
    unfold isPr at h
    cases hf : findS s with
    | none => rw [hf] at h; simp at h; exact absurd h hc
    | some n => exact ⟨_, rfl⟩
theorem inhV_not {s : Str} (h : isPr s = false) : inhV s = .tup [ff, int 6] := by
  unfold isPr at h
  simp only [Bool.or_eq_false_iff] at h
  unfold inhV
  rw [if_neg (by simp [h.1])]
  cases hf : findS s with
  | none => rfl
  | some n => rw [hf] at h; simp at h
def lgs (s : Str) : List Str := if longsL s = [] then (if isPr s = true then [s] else []) else longsL s
def lgV (s : Str) : AV := if lgs s = [] then .tup [.v (.slice none 0 0), int 6] else .tup [.sl 1 (encSt (lgs s)), int 0]
theorem lgV_pure (s : Str) : Aw.Pure (lgV s) := by unfold lgV; split <;> simp [encSt_pure]
theorem a_lenNil {K : AV → Prop} (q : K (int 0)) : iLen (.v (.slice none 0 0)) K := q
theorem longsL_len (s : Str) : (longsL s).length ≤ 4 := by
  unfold longsL
  split
  · simp [sidesL]
  · split <;> simp
theorem lgs_len (s : Str) : (lgs s).length ≤ 4 := by
  unfold lgs
  split
  · split <;> simp
  · exact longsL_len s
set_option maxHeartbeats 2000000 in
theorem con_Longs (s : Str) (hs : s.length < 2 ^ 40) : Con Tryd.prog 38 [.str s] (lgV s) := by
  refine (V38 _).gives (by simp) (lgV_pure s) ?_
  unfold W38
  have hO := con_of s hs
  have hI := con_Inherited s
  unfold lgV lgs
  by_cases hl : longsL s = []
  · rw [ofV, if_pos hl] at hO
    rw [if_pos hl]
    by_cases hk : isPr s = true
    · obtain ⟨b, e⟩ := inhV_known hk
      rw [e] at hI
      rw [if_pos hk]
      repeat' (first
        | (with_reducible apply w_let)
        | (with_reducible apply w_and)
        | (with_reducible refine And.intro True.intro ?_)
        | ((with_reducible apply a_lss); rfl; rfl)
        | ((with_reducible apply a_leq); rfl; rfl)
        | ((with_reducible apply a_gtr); rfl; rfl)
        | ((with_reducible apply a_geq); rfl; rfl)
        | ((with_reducible apply a_eql); rfl; rfl)
        | ((with_reducible apply a_neq); rfl; rfl)
        | ((with_reducible apply a_eqlS); rfl; rfl)
        | ((with_reducible apply a_neqS); rfl; rfl)
        | ((with_reducible apply a_eqlB); rfl; rfl)
        | ((with_reducible apply a_neqB); rfl; rfl)
        | ((with_reducible apply w_add); rfl; rfl; first | assumption | (unfold inI; omega))
        | ((with_reducible apply w_sub); rfl; rfl; first | assumption | (unfold inI; omega))
        | ((with_reducible apply a_not); rfl)
        | ((with_reducible apply w_pick_t); rfl)
        | ((with_reducible apply w_pick_f); rfl)
        | ((with_reducible apply a_cond1); rfl; first | rfl | assumption)
        | ((with_reducible apply a_cond0); rfl; first | rfl | assumption)
        | ((with_reducible apply a_guard1); rfl; first | rfl | assumption)
        | ((with_reducible apply a_guard0); rfl; first | rfl | assumption)
        | ((with_reducible apply w_guard_u); rfl)
        | ((with_reducible apply a_pick1); rfl; first | rfl | assumption)
        | ((with_reducible apply a_pick0); rfl; first | rfl | assumption)
        | ((with_reducible apply a_pickN); rfl)
        | ((with_reducible apply a_condN); rfl)
        | ((with_reducible apply a_guardN); rfl)
        | ((with_reducible apply w_fad); rfl)
        | ((with_reducible apply a_fadI); rfl)
        | ((with_reducible apply w_load); rfl; rfl; rfl)
        | ((with_reducible apply w_loadI); rfl)
        | ((with_reducible apply w_loadA); rfl; rfl; first | exact Nat.le_refl _ | exact Nat.le_of_ble_eq_true rfl)
        | ((with_reducible apply a_eqA); rfl; rfl; rfl)
        | ((with_reducible apply a_loadAI); rfl; first | rfl | simp)
        | ((with_reducible apply w_new); first | rfl | simp)
        | ((with_reducible apply a_store); rfl; rfl; rfl; rfl; (first | exact Nat.le_refl _ | simp); (first | rfl | simp); (first | rfl | simp))
        | ((with_reducible apply a_lenS); rfl; intro _)
        | ((with_reducible apply a_len); rfl; (first | rfl | simp); intro _)
        | ((with_reducible apply a_build); rfl)
        | ((with_reducible apply a_extr); rfl; rfl)
        | (refine iCall_con (by kernel_rfl) (hO) ?_)
        | (refine iCall_con (by kernel_rfl) (hI) ?_)
        | (refine a_lenNil ?_)
        | (refine a_mkSlP rfl ?_)
        | ((with_reducible apply a_cond); rfl)
        | ((with_reducible apply a_guard); rfl)
        | (with_reducible intro _))
      exact .pure (by simp [chunks, setAll, rep0]) (by simp [encSt, chunks, setAll, rep0])
    · have hk : isPr s = false := by simpa using hk
      rw [inhV_not hk] at hI
      rw [show (if isPr s = true then [s] else []) = ([] : List Str) by simp [hk], if_pos rfl]
      repeat' (first
        | (with_reducible apply w_let)
        | (with_reducible apply w_and)
        | (with_reducible refine And.intro True.intro ?_)
        | ((with_reducible apply a_lss); rfl; rfl)
        | ((with_reducible apply a_leq); rfl; rfl)
        | ((with_reducible apply a_gtr); rfl; rfl)
        | ((with_reducible apply a_geq); rfl; rfl)
        | ((with_reducible apply a_eql); rfl; rfl)
        | ((with_reducible apply a_neq); rfl; rfl)
        | ((with_reducible apply a_eqlS); rfl; rfl)
        | ((with_reducible apply a_neqS); rfl; rfl)
        | ((with_reducible apply a_eqlB); rfl; rfl)
        | ((with_reducible apply a_neqB); rfl; rfl)
        | ((with_reducible apply w_add); rfl; rfl; first | assumption | (unfold inI; omega))
        | ((with_reducible apply w_sub); rfl; rfl; first | assumption | (unfold inI; omega))
        | ((with_reducible apply a_not); rfl)
        | ((with_reducible apply w_pick_t); rfl)
        | ((with_reducible apply w_pick_f); rfl)
        | ((with_reducible apply a_cond1); rfl; first | rfl | assumption)
        | ((with_reducible apply a_cond0); rfl; first | rfl | assumption)
        | ((with_reducible apply a_guard1); rfl; first | rfl | assumption)
        | ((with_reducible apply a_guard0); rfl; first | rfl | assumption)
        | ((with_reducible apply w_guard_u); rfl)
        | ((with_reducible apply a_pick1); rfl; first | rfl | assumption)
        | ((with_reducible apply a_pick0); rfl; first | rfl | assumption)
        | ((with_reducible apply a_pickN); rfl)
        | ((with_reducible apply a_condN); rfl)
        | ((with_reducible apply a_guardN); rfl)
        | ((with_reducible apply w_fad); rfl)
        | ((with_reducible apply a_fadI); rfl)
        | ((with_reducible apply w_load); rfl; rfl; rfl)
        | ((with_reducible apply w_loadI); rfl)
        | ((with_reducible apply w_loadA); rfl; rfl; first | exact Nat.le_refl _ | exact Nat.le_of_ble_eq_true rfl)
        | ((with_reducible apply a_eqA); rfl; rfl; rfl)
        | ((with_reducible apply a_loadAI); rfl; first | rfl | simp)
        | ((with_reducible apply w_new); first | rfl | simp)
        | ((with_reducible apply a_store); rfl; rfl; rfl; rfl; (first | exact Nat.le_refl _ | simp); (first | rfl | simp); (first | rfl | simp))
        | ((with_reducible apply a_lenS); rfl; intro _)
        | ((with_reducible apply a_len); rfl; (first | rfl | simp); intro _)
        | ((with_reducible apply a_build); rfl)
        | ((with_reducible apply a_extr); rfl; rfl)
        | (refine iCall_con (by kernel_rfl) (hO) ?_)
        | (refine iCall_con (by kernel_rfl) (hI) ?_)
        | (refine a_lenNil ?_)
        | ((with_reducible apply a_cond); rfl)
        | ((with_reducible apply a_guard); rfl)
        | (with_reducible intro _))
      exact .pure (by simp) rfl
  · rw [ofV, if_neg hl] at hO
    rw [if_neg hl]
    have g : decide ((0 : Int) < (encSt (longsL s)).length) = true := by
      simp [encSt]
      exact List.length_pos_iff.2 hl
    repeat' (first
      | (with_reducible apply w_let)
      | (with_reducible apply w_and)
      | (with_reducible refine And.intro True.intro ?_)
      | ((with_reducible apply a_lss); rfl; rfl)
      | ((with_reducible apply a_leq); rfl; rfl)
      | ((with_reducible apply a_gtr); rfl; rfl)
      | ((with_reducible apply a_geq); rfl; rfl)
      | ((with_reducible apply a_eql); rfl; rfl)
      | ((with_reducible apply a_neq); rfl; rfl)
      | ((with_reducible apply a_eqlS); rfl; rfl)
      | ((with_reducible apply a_neqS); rfl; rfl)
      | ((with_reducible apply a_eqlB); rfl; rfl)
      | ((with_reducible apply a_neqB); rfl; rfl)
      | ((with_reducible apply w_add); rfl; rfl; first | assumption | (unfold inI; omega))
      | ((with_reducible apply w_sub); rfl; rfl; first | assumption | (unfold inI; omega))
      | ((with_reducible apply a_not); rfl)
      | ((with_reducible apply w_pick_t); rfl)
      | ((with_reducible apply w_pick_f); rfl)
      | ((with_reducible apply a_cond1); rfl; first | rfl | assumption)
      | ((with_reducible apply a_cond0); rfl; first | rfl | assumption)
      | ((with_reducible apply a_guard1); rfl; first | rfl | assumption)
      | ((with_reducible apply a_guard0); rfl; first | rfl | assumption)
      | ((with_reducible apply w_guard_u); rfl)
      | ((with_reducible apply a_pick1); rfl; first | rfl | assumption)
      | ((with_reducible apply a_pick0); rfl; first | rfl | assumption)
      | ((with_reducible apply a_pickN); rfl)
      | ((with_reducible apply a_condN); rfl)
      | ((with_reducible apply a_guardN); rfl)
      | ((with_reducible apply w_fad); rfl)
      | ((with_reducible apply a_fadI); rfl)
      | ((with_reducible apply w_load); rfl; rfl; rfl)
      | ((with_reducible apply w_loadI); rfl)
      | ((with_reducible apply w_loadA); rfl; rfl; first | exact Nat.le_refl _ | exact Nat.le_of_ble_eq_true rfl)
      | ((with_reducible apply a_eqA); rfl; rfl; rfl)
      | ((with_reducible apply a_loadAI); rfl; first | rfl | simp)
      | ((with_reducible apply w_new); first | rfl | simp)
      | ((with_reducible apply a_store); rfl; rfl; rfl; rfl; (first | exact Nat.le_refl _ | simp); (first | rfl | simp); (first | rfl | simp))
      | ((with_reducible apply a_lenS); rfl; intro _)
      | ((with_reducible apply a_len); rfl; (first | rfl | simp); intro _)
      | ((with_reducible apply a_build); rfl)
      | ((with_reducible apply a_extr); rfl; rfl)
      | (refine iCall_con (by kernel_rfl) (hO) ?_)
      | ((with_reducible apply a_cond); rfl)
      | ((with_reducible apply a_guard); rfl)
      | (with_reducible intro _))
    exact .pure (by simp [encSt_pure]) (by rw [if_neg hl])
set_option maxHeartbeats 2000000 in
theorem con_rLongs (s : Str) (hs : s.length < 2 ^ 40) : Con Tryd.prog 71 [.str s] (lgV s) := by
  refine (V71 _).gives (by simp) (lgV_pure s) ?_
  unfold W71
  have hO := con_rlongs s hs
  have hI := con_rInherited s
  unfold lgV lgs
  by_cases hl : longsL s = []
  · rw [ofV, if_pos hl] at hO
    rw [if_pos hl]
    by_cases hk : isPr s = true
    · obtain ⟨b, e⟩ := inhV_known hk
      rw [e] at hI
      rw [if_pos hk]
      repeat' (first
        | (with_reducible apply w_let)
        | (with_reducible apply w_and)
        | (with_reducible refine And.intro True.intro ?_)
        | ((with_reducible apply a_lss); rfl; rfl)
        | ((with_reducible apply a_leq); rfl; rfl)
        | ((with_reducible apply a_gtr); rfl; rfl)
        | ((with_reducible apply a_geq); rfl; rfl)
        | ((with_reducible apply a_eql); rfl; rfl)
        | ((with_reducible apply a_neq); rfl; rfl)
        | ((with_reducible apply a_eqlS); rfl; rfl)
        | ((with_reducible apply a_neqS); rfl; rfl)
        | ((with_reducible apply a_eqlB); rfl; rfl)
        | ((with_reducible apply a_neqB); rfl; rfl)
        | ((with_reducible apply w_add); rfl; rfl; first | assumption | (unfold inI; omega))
        | ((with_reducible apply w_sub); rfl; rfl; first | assumption | (unfold inI; omega))
        | ((with_reducible apply a_not); rfl)
        | ((with_reducible apply w_pick_t); rfl)
        | ((with_reducible apply w_pick_f); rfl)
        | ((with_reducible apply a_cond1); rfl; first | rfl | assumption)
        | ((with_reducible apply a_cond0); rfl; first | rfl | assumption)
        | ((with_reducible apply a_guard1); rfl; first | rfl | assumption)
        | ((with_reducible apply a_guard0); rfl; first | rfl | assumption)
        | ((with_reducible apply w_guard_u); rfl)
        | ((with_reducible apply a_pick1); rfl; first | rfl | assumption)
        | ((with_reducible apply a_pick0); rfl; first | rfl | assumption)
        | ((with_reducible apply a_pickN); rfl)
        | ((with_reducible apply a_condN); rfl)
        | ((with_reducible apply a_guardN); rfl)
        | ((with_reducible apply w_fad); rfl)
        | ((with_reducible apply a_fadI); rfl)
        | ((with_reducible apply w_load); rfl; rfl; rfl)
        | ((with_reducible apply w_loadI); rfl)
        | ((with_reducible apply w_loadA); rfl; rfl; first | exact Nat.le_refl _ | exact Nat.le_of_ble_eq_true rfl)
        | ((with_reducible apply a_eqA); rfl; rfl; rfl)
        | ((with_reducible apply a_loadAI); rfl; first | rfl | simp)
        | ((with_reducible apply w_new); first | rfl | simp)
        | ((with_reducible apply a_store); rfl; rfl; rfl; rfl; (first | exact Nat.le_refl _ | simp); (first | rfl | simp); (first | rfl | simp))
        | ((with_reducible apply a_lenS); rfl; intro _)
        | ((with_reducible apply a_len); rfl; (first | rfl | simp); intro _)
        | ((with_reducible apply a_build); rfl)
        | ((with_reducible apply a_extr); rfl; rfl)
        | (refine iCall_con (by kernel_rfl) (hO) ?_)
        | (refine iCall_con (by kernel_rfl) (hI) ?_)
        | (refine a_lenNil ?_)
        | (refine a_mkSlP rfl ?_)
        | ((with_reducible apply a_cond); rfl)
        | ((with_reducible apply a_guard); rfl)
        | (with_reducible intro _))
      exact .pure (by simp [chunks, setAll, rep0]) (by simp [encSt, chunks, setAll, rep0])
    · have hk : isPr s = false := by simpa using hk
      rw [inhV_not hk] at hI
      rw [show (if isPr s = true then [s] else []) = ([] : List Str) by simp [hk], if_pos rfl]
      repeat' (first
        | (with_reducible apply w_let)
        | (with_reducible apply w_and)
        | (with_reducible refine And.intro True.intro ?_)
        | ((with_reducible apply a_lss); rfl; rfl)
        | ((with_reducible apply a_leq); rfl; rfl)
        | ((with_reducible apply a_gtr); rfl; rfl)
        | ((with_reducible apply a_geq); rfl; rfl)
        | ((with_reducible apply a_eql); rfl; rfl)
        | ((with_reducible apply a_neq); rfl; rfl)
        | ((with_reducible apply a_eqlS); rfl; rfl)
        | ((with_reducible apply a_neqS); rfl; rfl)
        | ((with_reducible apply a_eqlB); rfl; rfl)
        | ((with_reducible apply a_neqB); rfl; rfl)
        | ((with_reducible apply w_add); rfl; rfl; first | assumption | (unfold inI; omega))
        | ((with_reducible apply w_sub); rfl; rfl; first | assumption | (unfold inI; omega))
        | ((with_reducible apply a_not); rfl)
        | ((with_reducible apply w_pick_t); rfl)
        | ((with_reducible apply w_pick_f); rfl)
        | ((with_reducible apply a_cond1); rfl; first | rfl | assumption)
        | ((with_reducible apply a_cond0); rfl; first | rfl | assumption)
        | ((with_reducible apply a_guard1); rfl; first | rfl | assumption)
        | ((with_reducible apply a_guard0); rfl; first | rfl | assumption)
        | ((with_reducible apply w_guard_u); rfl)
        | ((with_reducible apply a_pick1); rfl; first | rfl | assumption)
        | ((with_reducible apply a_pick0); rfl; first | rfl | assumption)
        | ((with_reducible apply a_pickN); rfl)
        | ((with_reducible apply a_condN); rfl)
        | ((with_reducible apply a_guardN); rfl)
        | ((with_reducible apply w_fad); rfl)
        | ((with_reducible apply a_fadI); rfl)
        | ((with_reducible apply w_load); rfl; rfl; rfl)
        | ((with_reducible apply w_loadI); rfl)
        | ((with_reducible apply w_loadA); rfl; rfl; first | exact Nat.le_refl _ | exact Nat.le_of_ble_eq_true rfl)
        | ((with_reducible apply a_eqA); rfl; rfl; rfl)
        | ((with_reducible apply a_loadAI); rfl; first | rfl | simp)
        | ((with_reducible apply w_new); first | rfl | simp)
        | ((with_reducible apply a_store); rfl; rfl; rfl; rfl; (first | exact Nat.le_refl _ | simp); (first | rfl | simp); (first | rfl | simp))
        | ((with_reducible apply a_lenS); rfl; intro _)
        | ((with_reducible apply a_len); rfl; (first | rfl | simp); intro _)
        | ((with_reducible apply a_build); rfl)
        | ((with_reducible apply a_extr); rfl; rfl)
        | (refine iCall_con (by kernel_rfl) (hO) ?_)
        | (refine iCall_con (by kernel_rfl) (hI) ?_)
        | (refine a_lenNil ?_)
        | ((with_reducible apply a_cond); rfl)
        | ((with_reducible apply a_guard); rfl)
        | (with_reducible intro _))
      exact .pure (by simp) rfl
  · rw [ofV, if_neg hl] at hO
    rw [if_neg hl]
    have g : decide ((0 : Int) < (encSt (longsL s)).length) = true := by
      simp [encSt]
      exact List.length_pos_iff.2 hl
    repeat' (first
      | (with_reducible apply w_let)
      | (with_reducible apply w_and)
      | (with_reducible refine And.intro True.intro ?_)
      | ((with_reducible apply a_lss); rfl; rfl)
      | ((with_reducible apply a_leq); rfl; rfl)
      | ((with_reducible apply a_gtr); rfl; rfl)
      | ((with_reducible apply a_geq); rfl; rfl)
      | ((with_reducible apply a_eql); rfl; rfl)
      | ((with_reducible apply a_neq); rfl; rfl)
      | ((with_reducible apply a_eqlS); rfl; rfl)
      | ((with_reducible apply a_neqS); rfl; rfl)
      | ((with_reducible apply a_eqlB); rfl; rfl)
      | ((with_reducible apply a_neqB); rfl; rfl)
      | ((with_reducible apply w_add); rfl; rfl; first | assumption | (unfold inI; omega))
      | ((with_reducible apply w_sub); rfl; rfl; first | assumption | (unfold inI; omega))
      | ((with_reducible apply a_not); rfl)
      | ((with_reducible apply w_pick_t); rfl)
      | ((with_reducible apply w_pick_f); rfl)
      | ((with_reducible apply a_cond1); rfl; first | rfl | assumption)
      | ((with_reducible apply a_cond0); rfl; first | rfl | assumption)
      | ((with_reducible apply a_guard1); rfl; first | rfl | assumption)
      | ((with_reducible apply a_guard0); rfl; first | rfl | assumption)
      | ((with_reducible apply w_guard_u); rfl)
      | ((with_reducible apply a_pick1); rfl; first | rfl | assumption)
      | ((with_reducible apply a_pick0); rfl; first | rfl | assumption)
      | ((with_reducible apply a_pickN); rfl)
      | ((with_reducible apply a_condN); rfl)
      | ((with_reducible apply a_guardN); rfl)
      | ((with_reducible apply w_fad); rfl)
      | ((with_reducible apply a_fadI); rfl)
      | ((with_reducible apply w_load); rfl; rfl; rfl)
      | ((with_reducible apply w_loadI); rfl)
      | ((with_reducible apply w_loadA); rfl; rfl; first | exact Nat.le_refl _ | exact Nat.le_of_ble_eq_true rfl)
      | ((with_reducible apply a_eqA); rfl; rfl; rfl)
      | ((with_reducible apply a_loadAI); rfl; first | rfl | simp)
      | ((with_reducible apply w_new); first | rfl | simp)
      | ((with_reducible apply a_store); rfl; rfl; rfl; rfl; (first | exact Nat.le_refl _ | simp); (first | rfl | simp); (first | rfl | simp))
      | ((with_reducible apply a_lenS); rfl; intro _)
      | ((with_reducible apply a_len); rfl; (first | rfl | simp); intro _)
      | ((with_reducible apply a_build); rfl)
      | ((with_reducible apply a_extr); rfl; rfl)
      | (refine iCall_con (by kernel_rfl) (hO) ?_)
      | ((with_reducible apply a_cond); rfl)
      | ((with_reducible apply a_guard); rfl)
      | (with_reducible intro _))
    exact .pure (by simp [encSt_pure]) (by rw [if_neg hl])
/-! ### Declarations -/
structure Dc where
  name : Str
  value : List Vl
  whole : Str
  imp : Bool
  origin : Int
  att : Bool
  layer : Int
  w0 : Int
  w1 : Int
  w2 : Int
  order : Int
def encD (d : Dc) : List AV := [.str d.name, .sl 6 (encVs d.value), .str d.whole, bool d.imp, u1 d.origin, bool d.att, int d.layer, int d.w0, int d.w1, int d.w2, int d.order]
theorem encD_pure (d : Dc) : PureL (encD d) := by simp [encD, pureVs]
def inN (n : Int) : Bool := decide (0 ≤ n) && decide (n ≤ 1000000)
def wholeOK (n w : Str) : Bool := decide (w = []) || (decide (n ∈ lgs w) && !decide (w = n))
def okD (d : Dc) : Bool := isPr d.name && decide (checkV d.value = 0) && wholeOK d.name d.whole && (inN d.layer && inN d.order && inN d.w0 && inN d.w1 && inN d.w2) && (decide (1 ≤ d.origin) && decide (d.origin ≤ 3)) && (!d.att || (decide (d.origin = 3) && decide (d.layer = 0) && (decide (d.w0 = 0) && decide (d.w1 = 0) && decide (d.w2 = 0))))
def errD (d : Dc) : Int := if okD d then 0 else 8
theorem errD_bad {d : Dc} (h : okD d = false) : errD d = 8 := by rw [errD, h]; rfl
theorem con_in (n : Int) : Con Tryd.prog 43 [int n] (bool (inN n)) := by
  refine (V43 _).gives (by simp) (by simp) ?_
  unfold W43
  repeat' (first
    | (with_reducible apply w_let)
    | (with_reducible apply w_and)
    | (with_reducible refine And.intro True.intro ?_)
    | ((with_reducible apply a_lss); rfl; rfl)
    | ((with_reducible apply a_leq); rfl; rfl)
    | ((with_reducible apply a_gtr); rfl; rfl)
    | ((with_reducible apply a_geq); rfl; rfl)
    | ((with_reducible apply a_eql); rfl; rfl)
    | ((with_reducible apply a_neq); rfl; rfl)
    | ((with_reducible apply a_eqlS); rfl; rfl)
    | ((with_reducible apply a_neqS); rfl; rfl)
    | ((with_reducible apply a_eqlB); rfl; rfl)
    | ((with_reducible apply a_neqB); rfl; rfl)
    | ((with_reducible apply w_add); rfl; rfl; first | assumption | (unfold inI; omega))
    | ((with_reducible apply w_sub); rfl; rfl; first | assumption | (unfold inI; omega))
    | ((with_reducible apply a_not); rfl)
    | ((with_reducible apply w_pick_t); rfl)
    | ((with_reducible apply w_pick_f); rfl)
    | ((with_reducible apply a_cond1); rfl; first | rfl | assumption)
    | ((with_reducible apply a_cond0); rfl; first | rfl | assumption)
    | ((with_reducible apply a_guard1); rfl; first | rfl | assumption)
    | ((with_reducible apply a_guard0); rfl; first | rfl | assumption)
    | ((with_reducible apply w_guard_u); rfl)
    | ((with_reducible apply a_pick1); rfl; first | rfl | assumption)
    | ((with_reducible apply a_pick0); rfl; first | rfl | assumption)
    | ((with_reducible apply a_pickN); rfl)
    | ((with_reducible apply a_condN); rfl)
    | ((with_reducible apply a_guardN); rfl)
    | ((with_reducible apply w_fad); rfl)
    | ((with_reducible apply a_fadI); rfl)
    | ((with_reducible apply w_load); rfl; rfl; rfl)
    | ((with_reducible apply w_loadI); rfl)
    | ((with_reducible apply w_loadA); rfl; rfl; first | exact Nat.le_refl _ | exact Nat.le_of_ble_eq_true rfl)
    | ((with_reducible apply a_eqA); rfl; rfl; rfl)
    | ((with_reducible apply a_loadAI); rfl; first | rfl | simp)
    | ((with_reducible apply w_new); first | rfl | simp)
    | ((with_reducible apply a_store); rfl; rfl; rfl; rfl; (first | exact Nat.le_refl _ | simp); (first | rfl | simp); (first | rfl | simp))
    | ((with_reducible apply a_lenS); rfl; intro _)
    | ((with_reducible apply a_len); rfl; (first | rfl | simp); intro _)
    | ((with_reducible apply a_build); rfl)
    | ((with_reducible apply a_extr); rfl; rfl)
    | ((with_reducible apply a_cond); rfl)
    | ((with_reducible apply a_guard); rfl)
    | (with_reducible intro _))
  all_goals
    refine .pure (by simp) ?_
    simp only [nx_zero, nx_one, AV.v.injEq, Value.bool.injEq, inN]
    grind
theorem con_whole (n : Str) (v : List Vl) (w : Str) (hw : w.length < 2 ^ 40) : Con Tryd.prog 42 [.agg [.str n, .sl 6 (encVs v), .str w]] (bool (wholeOK n w)) := by
  refine (V42 _).gives (by simp [pureVs]) (by simp) ?_
  unfold W42
  have hL := con_rLongs w hw
  unfold wholeOK
  by_cases h0 : w = []
  · have g0 : decide (w = []) = true := by simpa using h0
    repeat' (first
      | (with_reducible apply w_let)
      | (with_reducible apply w_and)
      | (with_reducible refine And.intro True.intro ?_)
      | ((with_reducible apply a_lss); rfl; rfl)
      | ((with_reducible apply a_leq); rfl; rfl)
      | ((with_reducible apply a_gtr); rfl; rfl)
      | ((with_reducible apply a_geq); rfl; rfl)
      | ((with_reducible apply a_eql); rfl; rfl)
      | ((with_reducible apply a_neq); rfl; rfl)
      | ((with_reducible apply a_eqlS); rfl; rfl)
      | ((with_reducible apply a_neqS); rfl; rfl)
      | ((with_reducible apply a_eqlB); rfl; rfl)
      | ((with_reducible apply a_neqB); rfl; rfl)
      | ((with_reducible apply w_add); rfl; rfl; first | assumption | (unfold inI; omega))
      | ((with_reducible apply w_sub); rfl; rfl; first | assumption | (unfold inI; omega))
      | ((with_reducible apply a_not); rfl)
      | ((with_reducible apply w_pick_t); rfl)
      | ((with_reducible apply w_pick_f); rfl)
      | ((with_reducible apply a_cond1); rfl; first | rfl | assumption)
      | ((with_reducible apply a_cond0); rfl; first | rfl | assumption)
      | ((with_reducible apply a_guard1); rfl; first | rfl | assumption)
      | ((with_reducible apply a_guard0); rfl; first | rfl | assumption)
      | ((with_reducible apply w_guard_u); rfl)
      | ((with_reducible apply a_pick1); rfl; first | rfl | assumption)
      | ((with_reducible apply a_pick0); rfl; first | rfl | assumption)
      | ((with_reducible apply a_pickN); rfl)
      | ((with_reducible apply a_condN); rfl)
      | ((with_reducible apply a_guardN); rfl)
      | ((with_reducible apply w_fad); rfl)
      | ((with_reducible apply a_fadI); rfl)
      | ((with_reducible apply w_load); rfl; rfl; rfl)
      | ((with_reducible apply w_loadI); rfl)
      | ((with_reducible apply w_loadA); rfl; rfl; first | exact Nat.le_refl _ | exact Nat.le_of_ble_eq_true rfl)
      | ((with_reducible apply a_eqA); rfl; rfl; rfl)
      | ((with_reducible apply a_loadAI); rfl; first | rfl | simp)
      | ((with_reducible apply w_new); first | rfl | simp)
      | ((with_reducible apply a_store); rfl; rfl; rfl; rfl; (first | exact Nat.le_refl _ | simp); (first | rfl | simp); (first | rfl | simp))
      | ((with_reducible apply a_lenS); rfl; intro _)
      | ((with_reducible apply a_len); rfl; (first | rfl | simp); intro _)
      | ((with_reducible apply a_build); rfl)
      | ((with_reducible apply a_extr); rfl; rfl)
      | ((with_reducible apply a_cond); rfl)
      | ((with_reducible apply a_guard); rfl)
      | (with_reducible intro _))
    exact .pure (by simp) (by simp [h0])
  · have g0 : decide (w = []) = false := by simpa using h0
    by_cases h1 : w = n
    · have g1 : decide (w = n) = true := by simpa using h1
      repeat' (first
        | (with_reducible apply w_let)
        | (with_reducible apply w_and)
        | (with_reducible refine And.intro True.intro ?_)
        | ((with_reducible apply a_lss); rfl; rfl)
        | ((with_reducible apply a_leq); rfl; rfl)
        | ((with_reducible apply a_gtr); rfl; rfl)
        | ((with_reducible apply a_geq); rfl; rfl)
        | ((with_reducible apply a_eql); rfl; rfl)
        | ((with_reducible apply a_neq); rfl; rfl)
        | ((with_reducible apply a_eqlS); rfl; rfl)
        | ((with_reducible apply a_neqS); rfl; rfl)
        | ((with_reducible apply a_eqlB); rfl; rfl)
        | ((with_reducible apply a_neqB); rfl; rfl)
        | ((with_reducible apply w_add); rfl; rfl; first | assumption | (unfold inI; omega))
        | ((with_reducible apply w_sub); rfl; rfl; first | assumption | (unfold inI; omega))
        | ((with_reducible apply a_not); rfl)
        | ((with_reducible apply w_pick_t); rfl)
        | ((with_reducible apply w_pick_f); rfl)
        | ((with_reducible apply a_cond1); rfl; first | rfl | assumption)
        | ((with_reducible apply a_cond0); rfl; first | rfl | assumption)
        | ((with_reducible apply a_guard1); rfl; first | rfl | assumption)
        | ((with_reducible apply a_guard0); rfl; first | rfl | assumption)
        | ((with_reducible apply w_guard_u); rfl)
        | ((with_reducible apply a_pick1); rfl; first | rfl | assumption)
        | ((with_reducible apply a_pick0); rfl; first | rfl | assumption)
        | ((with_reducible apply a_pickN); rfl)
        | ((with_reducible apply a_condN); rfl)
        | ((with_reducible apply a_guardN); rfl)
        | ((with_reducible apply w_fad); rfl)
        | ((with_reducible apply a_fadI); rfl)
        | ((with_reducible apply w_load); rfl; rfl; rfl)
        | ((with_reducible apply w_loadI); rfl)
        | ((with_reducible apply w_loadA); rfl; rfl; first | exact Nat.le_refl _ | exact Nat.le_of_ble_eq_true rfl)
        | ((with_reducible apply a_eqA); rfl; rfl; rfl)
        | ((with_reducible apply a_loadAI); rfl; first | rfl | simp)
        | ((with_reducible apply w_new); first | rfl | simp)
        | ((with_reducible apply a_store); rfl; rfl; rfl; rfl; (first | exact Nat.le_refl _ | simp); (first | rfl | simp); (first | rfl | simp))
        | ((with_reducible apply a_lenS); rfl; intro _)
        | ((with_reducible apply a_len); rfl; (first | rfl | simp); intro _)
        | ((with_reducible apply a_build); rfl)
        | ((with_reducible apply a_extr); rfl; rfl)
        | ((with_reducible apply a_cond); rfl)
        | ((with_reducible apply a_guard); rfl)
        | (with_reducible intro _))
      exact .pure (by simp) (by simp [h0, h1]; intro h; simp [h1] at h0; exact absurd h h0)
    · have g1 : decide (w = n) = false := by simpa using h1
      have ll := lgs_len w
      unfold lgV at hL
      by_cases hl : lgs w = []
      · rw [if_pos hl] at hL
        repeat' (first
          | (with_reducible apply w_let)
          | (with_reducible apply w_and)
          | (with_reducible refine And.intro True.intro ?_)
          | ((with_reducible apply a_lss); rfl; rfl)
          | ((with_reducible apply a_leq); rfl; rfl)
          | ((with_reducible apply a_gtr); rfl; rfl)
          | ((with_reducible apply a_geq); rfl; rfl)
          | ((with_reducible apply a_eql); rfl; rfl)
          | ((with_reducible apply a_neq); rfl; rfl)
          | ((with_reducible apply a_eqlS); rfl; rfl)
          | ((with_reducible apply a_neqS); rfl; rfl)
          | ((with_reducible apply a_eqlB); rfl; rfl)
          | ((with_reducible apply a_neqB); rfl; rfl)
          | ((with_reducible apply w_add); rfl; rfl; first | assumption | (unfold inI; omega))
          | ((with_reducible apply w_sub); rfl; rfl; first | assumption | (unfold inI; omega))
          | ((with_reducible apply a_not); rfl)
          | ((with_reducible apply w_pick_t); rfl)
          | ((with_reducible apply w_pick_f); rfl)
          | ((with_reducible apply a_cond1); rfl; first | rfl | assumption)
          | ((with_reducible apply a_cond0); rfl; first | rfl | assumption)
          | ((with_reducible apply a_guard1); rfl; first | rfl | assumption)
          | ((with_reducible apply a_guard0); rfl; first | rfl | assumption)
          | ((with_reducible apply w_guard_u); rfl)
          | ((with_reducible apply a_pick1); rfl; first | rfl | assumption)
          | ((with_reducible apply a_pick0); rfl; first | rfl | assumption)
          | ((with_reducible apply a_pickN); rfl)
          | ((with_reducible apply a_condN); rfl)
          | ((with_reducible apply a_guardN); rfl)
          | ((with_reducible apply w_fad); rfl)
          | ((with_reducible apply a_fadI); rfl)
          | ((with_reducible apply w_load); rfl; rfl; rfl)
          | ((with_reducible apply w_loadI); rfl)
          | ((with_reducible apply w_loadA); rfl; rfl; first | exact Nat.le_refl _ | exact Nat.le_of_ble_eq_true rfl)
          | ((with_reducible apply a_eqA); rfl; rfl; rfl)
          | ((with_reducible apply a_loadAI); rfl; first | rfl | simp)
          | ((with_reducible apply w_new); first | rfl | simp)
          | ((with_reducible apply a_store); rfl; rfl; rfl; rfl; (first | exact Nat.le_refl _ | simp); (first | rfl | simp); (first | rfl | simp))
          | ((with_reducible apply a_lenS); rfl; intro _)
          | ((with_reducible apply a_len); rfl; (first | rfl | simp); intro _)
          | ((with_reducible apply a_build); rfl)
          | ((with_reducible apply a_extr); rfl; rfl)
          | (refine iCall_con (by kernel_rfl) (hL) ?_)
          | ((with_reducible apply a_cond); rfl)
          | ((with_reducible apply a_guard); rfl)
          | (with_reducible intro _))
        refine iLoop_of (α := Nat) (fun k => k = 0) (fun k => [int k]) (fun _ => [.blk ⟨24, [.str n, .sl 6 (encVs v), .str w], true⟩]) (fun k => k) 0 rfl (Wk.refl _ _ _ (by simp)) ?_
        rintro k rfl
        repeat' (first
          | (with_reducible apply w_let)
          | (with_reducible apply w_and)
          | (with_reducible refine And.intro True.intro ?_)
          | ((with_reducible apply a_lss); rfl; rfl)
          | ((with_reducible apply a_leq); rfl; rfl)
          | ((with_reducible apply a_gtr); rfl; rfl)
          | ((with_reducible apply a_geq); rfl; rfl)
          | ((with_reducible apply a_eql); rfl; rfl)
          | ((with_reducible apply a_neq); rfl; rfl)
          | ((with_reducible apply a_eqlS); rfl; rfl)
          | ((with_reducible apply a_neqS); rfl; rfl)
          | ((with_reducible apply a_eqlB); rfl; rfl)
          | ((with_reducible apply a_neqB); rfl; rfl)
          | ((with_reducible apply w_add); rfl; rfl; first | assumption | (unfold inI; omega))
          | ((with_reducible apply w_sub); rfl; rfl; first | assumption | (unfold inI; omega))
          | ((with_reducible apply a_not); rfl)
          | ((with_reducible apply w_pick_t); rfl)
          | ((with_reducible apply w_pick_f); rfl)
          | ((with_reducible apply a_cond1); rfl; first | rfl | assumption)
          | ((with_reducible apply a_cond0); rfl; first | rfl | assumption)
          | ((with_reducible apply a_guard1); rfl; first | rfl | assumption)
          | ((with_reducible apply a_guard0); rfl; first | rfl | assumption)
          | ((with_reducible apply w_guard_u); rfl)
          | ((with_reducible apply a_pick1); rfl; first | rfl | assumption)
          | ((with_reducible apply a_pick0); rfl; first | rfl | assumption)
          | ((with_reducible apply a_pickN); rfl)
          | ((with_reducible apply a_condN); rfl)
          | ((with_reducible apply a_guardN); rfl)
          | ((with_reducible apply w_fad); rfl)
          | ((with_reducible apply a_fadI); rfl)
          | ((with_reducible apply w_load); rfl; rfl; rfl)
          | ((with_reducible apply w_loadI); rfl)
          | ((with_reducible apply w_loadA); rfl; rfl; first | exact Nat.le_refl _ | exact Nat.le_of_ble_eq_true rfl)
          | ((with_reducible apply a_eqA); rfl; rfl; rfl)
          | ((with_reducible apply a_loadAI); rfl; first | rfl | simp)
          | ((with_reducible apply w_new); first | rfl | simp)
          | ((with_reducible apply a_store); rfl; rfl; rfl; rfl; (first | exact Nat.le_refl _ | simp); (first | rfl | simp); (first | rfl | simp))
          | ((with_reducible apply a_lenS); rfl; intro _)
          | ((with_reducible apply a_len); rfl; (first | rfl | simp); intro _)
          | ((with_reducible apply a_build); rfl)
          | ((with_reducible apply a_extr); rfl; rfl)
          | ((with_reducible apply a_cond); rfl)
          | ((with_reducible apply a_guard); rfl)
          | (with_reducible intro _))
        exact .pure (by simp) (by simp [h0, hl])
      · rw [if_neg hl] at hL
        have hlen : (encSt (lgs w)).length = (lgs w).length := by simp [encSt]
        repeat' (first
          | (with_reducible apply w_let)
          | (with_reducible apply w_and)
          | (with_reducible refine And.intro True.intro ?_)
          | ((with_reducible apply a_lss); rfl; rfl)
          | ((with_reducible apply a_leq); rfl; rfl)
          | ((with_reducible apply a_gtr); rfl; rfl)
          | ((with_reducible apply a_geq); rfl; rfl)
          | ((with_reducible apply a_eql); rfl; rfl)
          | ((with_reducible apply a_neq); rfl; rfl)
          | ((with_reducible apply a_eqlS); rfl; rfl)
          | ((with_reducible apply a_neqS); rfl; rfl)
          | ((with_reducible apply a_eqlB); rfl; rfl)
          | ((with_reducible apply a_neqB); rfl; rfl)
          | ((with_reducible apply w_add); rfl; rfl; first | assumption | (unfold inI; omega))
          | ((with_reducible apply w_sub); rfl; rfl; first | assumption | (unfold inI; omega))
          | ((with_reducible apply a_not); rfl)
          | ((with_reducible apply w_pick_t); rfl)
          | ((with_reducible apply w_pick_f); rfl)
          | ((with_reducible apply a_cond1); rfl; first | rfl | assumption)
          | ((with_reducible apply a_cond0); rfl; first | rfl | assumption)
          | ((with_reducible apply a_guard1); rfl; first | rfl | assumption)
          | ((with_reducible apply a_guard0); rfl; first | rfl | assumption)
          | ((with_reducible apply w_guard_u); rfl)
          | ((with_reducible apply a_pick1); rfl; first | rfl | assumption)
          | ((with_reducible apply a_pick0); rfl; first | rfl | assumption)
          | ((with_reducible apply a_pickN); rfl)
          | ((with_reducible apply a_condN); rfl)
          | ((with_reducible apply a_guardN); rfl)
          | ((with_reducible apply w_fad); rfl)
          | ((with_reducible apply a_fadI); rfl)
          | ((with_reducible apply w_load); rfl; rfl; rfl)
          | ((with_reducible apply w_loadI); rfl)
          | ((with_reducible apply w_loadA); rfl; rfl; first | exact Nat.le_refl _ | exact Nat.le_of_ble_eq_true rfl)
          | ((with_reducible apply a_eqA); rfl; rfl; rfl)
          | ((with_reducible apply a_loadAI); rfl; first | rfl | simp)
          | ((with_reducible apply w_new); first | rfl | simp)
          | ((with_reducible apply a_store); rfl; rfl; rfl; rfl; (first | exact Nat.le_refl _ | simp); (first | rfl | simp); (first | rfl | simp))
          | ((with_reducible apply a_lenS); rfl; intro _)
          | ((with_reducible apply a_len); rfl; (first | rfl | simp); intro _)
          | ((with_reducible apply a_build); rfl)
          | ((with_reducible apply a_extr); rfl; rfl)
          | (refine iCall_con (by kernel_rfl) (hL) ?_)
          | ((with_reducible apply a_cond); rfl)
          | ((with_reducible apply a_guard); rfl)
          | (with_reducible intro _))
        refine iLoop_of (α := Nat) (fun k => k ≤ (lgs w).length ∧ n ∉ (lgs w).take k) (fun k => [int k]) (fun _ => [.blk ⟨24, [.str n, .sl 6 (encVs v), .str w], true⟩]) (fun k => (lgs w).length - k) 0 (by simp) (Wk.refl _ _ _ (by simp)) ?_
        rintro k ⟨hk, hnot⟩
        rcases Nat.lt_or_ge k (lgs w).length with q | q
        · obtain ⟨s, hs⟩ : ∃ x, (lgs w)[k]? = some x := ⟨(lgs w)[k], List.getElem?_eq_getElem q⟩
          have q1 : decide ((k : Int) < (encSt (lgs w)).length) = true := by rw [hlen]; simpa using q
          have hin : inI ((k : Int) + 1) := by unfold inI; omega
          repeat' (first
            | (with_reducible apply w_let)
            | (with_reducible apply w_and)
            | (with_reducible refine And.intro True.intro ?_)
            | ((with_reducible apply a_lss); rfl; rfl)
            | ((with_reducible apply a_leq); rfl; rfl)
            | ((with_reducible apply a_gtr); rfl; rfl)
            | ((with_reducible apply a_geq); rfl; rfl)
            | ((with_reducible apply a_eql); rfl; rfl)
            | ((with_reducible apply a_neq); rfl; rfl)
            | ((with_reducible apply a_eqlS); rfl; rfl)
            | ((with_reducible apply a_neqS); rfl; rfl)
            | ((with_reducible apply a_eqlB); rfl; rfl)
            | ((with_reducible apply a_neqB); rfl; rfl)
            | ((with_reducible apply w_add); rfl; rfl; first | assumption | (unfold inI; omega))
            | ((with_reducible apply w_sub); rfl; rfl; first | assumption | (unfold inI; omega))
            | ((with_reducible apply a_not); rfl)
            | ((with_reducible apply w_pick_t); rfl)
            | ((with_reducible apply w_pick_f); rfl)
            | ((with_reducible apply a_cond1); rfl; first | rfl | assumption)
            | ((with_reducible apply a_cond0); rfl; first | rfl | assumption)
            | ((with_reducible apply a_guard1); rfl; first | rfl | assumption)
            | ((with_reducible apply a_guard0); rfl; first | rfl | assumption)
            | ((with_reducible apply w_guard_u); rfl)
            | ((with_reducible apply a_pick1); rfl; first | rfl | assumption)
            | ((with_reducible apply a_pick0); rfl; first | rfl | assumption)
            | ((with_reducible apply a_pickN); rfl)
            | ((with_reducible apply a_condN); rfl)
            | ((with_reducible apply a_guardN); rfl)
            | ((with_reducible apply w_fad); rfl)
            | ((with_reducible apply a_fadI); rfl)
            | ((with_reducible apply w_load); rfl; rfl; rfl)
            | ((with_reducible apply w_loadI); rfl)
            | ((with_reducible apply w_loadA); rfl; rfl; first | exact Nat.le_refl _ | exact Nat.le_of_ble_eq_true rfl)
            | ((with_reducible apply a_eqA); rfl; rfl; rfl)
            | ((with_reducible apply a_loadAI); rfl; first | rfl | simp)
            | ((with_reducible apply w_new); first | rfl | simp)
            | ((with_reducible apply a_store); rfl; rfl; rfl; rfl; (first | exact Nat.le_refl _ | simp); (first | rfl | simp); (first | rfl | simp))
            | ((with_reducible apply a_lenS); rfl; intro _)
            | ((with_reducible apply a_len); rfl; (first | rfl | simp); intro _)
            | ((with_reducible apply a_build); rfl)
            | ((with_reducible apply a_extr); rfl; rfl)
            | (refine a_idx (f := fun s => [.str s]) rfl rfl rfl hs ?_)
            | ((with_reducible apply a_cond); rfl)
            | ((with_reducible apply a_guard); rfl)
            | (with_reducible intro _))
          · rename_i hc
            refine .pure (by simp) ?_
            have hc : s = n := by simpa using hc
            have : n ∈ lgs w := by rw [← hc]; exact List.mem_of_getElem? hs
            simp [h0, h1, this]
          · rename_i hc
            have hc : s ≠ n := by simpa using hc
            exact ⟨k + 1, ⟨q, by rw [List.take_add_one, hs]; simp; exact ⟨hnot, fun h => hc h.symm⟩⟩, Wk.refl _ _ _ (by simp), by omega⟩
        · have hk : k = (lgs w).length := by omega
          subst hk
          rw [List.take_length] at hnot
          have q1 : decide (((lgs w).length : Int) < (encSt (lgs w)).length) = false := by rw [hlen]; simp
          repeat' (first
            | (with_reducible apply w_let)
            | (with_reducible apply w_and)
            | (with_reducible refine And.intro True.intro ?_)
            | ((with_reducible apply a_lss); rfl; rfl)
            | ((with_reducible apply a_leq); rfl; rfl)
            | ((with_reducible apply a_gtr); rfl; rfl)
            | ((with_reducible apply a_geq); rfl; rfl)
            | ((with_reducible apply a_eql); rfl; rfl)
            | ((with_reducible apply a_neq); rfl; rfl)
            | ((with_reducible apply a_eqlS); rfl; rfl)
            | ((with_reducible apply a_neqS); rfl; rfl)
            | ((with_reducible apply a_eqlB); rfl; rfl)
            | ((with_reducible apply a_neqB); rfl; rfl)
            | ((with_reducible apply w_add); rfl; rfl; first | assumption | (unfold inI; omega))
            | ((with_reducible apply w_sub); rfl; rfl; first | assumption | (unfold inI; omega))
            | ((with_reducible apply a_not); rfl)
            | ((with_reducible apply w_pick_t); rfl)
            | ((with_reducible apply w_pick_f); rfl)
            | ((with_reducible apply a_cond1); rfl; first | rfl | assumption)
            | ((with_reducible apply a_cond0); rfl; first | rfl | assumption)
            | ((with_reducible apply a_guard1); rfl; first | rfl | assumption)
            | ((with_reducible apply a_guard0); rfl; first | rfl | assumption)
            | ((with_reducible apply w_guard_u); rfl)
            | ((with_reducible apply a_pick1); rfl; first | rfl | assumption)
            | ((with_reducible apply a_pick0); rfl; first | rfl | assumption)
            | ((with_reducible apply a_pickN); rfl)
            | ((with_reducible apply a_condN); rfl)
            | ((with_reducible apply a_guardN); rfl)
            | ((with_reducible apply w_fad); rfl)
            | ((with_reducible apply a_fadI); rfl)
            | ((with_reducible apply w_load); rfl; rfl; rfl)
            | ((with_reducible apply w_loadI); rfl)
            | ((with_reducible apply w_loadA); rfl; rfl; first | exact Nat.le_refl _ | exact Nat.le_of_ble_eq_true rfl)
            | ((with_reducible apply a_eqA); rfl; rfl; rfl)
            | ((with_reducible apply a_loadAI); rfl; first | rfl | simp)
            | ((with_reducible apply w_new); first | rfl | simp)
            | ((with_reducible apply a_store); rfl; rfl; rfl; rfl; (first | exact Nat.le_refl _ | simp); (first | rfl | simp); (first | rfl | simp))
            | ((with_reducible apply a_lenS); rfl; intro _)
            | ((with_reducible apply a_len); rfl; (first | rfl | simp); intro _)
            | ((with_reducible apply a_build); rfl)
            | ((with_reducible apply a_extr); rfl; rfl)
            | ((with_reducible apply a_cond); rfl)
            | ((with_reducible apply a_guard); rfl)
            | (with_reducible intro _))
          exact .pure (by simp) (by simp [h0, h1, hnot])
end Go.Proofs.YtlapkmobmgffoaaDoor
