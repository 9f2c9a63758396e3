/-
  Names of properties: found, inherited; names of shorthands; by either way.
  No conditions: contracts.
-/
import Derived.Test.YtlapkmobmgffoaaDoorTabB
import Derived.Test.YtlapkmobmgffoaaDoorWSrt
import Derived.Test.YtlapkmobmgffoaaDoorAuto
set_option linter.unusedVariables false
set_option linter.unusedSimpArgs false
namespace Go.Proofs.YtlapkmobmgffoaaDoor
open Go Go.Aw
set_option maxRecDepth 1000000
abbrev Str := List UInt8
abbrev Pr := Str × Bool × List AV
def splitRow (r : List AV) : Pr := match r with | .str s :: .v (.bool b) :: r => (s, b, r) | _ => ([], false, [])
def encPr (p : Pr) : List AV := .str p.1 :: bool p.2.1 :: p.2.2
def nmP : List Pr := tabP.map splitRow
def nmR : List Pr := tabR.map splitRow
theorem tabP_eq : tabP = nmP.map encPr := rfl
theorem tabR_eq : tabR = nmR.map encPr := rfl
def nm : List (Str × Bool) := nmR.map fun p => (p.1, p.2.1)
theorem nm_P : nmP.map (fun p => (p.1, p.2.1)) = nm := rfl
theorem nmP_len : nmP.length = 18 := rfl
theorem nmR_len : nmR.length = 18 := rfl
theorem nm_len : nm.length = 18 := rfl
theorem encPr_len (p : Pr) : (encPr p).length = p.2.2.length + 2 := rfl
theorem encP_ok : ∀ p ∈ nmP, (encPr p).length = 12 ∧ (encPr p).all scal = true := by
  have : (nmP.all fun p => Nat.beq (encPr p).length 12 && (encPr p).all scal) = true := rfl
  intro p hp
  have := List.all_eq_true.1 this p hp
  rw [Bool.and_eq_true] at this
  exact ⟨Nat.eq_of_beq_eq_true this.1, this.2⟩
theorem tabP_pure : PureR tabP := by simp [tabP]
theorem tabR_pure : PureR tabR := by simp [tabR]
/-- The first with a name, from some number on. -/
def findN (s : Str) : List (Str × Bool) → Nat → Option Nat
  | [], _ => none
  | p :: l, k => if p.1 = s then some k else findN s l (k + 1)
theorem findN_drop {s : Str} {l : List (Str × Bool)} {k : Nat} {p : Str × Bool} (h : l[k]? = some p) (n : Nat) : findN s (l.drop k) n = if p.1 = s then some n else findN s (l.drop (k + 1)) (n + 1) := by
  have hk := (List.getElem?_eq_some_iff.1 h).1
  rw [List.drop_eq_getElem_cons hk, findN, (List.getElem?_eq_some_iff.1 h).2]
theorem findN_spec {s : Str} : ∀ (l : List (Str × Bool)) (k n : Nat), findN s l k = some n → k ≤ n ∧ n < k + l.length
  | [], k, n, h => by cases h
  | p :: l, k, n, h => by
    rw [findN] at h
    rw [List.length_cons]
    split at h
    · cases h; omega
    · have := findN_spec l (k + 1) n h; omega
def findS (s : Str) : Option Nat := findN s nm 0
theorem nmR_nm {k : Nat} {p : Pr} (h : nmR[k]? = some p) : nm[k]? = some (p.1, p.2.1) := by unfold nm; rw [List.getElem?_map, h]; rfl
theorem nmP_nm {k : Nat} {p : Pr} (h : nmP[k]? = some p) : nm[k]? = some (p.1, p.2.1) := by rw [← nm_P, List.getElem?_map, h]; rfl
def findV (s : Str) : AV := match findS s with | some n => .tup [int n, int 0] | none => .tup [int 0, int 6]
theorem con_rFind (s : Str) : Con Tryd.prog 67 [.str s] (findV s) := by
  refine (V67 _).gives (by simp) (by unfold findV; split <;> simp) ?_
  unfold W67
  refine w_call rfl (by kernel_rfl) con_rTable ?_
  refine iLoop_of (α := Nat) (fun k => k ≤ 18 ∧ findS s = findN s (nm.drop k) k) (fun k => [int k]) (fun _ => []) (fun k => 18 - k) 0 (by simp [findS]) (Wk.refl _ _ _ (by simp)) ?_
  rintro k ⟨hk, hf⟩
  refine a_len (n := 18) rfl rfl fun _ => ?_
  refine a_lss rfl rfl ?_
  rcases Nat.lt_or_ge k 18 with q | q
  · obtain ⟨p, hp⟩ : ∃ p, nmR[k]? = some p := ⟨nmR[k]'(by rw [nmR_len]; exact q), List.getElem?_eq_getElem (by rw [nmR_len]; exact q)⟩
    have e := findN_drop (s := s) (nmR_nm hp) k
    refine a_cond1 rfl (by simp; omega) ?_
    refine a_idx rfl tabR_eq rfl hp ?_
    refine a_fadI rfl ?_
    refine w_loadI rfl ?_
    refine a_eqlS rfl rfl ?_
    refine a_cond rfl (fun hc => ?_) (fun hc => ?_)
    · refine .pure (by simp) ?_
      rw [if_pos (by simpa using hc)] at e
      unfold findV
      rw [hf, e]; rfl
    · refine w_add rfl rfl (by unfold inI; omega) ?_
      refine w_and ?_
      rw [if_neg (by simpa using hc)] at e
      exact ⟨k + 1, ⟨by omega, by rw [hf, e]⟩, Wk.refl _ _ _ (by simp), by omega⟩
  · obtain rfl : k = 18 := by omega
    refine a_cond0 rfl (by simp) ?_
    refine .pure (by simp) ?_
    unfold findV
    rw [hf]; rfl
theorem step_closure (p : Pr) (hp : (encPr p).all scal = true) (s : Str) {K : AV → Heap → Prop} (k : K (bool (decide (p.1 = s))) [.blk ⟨9, [.str s], true⟩]) :
    iCall Tryd.prog (.fn (.func 85) [] [.op 0 0]) [.agg (encPr p)] [.blk ⟨9, [.str s], true⟩] K := by
  refine ⟨by kernel_rfl, ?_⟩
  simp only [List.nil_append, List.cons_append]
  refine (V85 _ _).acall ?_
  unfold W85
  refine w_new hp ?_
  refine w_fad rfl ?_
  refine w_load rfl rfl rfl ?_
  refine w_load rfl rfl rfl ?_
  refine a_eqlS rfl rfl ?_
  exact ⟨_, _, Wk.back (n := 1) (M := 1) (by simp) (by simp) rfl rfl (by simp [entB, BdL, Bd]) (by simp [Bd]), k⟩
theorem step_index (s : Str) {K : AV → Heap → Prop} (kk : K (int (match findS s with | some n => (n : Int) | none => -1)) [.blk ⟨9, [.str s], true⟩]) :
    iCall Tryd.prog (.fn (.func 84) [] []) [.sl 12 tabP, .fn (.func 85) [] [.op 0 0]] [.blk ⟨9, [.str s], true⟩] K := by
  refine ⟨by kernel_rfl, ?_⟩
  simp only [List.nil_append, List.append_nil]
  refine (V84 _ _).acall ?_
  unfold W84
  refine a_len (n := 18) rfl rfl fun _ => ?_
  refine iLoop_of (α := Nat) (fun k => k ≤ 18 ∧ findS s = findN s (nm.drop k) k) (fun k => [int k]) (fun _ => [.blk ⟨9, [.str s], true⟩]) (fun k => 18 - k) 0 (by simp [findS]) (Wk.refl _ _ _ (by simp)) ?_
  rintro k ⟨hk, hf⟩
  refine a_lss rfl rfl ?_
  rcases Nat.lt_or_ge k 18 with q | q
  · obtain ⟨p, hp⟩ : ∃ p, nmP[k]? = some p := ⟨nmP[k]'(by rw [nmP_len]; exact q), List.getElem?_eq_getElem (by rw [nmP_len]; exact q)⟩
    have e := findN_drop (s := s) (nmP_nm hp) k
    obtain ⟨o1, o2⟩ := encP_ok p (List.mem_of_getElem? hp)
    refine a_cond1 rfl (by simp; omega) ?_
    refine a_idx rfl tabP_eq rfl hp ?_
    refine a_loadAI rfl o1 ?_
    refine step_closure p o2 s ?_
    refine a_cond rfl (fun hc => ?_) (fun hc => ?_)
    · rw [if_pos (by simpa using hc)] at e
      refine ⟨_, _, Wk.refl _ _ _ (by simp), ?_⟩
      rw [hf, e] at kk
      exact kk
    · refine w_add rfl rfl (by unfold inI; omega) ?_
      refine w_and ?_
      rw [if_neg (by simpa using hc)] at e
      exact ⟨k + 1, ⟨by omega, by rw [hf, e]⟩, Wk.refl _ _ _ (by simp), by omega⟩
  · obtain rfl : k = 18 := by omega
    refine a_cond0 rfl (by simp) ?_
    refine ⟨_, _, Wk.refl _ _ _ (by simp), ?_⟩
    rw [hf] at kk
    exact kk
theorem con_Find (s : Str) : Con Tryd.prog 61 [.str s] (findV s) := by
  refine (V61 _).gives (by simp) (by unfold findV; split <;> simp) ?_
  unfold W61
  refine w_new (by simp) ?_
  refine w_call rfl (by kernel_rfl) con_Table ?_
  refine step_index s ?_
  unfold findV
  cases findS s with
  | none =>
    refine a_lss rfl rfl ?_
    refine a_cond1 rfl rfl ?_
    exact .pure (by simp) rfl
  | some n =>
    refine a_lss rfl rfl ?_
    refine a_cond0 rfl (by simp) ?_
    exact .pure (by simp) rfl
/-! ### Custom names -/
def customS (s : Str) : Bool := decide (2 < s.length) && decide (s.length ≤ 64) && decide (s.take 2 = [45, 45])
theorem a_slP {n : Nat} {x v : AV} {l : List UInt8} {K : AV → Prop} (ex : x = .str l) (ev : v = int (n : Int)) (hn : n ≤ l.length) (q : K (.str (l.take n))) : iSlS x none (some v) K := by
  subst ex; subst ev
  refine ⟨⟨by omega, by omega, by omega⟩, ?_⟩
  simpa using q
theorem con_prefix (s : Str) : Con Tryd.prog 83 [.str s, .str [45, 45]] (bool (decide (s.take 2 = [45, 45]))) := by
  have h0 : Con Tryd.prog 109 [.str s, .str [45, 45]] (bool (decide (s.take 2 = [45, 45]))) := by
    refine (V109 _ _).gives (by simp) (by simp) ?_
    unfold W109
    repeat' (first
      | (with_reducible apply w_let)
      | (with_reducible apply w_and)
      | (with_reducible refine And.intro True.intro ?_)
      | ((with_reducible apply a_lss); rfl; rfl)
      | ((with_reducible apply a_leq); rfl; rfl)
      | ((with_reducible apply a_gtr); rfl; rfl)
      | ((with_reducible apply a_geq); rfl; rfl)
      | ((with_reducible apply a_eql); rfl; rfl)
      | ((with_reducible apply a_neq); rfl; rfl)
      | ((with_reducible apply a_eqlS); rfl; rfl)
      | ((with_reducible apply a_neqS); rfl; rfl)
      | ((with_reducible apply a_eqlB); rfl; rfl)
      | ((with_reducible apply a_neqB); rfl; rfl)
      | ((with_reducible apply w_add); rfl; rfl; first | assumption | (unfold inI; omega))
      | ((with_reducible apply w_sub); rfl; rfl; first | assumption | (unfold inI; omega))
      | ((with_reducible apply a_not); rfl)
      | ((with_reducible apply w_pick_t); rfl)
      | ((with_reducible apply w_pick_f); rfl)
      | ((with_reducible apply a_cond1); rfl; first | rfl | assumption)
      | ((with_reducible apply a_cond0); rfl; first | rfl | assumption)
      | ((with_reducible apply a_guard1); rfl; first | rfl | assumption)
      | ((with_reducible apply a_guard0); rfl; first | rfl | assumption)
      | ((with_reducible apply w_guard_u); rfl)
      | ((with_reducible apply a_pick1); rfl; first | rfl | assumption)
      | ((with_reducible apply a_pick0); rfl; first | rfl | assumption)
      | ((with_reducible apply a_pickN); rfl)
      | ((with_reducible apply a_condN); rfl)
      | ((with_reducible apply a_guardN); rfl)
      | ((with_reducible apply w_fad); rfl)
      | ((with_reducible apply a_fadI); rfl)
      | ((with_reducible apply w_load); rfl; rfl; rfl)
      | ((with_reducible apply w_loadI); rfl)
      | ((with_reducible apply w_loadA); rfl; rfl; first | exact Nat.le_refl _ | exact Nat.le_of_ble_eq_true rfl)
      | ((with_reducible apply a_eqA); rfl; rfl; rfl)
      | ((with_reducible apply a_loadAI); rfl; first | rfl | simp)
      | ((with_reducible apply w_new); first | rfl | simp)
      | ((with_reducible apply a_store); rfl; rfl; rfl; rfl; (first | exact Nat.le_refl _ | simp); (first | rfl | simp); (first | rfl | simp))
      | ((with_reducible apply a_lenS); rfl; intro _)
      | ((with_reducible apply a_len); rfl; (first | rfl | simp); intro _)
      | ((with_reducible apply a_build); rfl)
      | ((with_reducible apply a_extr); rfl; rfl)
      | (refine a_slP (n := 2) rfl rfl (by first | (simp at *; done) | (simp at *; omega)) ?_)
      | ((with_reducible apply a_cond); rfl)
      | ((with_reducible apply a_guard); rfl)
      | (with_reducible intro _))
    all_goals
      refine .pure (by simp) ?_
      simp only [nx_zero, nx_one, AV.v.injEq, Value.bool.injEq]
      all_goals (try grind)
  refine (V83 _ _).gives (by simp) (by simp) ?_
  unfold W83
  refine w_call rfl (by kernel_rfl) h0 ?_
  exact .pure (by simp) rfl
theorem con_Custom (s : Str) : Con Tryd.prog 60 [.str s] (bool (customS s)) := by
  refine (V60 _).gives (by simp) (by simp) ?_
  unfold W60
  repeat' (first
    | (with_reducible apply w_let)
    | (with_reducible apply w_and)
    | (with_reducible refine And.intro True.intro ?_)
    | ((with_reducible apply a_lss); rfl; rfl)
    | ((with_reducible apply a_leq); rfl; rfl)
    | ((with_reducible apply a_gtr); rfl; rfl)
    | ((with_reducible apply a_geq); rfl; rfl)
    | ((with_reducible apply a_eql); rfl; rfl)
    | ((with_reducible apply a_neq); rfl; rfl)
    | ((with_reducible apply a_eqlS); rfl; rfl)
    | ((with_reducible apply a_neqS); rfl; rfl)
    | ((with_reducible apply a_eqlB); rfl; rfl)
    | ((with_reducible apply a_neqB); rfl; rfl)
    | ((with_reducible apply w_add); rfl; rfl; first | assumption | (unfold inI; omega))
    | ((with_reducible apply w_sub); rfl; rfl; first | assumption | (unfold inI; omega))
    | ((with_reducible apply a_not); rfl)
    | ((with_reducible apply w_pick_t); rfl)
    | ((with_reducible apply w_pick_f); rfl)
    | ((with_reducible apply a_cond1); rfl; first | rfl | assumption)
    | ((with_reducible apply a_cond0); rfl; first | rfl | assumption)
    | ((with_reducible apply a_guard1); rfl; first | rfl | assumption)
    | ((with_reducible apply a_guard0); rfl; first | rfl | assumption)
    | ((with_reducible apply w_guard_u); rfl)
    | ((with_reducible apply a_pick1); rfl; first | rfl | assumption)
    | ((with_reducible apply a_pick0); rfl; first | rfl | assumption)
    | ((with_reducible apply a_pickN); rfl)
    | ((with_reducible apply a_condN); rfl)
    | ((with_reducible apply a_guardN); rfl)
    | ((with_reducible apply w_fad); rfl)
    | ((with_reducible apply a_fadI); rfl)
    | ((with_reducible apply w_load); rfl; rfl; rfl)
    | ((with_reducible apply w_loadI); rfl)
    | ((with_reducible apply w_loadA); rfl; rfl; first | exact Nat.le_refl _ | exact Nat.le_of_ble_eq_true rfl)
    | ((with_reducible apply a_eqA); rfl; rfl; rfl)
    | ((with_reducible apply a_loadAI); rfl; first | rfl | simp)
    | ((with_reducible apply w_new); first | rfl | simp)
    | ((with_reducible apply a_store); rfl; rfl; rfl; rfl; (first | exact Nat.le_refl _ | simp); (first | rfl | simp); (first | rfl | simp))
    | ((with_reducible apply a_lenS); rfl; intro _)
    | ((with_reducible apply a_len); rfl; (first | rfl | simp); intro _)
    | ((with_reducible apply a_build); rfl)
    | ((with_reducible apply a_extr); rfl; rfl)
    | (refine iCall_con (by kernel_rfl) (con_prefix s) ?_)
    | ((with_reducible apply a_cond); rfl)
    | ((with_reducible apply a_guard); rfl)
    | (with_reducible intro _))
  all_goals
    refine .pure (by simp) ?_
    simp only [nx_zero, nx_one, AV.v.injEq, Value.bool.injEq, customS]
    grind
theorem con_rCustom (s : Str) : Con Tryd.prog 66 [.str s] (bool (customS s)) := by
  refine (V66 _).gives (by simp) (by simp) ?_
  unfold W66
  repeat' (first
    | (with_reducible apply w_let)
    | (with_reducible apply w_and)
    | (with_reducible refine And.intro True.intro ?_)
    | ((with_reducible apply a_lss); rfl; rfl)
    | ((with_reducible apply a_leq); rfl; rfl)
    | ((with_reducible apply a_gtr); rfl; rfl)
    | ((with_reducible apply a_geq); rfl; rfl)
    | ((with_reducible apply a_eql); rfl; rfl)
    | ((with_reducible apply a_neq); rfl; rfl)
    | ((with_reducible apply a_eqlS); rfl; rfl)
    | ((with_reducible apply a_neqS); rfl; rfl)
    | ((with_reducible apply a_eqlB); rfl; rfl)
    | ((with_reducible apply a_neqB); rfl; rfl)
    | ((with_reducible apply w_add); rfl; rfl; first | assumption | (unfold inI; omega))
    | ((with_reducible apply w_sub); rfl; rfl; first | assumption | (unfold inI; omega))
    | ((with_reducible apply a_not); rfl)
    | ((with_reducible apply w_pick_t); rfl)
    | ((with_reducible apply w_pick_f); rfl)
    | ((with_reducible apply a_cond1); rfl; first | rfl | assumption)
    | ((with_reducible apply a_cond0); rfl; first | rfl | assumption)
    | ((with_reducible apply a_guard1); rfl; first | rfl | assumption)
    | ((with_reducible apply a_guard0); rfl; first | rfl | assumption)
    | ((with_reducible apply w_guard_u); rfl)
    | ((with_reducible apply a_pick1); rfl; first | rfl | assumption)
    | ((with_reducible apply a_pick0); rfl; first | rfl | assumption)
    | ((with_reducible apply a_pickN); rfl)
    | ((with_reducible apply a_condN); rfl)
    | ((with_reducible apply a_guardN); rfl)
    | ((with_reducible apply w_fad); rfl)
    | ((with_reducible apply a_fadI); rfl)
    | ((with_reducible apply w_load); rfl; rfl; rfl)
    | ((with_reducible apply w_loadI); rfl)
    | ((with_reducible apply w_loadA); rfl; rfl; first | exact Nat.le_refl _ | exact Nat.le_of_ble_eq_true rfl)
    | ((with_reducible apply a_eqA); rfl; rfl; rfl)
    | ((with_reducible apply a_loadAI); rfl; first | rfl | simp)
    | ((with_reducible apply w_new); first | rfl | simp)
    | ((with_reducible apply a_store); rfl; rfl; rfl; rfl; (first | exact Nat.le_refl _ | simp); (first | rfl | simp); (first | rfl | simp))
    | ((with_reducible apply a_lenS); rfl; intro _)
    | ((with_reducible apply a_len); rfl; (first | rfl | simp); intro _)
    | ((with_reducible apply a_build); rfl)
    | ((with_reducible apply a_extr); rfl; rfl)
    | (refine a_slP (n := 2) rfl rfl (by first | (simp at *; done) | (simp at *; omega)) ?_)
    | ((with_reducible apply a_cond); rfl)
    | ((with_reducible apply a_guard); rfl)
    | (with_reducible intro _))
  all_goals
    refine .pure (by simp) ?_
    simp only [nx_zero, nx_one, AV.v.injEq, Value.bool.injEq, customS]
    grind
end Go.Proofs.YtlapkmobmgffoaaDoor
