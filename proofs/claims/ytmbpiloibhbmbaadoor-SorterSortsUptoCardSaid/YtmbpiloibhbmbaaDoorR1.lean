/-
  Names of properties: found, inherited; names of shorthands; by either way. Longhands of shorthands, by either way. Longhands of a name; declarations as plain data; checked by either way.
  No conditions.
-/
import Derived.Test.YtmbpiloibhbmbaaDoorT1
import Derived.Test.YtmbpiloibhbmbaaDoorWSrt
import Derived.Test.YtmbpiloibhbmbaaDoorAuto
import Derived.Test.YtmbpiloibhbmbaaDoorN1
set_option linter.unusedVariables false
set_option linter.unusedSimpArgs false
section
namespace Go.Proofs.YtmbpiloibhbmbaaDoor
open Go Go.Aw
set_option maxRecDepth 1000000
abbrev Str := List UInt8
abbrev Pr := Str × Bool × List AV
def splitRow (r : List AV) : Pr := match r with | .str s :: .v (.bool b) :: r => (s, b, r) | _ => ([], false, [])
def encPr (p : Pr) : List AV := .str p.1 :: bool p.2.1 :: p.2.2
def nmP : List Pr := tabP.map splitRow
def nmR : List Pr := tabR.map splitRow
theorem tabP_eq : tabP = nmP.map encPr := rfl
theorem tabR_eq : tabR = nmR.map encPr := rfl
def nm : List (Str × Bool) := nmR.map fun p => (p.1, p.2.1)
theorem nm_P : nmP.map (fun p => (p.1, p.2.1)) = nm := rfl
theorem nmP_len : nmP.length = 18 := rfl
theorem nmR_len : nmR.length = 18 := rfl
theorem nm_len : nm.length = 18 := rfl
theorem encPr_len (p : Pr) : (encPr p).length = p.2.2.length + 2 := rfl
theorem encP_ok : ∀ p ∈ nmP, (encPr p).length = 12 ∧ (encPr p).all scal = true := by
  have : (nmP.all fun p => Nat.beq (encPr p).length 12 && (encPr p).all scal) = true := rfl
  intro p hp
  have := List.all_eq_true.1 this p hp
  rw [Bool.and_eq_true] at this
  exact ⟨Nat.eq_of_beq_eq_true this.1, this.2⟩
theorem tabP_pure : PureR tabP := by simp [tabP]
theorem tabR_pure : PureR tabR := by simp [tabR]
/-- The first with a name, from some number on. -/
def findN (s : Str) : List (Str × Bool) → Nat → Option Nat
  | [], _ => none
  | p :: l, k => if p.1 = s then some k else findN s l (k + 1)
theorem findN_drop {s : Str} {l : List (Str × Bool)} {k : Nat} {p : Str × Bool} (h : l[k]? = some p) (n : Nat) : findN s (l.drop k) n = if p.1 = s then some n else findN s (l.drop (k + 1)) (n + 1) := by
  have hk := (List.getElem?_eq_some_iff.1 h).1
  rw [List.drop_eq_getElem_cons hk, findN, (List.getElem?_eq_some_iff.1 h).2]
theorem findN_spec {s : Str} : ∀ (l : List (Str × Bool)) (k n : Nat), findN s l k = some n → k ≤ n ∧ n < k + l.length
  | [], k, n, h => by cases h
  | p :: l, k, n, h => by
    rw [findN] at h
    rw [List.length_cons]
    split at h
    · cases h; omega
    · have := findN_spec l (k + 1) n h; omega
def findS (s : Str) : Option Nat := findN s nm 0
theorem nmR_nm {k : Nat} {p : Pr} (h : nmR[k]? = some p) : nm[k]? = some (p.1, p.2.1) := by unfold nm; rw [List.getElem?_map, h]; rfl
theorem nmP_nm {k : Nat} {p : Pr} (h : nmP[k]? = some p) : nm[k]? = some (p.1, p.2.1) := by rw [← nm_P, List.getElem?_map, h]; rfl
def findV (s : Str) : AV := match findS s with | some n => .tup [int n, int 0] | none => .tup [int 0, int 6]
theorem con_rFind (s : Str) : Con Tryd.prog 54 [.str s] (findV s) := by
  refine (V54 _).gives (by simp) (by unfold findV; split <;> simp) ?_
  unfold W54
  refine w_call rfl (by kernel_rfl) con_rTable ?_
  refine iLoop_of (α := Nat) (fun k => k ≤ 18 ∧ findS s = findN s (nm.drop k) k) (fun k => [int k]) (fun _ => []) (fun k => 18 - k) 0 (by simp [findS]) (Wk.refl _ _ _ (by simp)) ?_
  rintro k ⟨hk, hf⟩
  refine a_len (n := 18) rfl rfl fun _ => ?_
  refine a_lss rfl rfl ?_
  rcases Nat.lt_or_ge k 18 with q | q
  · obtain ⟨p, hp⟩ : ∃ p, nmR[k]? = some p := ⟨nmR[k]'(by rw [nmR_len]; exact q), List.getElem?_eq_getElem (by rw [nmR_len]; exact q)⟩
    have e := findN_drop (s := s) (nmR_nm hp) k
    refine a_cond1 rfl (by simp; omega) ?_
    refine a_idx rfl tabR_eq rfl hp ?_
    refine a_fadI rfl ?_
    refine w_loadI rfl ?_
    refine a_eqlS rfl rfl ?_
    refine a_cond rfl (fun hc => ?_) (fun hc => ?_)
    · refine .pure (by simp) ?_
      rw [if_pos (by simpa using hc)] at e
      unfold findV
      rw [hf, e]; rfl
    · refine w_add rfl rfl (by unfold inI; omega) ?_
      refine w_and ?_
      rw [if_neg (by simpa using hc)] at e
      exact ⟨k + 1, ⟨by omega, by rw [hf, e]⟩, Wk.refl _ _ _ (by simp), by omega⟩
  · obtain rfl : k = 18 := by omega
    refine a_cond0 rfl (by simp) ?_
    refine .pure (by simp) ?_
    unfold findV
    rw [hf]; rfl
theorem step_closure (p : Pr) (hp : (encPr p).all scal = true) (s : Str) {K : AV → Heap → Prop} (k : K (bool (decide (p.1 = s))) [.blk ⟨9, [.str s], true⟩]) :
    iCall Tryd.prog (.fn (.func 61) [] [.op 0 0]) [.agg (encPr p)] [.blk ⟨9, [.str s], true⟩] K := by
  refine ⟨by kernel_rfl, ?_⟩
  simp only [List.nil_append, List.cons_append]
  refine (V61 _ _).acall ?_
  unfold W61
  refine w_new hp ?_
  refine w_fad rfl ?_
  refine w_load rfl rfl rfl ?_
  refine w_load rfl rfl rfl ?_
  refine a_eqlS rfl rfl ?_
  exact ⟨_, _, Wk.back (n := 1) (M := 1) (by simp) (by simp) rfl rfl (by simp [entB, BdL, Bd]) (by simp [Bd]), k⟩
theorem step_index (s : Str) {K : AV → Heap → Prop} (kk : K (int (match findS s with | some n => (n : Int) | none => -1)) [.blk ⟨9, [.str s], true⟩]) :
    iCall Tryd.prog (.fn (.func 60) [] []) [.sl 12 tabP, .fn (.func 61) [] [.op 0 0]] [.blk ⟨9, [.str s], true⟩] K := by
  refine ⟨by kernel_rfl, ?_⟩
  simp only [List.nil_append, List.append_nil]
  refine (V60 _ _).acall ?_
  unfold W60
  refine a_len (n := 18) rfl rfl fun _ => ?_
  refine iLoop_of (α := Nat) (fun k => k ≤ 18 ∧ findS s = findN s (nm.drop k) k) (fun k => [int k]) (fun _ => [.blk ⟨9, [.str s], true⟩]) (fun k => 18 - k) 0 (by simp [findS]) (Wk.refl _ _ _ (by simp)) ?_
  rintro k ⟨hk, hf⟩
  refine a_lss rfl rfl ?_
  rcases Nat.lt_or_ge k 18 with q | q
  · obtain ⟨p, hp⟩ : ∃ p, nmP[k]? = some p := ⟨nmP[k]'(by rw [nmP_len]; exact q), List.getElem?_eq_getElem (by rw [nmP_len]; exact q)⟩
    have e := findN_drop (s := s) (nmP_nm hp) k
    obtain ⟨o1, o2⟩ := encP_ok p (List.mem_of_getElem? hp)
    refine a_cond1 rfl (by simp; omega) ?_
    refine a_idx rfl tabP_eq rfl hp ?_
    refine a_loadAI rfl o1 ?_
    refine step_closure p o2 s ?_
    refine a_cond rfl (fun hc => ?_) (fun hc => ?_)
    · rw [if_pos (by simpa using hc)] at e
      refine ⟨_, _, Wk.refl _ _ _ (by simp), ?_⟩
      rw [hf, e] at kk
      exact kk
    · refine w_add rfl rfl (by unfold inI; omega) ?_
      refine w_and ?_
      rw [if_neg (by simpa using hc)] at e
      exact ⟨k + 1, ⟨by omega, by rw [hf, e]⟩, Wk.refl _ _ _ (by simp), by omega⟩
  · obtain rfl : k = 18 := by omega
    refine a_cond0 rfl (by simp) ?_
    refine ⟨_, _, Wk.refl _ _ _ (by simp), ?_⟩
    rw [hf] at kk
    exact kk
theorem con_Find (s : Str) : Con Tryd.prog 46 [.str s] (findV s) := by
  refine (V46 _).gives (by simp) (by unfold findV; split <;> simp) ?_
  unfold W46
  refine w_new (by simp) ?_
  refine w_call rfl (by kernel_rfl) con_Table ?_
  refine step_index s ?_
  unfold findV
  cases findS s with
  | none =>
    refine a_lss rfl rfl ?_
    refine a_cond1 rfl rfl ?_
    exact .pure (by simp) rfl
  | some n =>
    refine a_lss rfl rfl ?_
    refine a_cond0 rfl (by simp) ?_
    exact .pure (by simp) rfl
/-! ### Custom names -/
def customS (s : Str) : Bool := decide (2 < s.length) && decide (s.length ≤ 64) && decide (s.take 2 = [45, 45])
theorem a_slP {n : Nat} {x v : AV} {l : List UInt8} {K : AV → Prop} (ex : x = .str l) (ev : v = int (n : Int)) (hn : n ≤ l.length) (q : K (.str (l.take n))) : iSlS x none (some v) K := by
  subst ex; subst ev
  refine ⟨⟨by omega, by omega, by omega⟩, ?_⟩
  simpa using q
theorem con_prefix (s : Str) : Con Tryd.prog 59 [.str s, .str [45, 45]] (bool (decide (s.take 2 = [45, 45]))) := by
  have h0 : Con Tryd.prog 72 [.str s, .str [45, 45]] (bool (decide (s.take 2 = [45, 45]))) := by
    refine (V72 _ _).gives (by simp) (by simp) ?_
    unfold W72
    repeat' (first | (with_reducible first | apply w_let | apply w_and | refine And.intro True.intro ?_) | ((with_reducible first | apply a_lss | apply a_leq | apply a_gtr | apply a_geq | apply a_eql | apply a_neq); rfl; rfl) | ((with_reducible first | apply a_eqlS | apply a_neqS | apply a_eqlB | apply a_neqB); rfl; rfl) | ((with_reducible apply w_add); rfl; rfl; first | assumption | (unfold inI; omega)) | ((with_reducible apply w_sub); rfl; rfl; first | assumption | (unfold inI; omega)) | ((with_reducible apply a_not); rfl) | ((with_reducible apply w_pick_t); rfl) | ((with_reducible apply w_pick_f); rfl) | ((with_reducible apply a_cond1); rfl; first | rfl | assumption) | ((with_reducible apply a_cond0); rfl; first | rfl | assumption) | ((with_reducible apply a_guard1); rfl; first | rfl | assumption) | ((with_reducible apply a_guard0); rfl; first | rfl | assumption) | ((with_reducible apply w_guard_u); rfl) | ((with_reducible apply a_pick1); rfl; first | rfl | assumption) | ((with_reducible apply a_pick0); rfl; first | rfl | assumption) | ((with_reducible apply a_pickN); rfl) | ((with_reducible apply a_condN); rfl) | ((with_reducible apply a_guardN); rfl) | ((with_reducible apply w_fad); rfl) | ((with_reducible apply a_fadI); rfl) | ((with_reducible apply w_load); rfl; rfl; rfl) | ((with_reducible apply w_loadI); rfl) | ((with_reducible apply w_loadA); rfl; rfl; first | exact Nat.le_refl _ | exact Nat.le_of_ble_eq_true rfl) | ((with_reducible apply a_eqA); rfl; rfl; rfl) | ((with_reducible apply a_loadAI); rfl; first | rfl | simp) | ((with_reducible apply w_new); first | rfl | simp) | ((with_reducible apply a_store); rfl; rfl; rfl; rfl; (first | exact Nat.le_refl _ | simp); (first | rfl | simp); (first | rfl | simp)) | ((with_reducible apply a_lenS); rfl; intro _) | ((with_reducible apply a_len); rfl; (first | rfl | simp); intro _) | ((with_reducible apply a_build); rfl) | ((with_reducible apply a_extr); rfl; rfl) | (refine a_slP (n := 2) rfl rfl (by first | (simp at *; done) | (simp at *; omega)) ?_) | ((with_reducible apply a_cond); rfl) | ((with_reducible apply a_guard); rfl) | (with_reducible intro _))
    all_goals
      refine .pure (by simp) ?_
      simp only [nx_zero, nx_one, AV.v.injEq, Value.bool.injEq]
      all_goals (try grind)
  refine (V59 _ _).gives (by simp) (by simp) ?_
  unfold W59
  refine w_call rfl (by kernel_rfl) h0 ?_
  exact .pure (by simp) rfl
theorem con_Custom (s : Str) : Con Tryd.prog 45 [.str s] (bool (customS s)) := by
  refine (V45 _).gives (by simp) (by simp) ?_
  unfold W45
  repeat' (first | (with_reducible first | apply w_let | apply w_and | refine And.intro True.intro ?_) | ((with_reducible first | apply a_lss | apply a_leq | apply a_gtr | apply a_geq | apply a_eql | apply a_neq); rfl; rfl) | ((with_reducible first | apply a_eqlS | apply a_neqS | apply a_eqlB | apply a_neqB); rfl; rfl) | ((with_reducible apply w_add); rfl; rfl; first | assumption | (unfold inI; omega)) | ((with_reducible apply w_sub); rfl; rfl; first | assumption | (unfold inI; omega)) | ((with_reducible apply a_not); rfl) | ((with_reducible apply w_pick_t); rfl) | ((with_reducible apply w_pick_f); rfl) | ((with_reducible apply a_cond1); rfl; first | rfl | assumption) | ((with_reducible apply a_cond0); rfl; first | rfl | assumption) | ((with_reducible apply a_guard1); rfl; first | rfl | assumption) | ((with_reducible apply a_guard0); rfl; first | rfl | assumption) | ((with_reducible apply w_guard_u); rfl) | ((with_reducible apply a_pick1); rfl; first | rfl | assumption) | ((with_reducible apply a_pick0); rfl; first | rfl | assumption) | ((with_reducible apply a_pickN); rfl) | ((with_reducible apply a_condN); rfl) | ((with_reducible apply a_guardN); rfl) | ((with_reducible apply w_fad); rfl) | ((with_reducible apply a_fadI); rfl) | ((with_reducible apply w_load); rfl; rfl; rfl) | ((with_reducible apply w_loadI); rfl) | ((with_reducible apply w_loadA); rfl; rfl; first | exact Nat.le_refl _ | exact Nat.le_of_ble_eq_true rfl) | ((with_reducible apply a_eqA); rfl; rfl; rfl) | ((with_reducible apply a_loadAI); rfl; first | rfl | simp) | ((with_reducible apply w_new); first | rfl | simp) | ((with_reducible apply a_store); rfl; rfl; rfl; rfl; (first | exact Nat.le_refl _ | simp); (first | rfl | simp); (first | rfl | simp)) | ((with_reducible apply a_lenS); rfl; intro _) | ((with_reducible apply a_len); rfl; (first | rfl | simp); intro _) | ((with_reducible apply a_build); rfl) | ((with_reducible apply a_extr); rfl; rfl) | (refine iCall_con (by kernel_rfl) (con_prefix s) ?_) | ((with_reducible apply a_cond); rfl) | ((with_reducible apply a_guard); rfl) | (with_reducible intro _))
  all_goals
    refine .pure (by simp) ?_
    simp only [nx_zero, nx_one, AV.v.injEq, Value.bool.injEq, customS]
    grind
theorem con_rCustom (s : Str) : Con Tryd.prog 53 [.str s] (bool (customS s)) := by
  refine (V53 _).gives (by simp) (by simp) ?_
  unfold W53
  repeat' (first | (with_reducible first | apply w_let | apply w_and | refine And.intro True.intro ?_) | ((with_reducible first | apply a_lss | apply a_leq | apply a_gtr | apply a_geq | apply a_eql | apply a_neq); rfl; rfl) | ((with_reducible first | apply a_eqlS | apply a_neqS | apply a_eqlB | apply a_neqB); rfl; rfl) | ((with_reducible apply w_add); rfl; rfl; first | assumption | (unfold inI; omega)) | ((with_reducible apply w_sub); rfl; rfl; first | assumption | (unfold inI; omega)) | ((with_reducible apply a_not); rfl) | ((with_reducible apply w_pick_t); rfl) | ((with_reducible apply w_pick_f); rfl) | ((with_reducible apply a_cond1); rfl; first | rfl | assumption) | ((with_reducible apply a_cond0); rfl; first | rfl | assumption) | ((with_reducible apply a_guard1); rfl; first | rfl | assumption) | ((with_reducible apply a_guard0); rfl; first | rfl | assumption) | ((with_reducible apply w_guard_u); rfl) | ((with_reducible apply a_pick1); rfl; first | rfl | assumption) | ((with_reducible apply a_pick0); rfl; first | rfl | assumption) | ((with_reducible apply a_pickN); rfl) | ((with_reducible apply a_condN); rfl) | ((with_reducible apply a_guardN); rfl) | ((with_reducible apply w_fad); rfl) | ((with_reducible apply a_fadI); rfl) | ((with_reducible apply w_load); rfl; rfl; rfl) | ((with_reducible apply w_loadI); rfl) | ((with_reducible apply w_loadA); rfl; rfl; first | exact Nat.le_refl _ | exact Nat.le_of_ble_eq_true rfl) | ((with_reducible apply a_eqA); rfl; rfl; rfl) | ((with_reducible apply a_loadAI); rfl; first | rfl | simp) | ((with_reducible apply w_new); first | rfl | simp) | ((with_reducible apply a_store); rfl; rfl; rfl; rfl; (first | exact Nat.le_refl _ | simp); (first | rfl | simp); (first | rfl | simp)) | ((with_reducible apply a_lenS); rfl; intro _) | ((with_reducible apply a_len); rfl; (first | rfl | simp); intro _) | ((with_reducible apply a_build); rfl) | ((with_reducible apply a_extr); rfl; rfl) | (refine a_slP (n := 2) rfl rfl (by first | (simp at *; done) | (simp at *; omega)) ?_) | ((with_reducible apply a_cond); rfl) | ((with_reducible apply a_guard); rfl) | (with_reducible intro _))
  all_goals
    refine .pure (by simp) ?_
    simp only [nx_zero, nx_one, AV.v.injEq, Value.bool.injEq, customS]
    grind
end Go.Proofs.YtmbpiloibhbmbaaDoor
end

section
namespace Go.Proofs.YtmbpiloibhbmbaaDoor
open Go Go.Aw
set_option maxRecDepth 1000000
def inhV (s : Str) : AV := if customS s then .tup [tt, int 0] else match findS s with | some n => .tup [bool (nm.getD n ([], false)).2, int 0] | none => .tup [ff, int 6]
theorem inhV_pure (s : Str) : Aw.Pure (inhV s) := by unfold inhV; split <;> (try split) <;> simp
theorem findS_lt {s : Str} {n : Nat} (h : findS s = some n) : n < 18 := by
  have := findN_spec nm 0 n h
  rw [nm_len] at this; omega
theorem con_Inherited (s : Str) : Con Tryd.prog 32 [.str s] (inhV s) := by
  refine (V32 _).gives (by simp) (inhV_pure s) ?_
  unfold W32
  have hF := con_Find s
  refine w_call rfl (by kernel_rfl) (con_Custom s) ?_
  by_cases hc : customS s = true
  · refine a_cond1 rfl hc ?_
    exact .pure (by simp) (by rw [inhV, if_pos hc])
  · refine a_cond0 rfl (by simpa using hc) ?_
    rw [inhV, if_neg hc]
    unfold findV at hF
    cases hf : findS s with
    | none =>
      rw [hf] at hF
      repeat' (first | (with_reducible first | apply w_let | apply w_and | refine And.intro True.intro ?_) | ((with_reducible first | apply a_lss | apply a_leq | apply a_gtr | apply a_geq | apply a_eql | apply a_neq); rfl; rfl) | ((with_reducible first | apply a_eqlS | apply a_neqS | apply a_eqlB | apply a_neqB); rfl; rfl) | ((with_reducible apply w_add); rfl; rfl; first | assumption | (unfold inI; omega)) | ((with_reducible apply w_sub); rfl; rfl; first | assumption | (unfold inI; omega)) | ((with_reducible apply a_not); rfl) | ((with_reducible apply w_pick_t); rfl) | ((with_reducible apply w_pick_f); rfl) | ((with_reducible apply a_cond1); rfl; first | rfl | assumption) | ((with_reducible apply a_cond0); rfl; first | rfl | assumption) | ((with_reducible apply a_guard1); rfl; first | rfl | assumption) | ((with_reducible apply a_guard0); rfl; first | rfl | assumption) | ((with_reducible apply w_guard_u); rfl) | ((with_reducible apply a_pick1); rfl; first | rfl | assumption) | ((with_reducible apply a_pick0); rfl; first | rfl | assumption) | ((with_reducible apply a_pickN); rfl) | ((with_reducible apply a_condN); rfl) | ((with_reducible apply a_guardN); rfl) | ((with_reducible apply w_fad); rfl) | ((with_reducible apply a_fadI); rfl) | ((with_reducible apply w_load); rfl; rfl; rfl) | ((with_reducible apply w_loadI); rfl) | ((with_reducible apply w_loadA); rfl; rfl; first | exact Nat.le_refl _ | exact Nat.le_of_ble_eq_true rfl) | ((with_reducible apply a_eqA); rfl; rfl; rfl) | ((with_reducible apply a_loadAI); rfl; first | rfl | simp) | ((with_reducible apply w_new); first | rfl | simp) | ((with_reducible apply a_store); rfl; rfl; rfl; rfl; (first | exact Nat.le_refl _ | simp); (first | rfl | simp); (first | rfl | simp)) | ((with_reducible apply a_lenS); rfl; intro _) | ((with_reducible apply a_len); rfl; (first | rfl | simp); intro _) | ((with_reducible apply a_build); rfl) | ((with_reducible apply a_extr); rfl; rfl) | (refine iCall_con (by kernel_rfl) (hF) ?_) | ((with_reducible apply a_cond); rfl) | ((with_reducible apply a_guard); rfl) | (with_reducible intro _))
      exact .pure (by simp) rfl
    | some n =>
      rw [hf] at hF
      have hn := findS_lt hf
      obtain ⟨p, hp⟩ : ∃ p, nmP[n]? = some p := ⟨nmP[n]'(by rw [nmP_len]; exact hn), List.getElem?_eq_getElem (by rw [nmP_len]; exact hn)⟩
      have e := nmP_nm hp
      repeat' (first | (with_reducible first | apply w_let | apply w_and | refine And.intro True.intro ?_) | ((with_reducible first | apply a_lss | apply a_leq | apply a_gtr | apply a_geq | apply a_eql | apply a_neq); rfl; rfl) | ((with_reducible first | apply a_eqlS | apply a_neqS | apply a_eqlB | apply a_neqB); rfl; rfl) | ((with_reducible apply w_add); rfl; rfl; first | assumption | (unfold inI; omega)) | ((with_reducible apply w_sub); rfl; rfl; first | assumption | (unfold inI; omega)) | ((with_reducible apply a_not); rfl) | ((with_reducible apply w_pick_t); rfl) | ((with_reducible apply w_pick_f); rfl) | ((with_reducible apply a_cond1); rfl; first | rfl | assumption) | ((with_reducible apply a_cond0); rfl; first | rfl | assumption) | ((with_reducible apply a_guard1); rfl; first | rfl | assumption) | ((with_reducible apply a_guard0); rfl; first | rfl | assumption) | ((with_reducible apply w_guard_u); rfl) | ((with_reducible apply a_pick1); rfl; first | rfl | assumption) | ((with_reducible apply a_pick0); rfl; first | rfl | assumption) | ((with_reducible apply a_pickN); rfl) | ((with_reducible apply a_condN); rfl) | ((with_reducible apply a_guardN); rfl) | ((with_reducible apply w_fad); rfl) | ((with_reducible apply a_fadI); rfl) | ((with_reducible apply w_load); rfl; rfl; rfl) | ((with_reducible apply w_loadI); rfl) | ((with_reducible apply w_loadA); rfl; rfl; first | exact Nat.le_refl _ | exact Nat.le_of_ble_eq_true rfl) | ((with_reducible apply a_eqA); rfl; rfl; rfl) | ((with_reducible apply a_loadAI); rfl; first | rfl | simp) | ((with_reducible apply w_new); first | rfl | simp) | ((with_reducible apply a_store); rfl; rfl; rfl; rfl; (first | exact Nat.le_refl _ | simp); (first | rfl | simp); (first | rfl | simp)) | ((with_reducible apply a_lenS); rfl; intro _) | ((with_reducible apply a_len); rfl; (first | rfl | simp); intro _) | ((with_reducible apply a_build); rfl) | ((with_reducible apply a_extr); rfl; rfl) | (refine iCall_con (by kernel_rfl) (hF) ?_) | (refine iCall_con (by kernel_rfl) (con_Table) ?_) | (refine a_idx rfl tabP_eq rfl hp ?_) | ((with_reducible apply a_cond); rfl) | ((with_reducible apply a_guard); rfl) | (with_reducible intro _))
      refine .pure (by simp) ?_
      simp only [List.getD_eq_getElem?_getD, e]; rfl
theorem con_rInherited (s : Str) : Con Tryd.prog 39 [.str s] (inhV s) := by
  refine (V39 _).gives (by simp) (inhV_pure s) ?_
  unfold W39
  have hF := con_rFind s
  refine w_call rfl (by kernel_rfl) (con_rCustom s) ?_
  by_cases hc : customS s = true
  · refine a_cond1 rfl hc ?_
    exact .pure (by simp) (by rw [inhV, if_pos hc])
  · refine a_cond0 rfl (by simpa using hc) ?_
    rw [inhV, if_neg hc]
    unfold findV at hF
    cases hf : findS s with
    | none =>
      rw [hf] at hF
      repeat' (first | (with_reducible first | apply w_let | apply w_and | refine And.intro True.intro ?_) | ((with_reducible first | apply a_lss | apply a_leq | apply a_gtr | apply a_geq | apply a_eql | apply a_neq); rfl; rfl) | ((with_reducible first | apply a_eqlS | apply a_neqS | apply a_eqlB | apply a_neqB); rfl; rfl) | ((with_reducible apply w_add); rfl; rfl; first | assumption | (unfold inI; omega)) | ((with_reducible apply w_sub); rfl; rfl; first | assumption | (unfold inI; omega)) | ((with_reducible apply a_not); rfl) | ((with_reducible apply w_pick_t); rfl) | ((with_reducible apply w_pick_f); rfl) | ((with_reducible apply a_cond1); rfl; first | rfl | assumption) | ((with_reducible apply a_cond0); rfl; first | rfl | assumption) | ((with_reducible apply a_guard1); rfl; first | rfl | assumption) | ((with_reducible apply a_guard0); rfl; first | rfl | assumption) | ((with_reducible apply w_guard_u); rfl) | ((with_reducible apply a_pick1); rfl; first | rfl | assumption) | ((with_reducible apply a_pick0); rfl; first | rfl | assumption) | ((with_reducible apply a_pickN); rfl) | ((with_reducible apply a_condN); rfl) | ((with_reducible apply a_guardN); rfl) | ((with_reducible apply w_fad); rfl) | ((with_reducible apply a_fadI); rfl) | ((with_reducible apply w_load); rfl; rfl; rfl) | ((with_reducible apply w_loadI); rfl) | ((with_reducible apply w_loadA); rfl; rfl; first | exact Nat.le_refl _ | exact Nat.le_of_ble_eq_true rfl) | ((with_reducible apply a_eqA); rfl; rfl; rfl) | ((with_reducible apply a_loadAI); rfl; first | rfl | simp) | ((with_reducible apply w_new); first | rfl | simp) | ((with_reducible apply a_store); rfl; rfl; rfl; rfl; (first | exact Nat.le_refl _ | simp); (first | rfl | simp); (first | rfl | simp)) | ((with_reducible apply a_lenS); rfl; intro _) | ((with_reducible apply a_len); rfl; (first | rfl | simp); intro _) | ((with_reducible apply a_build); rfl) | ((with_reducible apply a_extr); rfl; rfl) | (refine iCall_con (by kernel_rfl) (hF) ?_) | ((with_reducible apply a_cond); rfl) | ((with_reducible apply a_guard); rfl) | (with_reducible intro _))
      exact .pure (by simp) rfl
    | some n =>
      rw [hf] at hF
      have hn := findS_lt hf
      obtain ⟨p, hp⟩ : ∃ p, nmR[n]? = some p := ⟨nmR[n]'(by rw [nmR_len]; exact hn), List.getElem?_eq_getElem (by rw [nmR_len]; exact hn)⟩
      have e := nmR_nm hp
      repeat' (first | (with_reducible first | apply w_let | apply w_and | refine And.intro True.intro ?_) | ((with_reducible first | apply a_lss | apply a_leq | apply a_gtr | apply a_geq | apply a_eql | apply a_neq); rfl; rfl) | ((with_reducible first | apply a_eqlS | apply a_neqS | apply a_eqlB | apply a_neqB); rfl; rfl) | ((with_reducible apply w_add); rfl; rfl; first | assumption | (unfold inI; omega)) | ((with_reducible apply w_sub); rfl; rfl; first | assumption | (unfold inI; omega)) | ((with_reducible apply a_not); rfl) | ((with_reducible apply w_pick_t); rfl) | ((with_reducible apply w_pick_f); rfl) | ((with_reducible apply a_cond1); rfl; first | rfl | assumption) | ((with_reducible apply a_cond0); rfl; first | rfl | assumption) | ((with_reducible apply a_guard1); rfl; first | rfl | assumption) | ((with_reducible apply a_guard0); rfl; first | rfl | assumption) | ((with_reducible apply w_guard_u); rfl) | ((with_reducible apply a_pick1); rfl; first | rfl | assumption) | ((with_reducible apply a_pick0); rfl; first | rfl | assumption) | ((with_reducible apply a_pickN); rfl) | ((with_reducible apply a_condN); rfl) | ((with_reducible apply a_guardN); rfl) | ((with_reducible apply w_fad); rfl) | ((with_reducible apply a_fadI); rfl) | ((with_reducible apply w_load); rfl; rfl; rfl) | ((with_reducible apply w_loadI); rfl) | ((with_reducible apply w_loadA); rfl; rfl; first | exact Nat.le_refl _ | exact Nat.le_of_ble_eq_true rfl) | ((with_reducible apply a_eqA); rfl; rfl; rfl) | ((with_reducible apply a_loadAI); rfl; first | rfl | simp) | ((with_reducible apply w_new); first | rfl | simp) | ((with_reducible apply a_store); rfl; rfl; rfl; rfl; (first | exact Nat.le_refl _ | simp); (first | rfl | simp); (first | rfl | simp)) | ((with_reducible apply a_lenS); rfl; intro _) | ((with_reducible apply a_len); rfl; (first | rfl | simp); intro _) | ((with_reducible apply a_build); rfl) | ((with_reducible apply a_extr); rfl; rfl) | (refine iCall_con (by kernel_rfl) (hF) ?_) | (refine iCall_con (by kernel_rfl) (con_rTable) ?_) | (refine a_idx rfl tabR_eq rfl hp ?_) | ((with_reducible apply a_cond); rfl) | ((with_reducible apply a_guard); rfl) | (with_reducible intro _))
      refine .pure (by simp) ?_
      simp only [List.getD_eq_getElem?_getD, e]; rfl
/-! ### Lists of names -/
def encSt (l : List Str) : List (List AV) := l.map fun s => [.str s]
theorem encSt_pure : ∀ l, PureR (encSt l)
  | [] => by simp [encSt, PureR]
  | s :: l => by have := encSt_pure l; unfold encSt at this ⊢; simp only [List.map_cons, PureR]; exact ⟨by simp, this⟩
theorem encSt_rows (l : List Str) : (encSt l).all (rowOK 1) = true := rows_ok (fun s => by simp [scal]) l
def idxN (v : Str) : List Str → Nat → Int
  | [], _ => -1
  | s :: l, k => if v = s then k else idxN v l (k + 1)
theorem idxN_drop {v s : Str} {l : List Str} {k : Nat} (h : l[k]? = some s) (n : Nat) : idxN v (l.drop k) n = if v = s then (n : Int) else idxN v (l.drop (k + 1)) (n + 1) := by
  have hk := (List.getElem?_eq_some_iff.1 h).1
  rw [List.drop_eq_getElem_cons hk, idxN, (List.getElem?_eq_some_iff.1 h).2]
theorem idxN_mem (v : Str) : ∀ (l : List Str) (k : Nat), (0 ≤ idxN v l k ↔ v ∈ l)
  | [], k => by simp [idxN]
  | s :: l, k => by
    rw [idxN]
    split
    · rename_i h; subst h; simp
    · rename_i h
      rw [idxN_mem v l (k + 1)]
      simp [h]
theorem con_sIndex (l : List Str) (v : Str) (hl : l.length < 2 ^ 40) : Con Tryd.prog 50 [.sl 1 (encSt l), .str v] (int (idxN v l 0)) := by
  refine (V50 _ _).gives (by simp [encSt_pure]) (by simp) ?_
  unfold W50
  refine a_len (n := l.length) rfl (by simp [encSt]) fun _ => ?_
  refine iLoop_of (α := Nat) (fun k => k ≤ l.length ∧ idxN v l 0 = idxN v (l.drop k) k) (fun k => [int k]) (fun _ => []) (fun k => l.length - k) 0 (by simp) (Wk.refl _ _ _ (by simp)) ?_
  rintro k ⟨hk, hf⟩
  refine a_lss rfl rfl ?_
  rcases Nat.lt_or_ge k l.length with q | q
  · obtain ⟨s, hs⟩ : ∃ x, l[k]? = some x := ⟨l[k], List.getElem?_eq_getElem q⟩
    have e := idxN_drop (v := v) hs k
    refine a_cond1 rfl (by simpa using q) ?_
    refine a_idx (f := fun s => [.str s]) rfl rfl rfl hs ?_
    refine w_loadI rfl ?_
    refine a_eqlS rfl rfl ?_
    refine a_cond rfl (fun hc => ?_) (fun hc => ?_)
    · rw [if_pos (by simpa using hc)] at e
      exact .pure (by simp) (by rw [hf, e]; rfl)
    · rw [if_neg (by simpa using hc)] at e
      refine w_add rfl rfl (by unfold inI; omega) ?_
      refine w_and ?_
      exact ⟨k + 1, ⟨q, by rw [hf, e]⟩, Wk.refl _ _ _ (by simp), by omega⟩
  · have hk : k = l.length := by omega
    subst hk
    rw [List.drop_length] at hf
    refine a_cond0 rfl (by simp) ?_
    exact .pure (by simp) (by rw [hf]; rfl)
theorem con_contains (l : List Str) (v : Str) (hl : l.length < 2 ^ 40) : Con Tryd.prog 35 [.sl 1 (encSt l), .str v] (bool (decide (v ∈ l))) := by
  refine (V35 _ _).gives (by simp [encSt_pure]) (by simp) ?_
  unfold W35
  refine w_call rfl (by kernel_rfl) (con_sIndex l v hl) ?_
  refine a_geq rfl rfl ?_
  refine .pure (by simp) ?_
  have := idxN_mem v l 0
  simp [this]
def marginS : Str := [109, 97, 114, 103, 105, 110]
def borderS : Str := [98, 111, 114, 100, 101, 114]
def outlineS : Str := [111, 117, 116, 108, 105, 110, 101]
def backS : Str := [98, 97, 99, 107, 103, 114, 111, 117, 110, 100]
def sidesL : List Str := [[116, 111, 112], [114, 105, 103, 104, 116], [98, 111, 116, 116, 111, 109], [108, 101, 102, 116]]
def longsL (s : Str) : List Str := if s = marginS then sidesL.map fun x => marginS ++ [45] ++ x else if s = borderS ∨ s = outlineS ∨ s = backS then [s ++ [45, 99, 111, 108, 111, 114]] else []
def ofV (s : Str) : AV := if longsL s = [] then .v (.slice none 0 0) else .sl 1 (encSt (longsL s))
theorem ofV_pure (s : Str) : Aw.Pure (ofV s) := by unfold ofV; split <;> simp [encSt_pure]
theorem con_Names : Con Tryd.prog 67 [] (.sl 1 (encSt [marginS, borderS, outlineS, backS])) := by
  refine (V67).gives (by simp) (by simp [encSt_pure]) ?_
  unfold W67
  refine a_mkSlP rfl ?_
  exact .pure (by simp [chunks, setAll, rep0]) rfl
set_option maxHeartbeats 2000000 in
theorem con_of (s : Str) (hs : s.length < 2 ^ 40) : Con Tryd.prog 49 [.str s] (ofV s) := by
  refine (V49 _).gives (by simp) (ofV_pure s) ?_
  unfold W49
  refine w_call rfl (by kernel_rfl) con_Names ?_
  refine w_call rfl (by kernel_rfl) (con_contains [marginS, borderS, outlineS, backS] s (by simp)) ?_
  refine a_not rfl ?_
  by_cases hm : s = marginS
  · refine a_cond0 rfl (by simp [hm]) ?_
    refine a_neqS rfl rfl ?_
    refine a_cond0 rfl (by simp [hm, marginS]) ?_
    refine a_mkSlP rfl ?_
    refine a_len rfl rfl fun _ => ?_
    subst hm
    refine iLoop_of (α := Nat) (fun k => k ≤ 4) (fun k => [.sb 0 1 (encSt ((longsL marginS).take k)), int k]) (fun k => [.tok 9 1 k]) (fun k => 4 - k) 0 (by simp) ?_ ?_
    · have a := Wk.nil (n := 0) (s := [.v (.slice none 0 0), int 0]) (h := []) (by simp) 0 rfl
      have b := Wk.tok (n := 0) (s := [.emp, int 0]) (h := []) (by simp) 0 9 1 rfl
      exact a.trans b
    · intro k hk
      obtain rfl | rfl | rfl | rfl | rfl : k = 0 ∨ k = 1 ∨ k = 2 ∨ k = 3 ∨ k = 4 := by omega
      iterate 4
        · refine a_lss rfl rfl ?_
          refine a_cond1 rfl rfl ?_
          refine w_idxS rfl rfl (by decide) ?_
          refine w_loadI rfl ?_
          refine a_addS rfl rfl (by unfold maxLen; decide) ?_
          refine a_addS rfl rfl (by unfold maxLen; decide) ?_
          refine a_mkSlP rfl ?_
          refine n_appB (h' := [_]) rfl rfl rfl srcR_sl rfl (by unfold roomA maxLen; decide) rfl ?_
          refine w_add rfl rfl (by unfold inI; omega) ?_
          refine w_and ?_
          exact ⟨_, by decide, Wk.refl _ _ _ (by simp), by decide⟩
      · refine a_lss rfl rfl ?_
        refine a_cond0 rfl rfl ?_
        refine Gives.of ?_
        show _ = _
        rfl
  · by_cases hb : s = borderS ∨ s = outlineS ∨ s = backS
    · refine a_cond0 rfl (by rcases hb with h | h | h <;> simp [h]) ?_
      refine a_neqS rfl rfl ?_
      refine a_cond1 rfl (by simpa [marginS] using hm) ?_
      refine a_addS rfl rfl (by unfold maxLen; simp; omega) ?_
      refine a_mkSlP (cs := [.str (s ++ [45, 99, 111, 108, 111, 114])]) rfl ?_
      refine .pure (by simp [chunks]) ?_
      unfold ofV longsL
      rw [if_neg hm, if_pos hb]
      simp [encSt, chunks]
    · refine a_cond1 rfl (by simp [not_or] at hb; simp [hm, hb]) ?_
      refine .pure (by simp) ?_
      unfold ofV longsL
      rw [if_neg hm, if_neg hb]
      simp
theorem con_rlongs (s : Str) (hs : s.length < 2 ^ 40) : Con Tryd.prog 71 [.str s] (ofV s) := by
  refine (V71 _).gives (by simp) (ofV_pure s) ?_
  unfold W71
  have hin : s.length + 6 ≤ maxLen := by unfold maxLen; omega
  repeat' (first | (with_reducible first | apply w_let | apply w_and | refine And.intro True.intro ?_) | ((with_reducible first | apply a_lss | apply a_leq | apply a_gtr | apply a_geq | apply a_eql | apply a_neq); rfl; rfl) | ((with_reducible first | apply a_eqlS | apply a_neqS | apply a_eqlB | apply a_neqB); rfl; rfl) | ((with_reducible apply w_add); rfl; rfl; first | assumption | (unfold inI; omega)) | ((with_reducible apply w_sub); rfl; rfl; first | assumption | (unfold inI; omega)) | ((with_reducible apply a_not); rfl) | ((with_reducible apply w_pick_t); rfl) | ((with_reducible apply w_pick_f); rfl) | ((with_reducible apply a_cond1); rfl; first | rfl | assumption) | ((with_reducible apply a_cond0); rfl; first | rfl | assumption) | ((with_reducible apply a_guard1); rfl; first | rfl | assumption) | ((with_reducible apply a_guard0); rfl; first | rfl | assumption) | ((with_reducible apply w_guard_u); rfl) | ((with_reducible apply a_pick1); rfl; first | rfl | assumption) | ((with_reducible apply a_pick0); rfl; first | rfl | assumption) | ((with_reducible apply a_pickN); rfl) | ((with_reducible apply a_condN); rfl) | ((with_reducible apply a_guardN); rfl) | ((with_reducible apply w_fad); rfl) | ((with_reducible apply a_fadI); rfl) | ((with_reducible apply w_load); rfl; rfl; rfl) | ((with_reducible apply w_loadI); rfl) | ((with_reducible apply w_loadA); rfl; rfl; first | exact Nat.le_refl _ | exact Nat.le_of_ble_eq_true rfl) | ((with_reducible apply a_eqA); rfl; rfl; rfl) | ((with_reducible apply a_loadAI); rfl; first | rfl | simp) | ((with_reducible apply w_new); first | rfl | simp) | ((with_reducible apply a_store); rfl; rfl; rfl; rfl; (first | exact Nat.le_refl _ | simp); (first | rfl | simp); (first | rfl | simp)) | ((with_reducible apply a_lenS); rfl; intro _) | ((with_reducible apply a_len); rfl; (first | rfl | simp); intro _) | ((with_reducible apply a_build); rfl) | ((with_reducible apply a_extr); rfl; rfl) | (refine a_mkSlP rfl ?_) | (refine a_addS rfl rfl hin ?_) | ((with_reducible apply a_cond); rfl) | ((with_reducible apply a_guard); rfl) | (with_reducible intro _))
  all_goals
    refine .pure (by simp [chunks, setAll, rep0]) ?_
    unfold ofV longsL
    simp only [decide_eq_true_eq, decide_eq_false_iff_not] at *
    simp_all [marginS, borderS, outlineS, backS, encSt, chunks, setAll, rep0, sidesL]
end Go.Proofs.YtmbpiloibhbmbaaDoor
end

section
namespace Go.Proofs.YtmbpiloibhbmbaaDoor
open Go Go.Aw Go.Nst
set_option maxRecDepth 1000000
def isPr (s : Str) : Bool := customS s || (findS s).isSome
theorem inhV_known {s : Str} (h : isPr s = true) : ∃ b, inhV s = .tup [bool b, int 0] := by
  unfold inhV
  by_cases hc : customS s = true
  · rw [if_pos hc]; exact ⟨true, rfl⟩
  · rw [if_neg hc]
    unfold isPr at h
    cases hf : findS s with
    | none => rw [hf] at h; simp at h; exact absurd h hc
    | some n => exact ⟨_, rfl⟩
theorem inhV_not {s : Str} (h : isPr s = false) : inhV s = .tup [ff, int 6] := by
  unfold isPr at h
  simp only [Bool.or_eq_false_iff] at h
  unfold inhV
  rw [if_neg (by simp [h.1])]
  cases hf : findS s with
  | none => rfl
  | some n => rw [hf] at h; simp at h
def lgs (s : Str) : List Str := if longsL s = [] then (if isPr s = true then [s] else []) else longsL s
def lgV (s : Str) : AV := if lgs s = [] then .tup [.v (.slice none 0 0), int 6] else .tup [.sl 1 (encSt (lgs s)), int 0]
theorem lgV_pure (s : Str) : Aw.Pure (lgV s) := by unfold lgV; split <;> simp [encSt_pure]
theorem a_lenNil {K : AV → Prop} (q : K (int 0)) : iLen (.v (.slice none 0 0)) K := q
theorem longsL_len (s : Str) : (longsL s).length ≤ 4 := by
  unfold longsL
  split
  · simp [sidesL]
  · split <;> simp
theorem lgs_len (s : Str) : (lgs s).length ≤ 4 := by
  unfold lgs
  split
  · split <;> simp
  · exact longsL_len s
set_option maxHeartbeats 2000000 in
theorem con_Longs (s : Str) (hs : s.length < 2 ^ 40) : Con Tryd.prog 34 [.str s] (lgV s) := by
  refine (V34 _).gives (by simp) (lgV_pure s) ?_
  unfold W34
  have hO := con_of s hs
  have hI := con_Inherited s
  unfold lgV lgs
  by_cases hl : longsL s = []
  · rw [ofV, if_pos hl] at hO
    rw [if_pos hl]
    by_cases hk : isPr s = true
    · obtain ⟨b, e⟩ := inhV_known hk
      rw [e] at hI
      rw [if_pos hk]
      repeat' (first | (with_reducible first | apply w_let | apply w_and | refine And.intro True.intro ?_) | ((with_reducible first | apply a_lss | apply a_leq | apply a_gtr | apply a_geq | apply a_eql | apply a_neq); rfl; rfl) | ((with_reducible first | apply a_eqlS | apply a_neqS | apply a_eqlB | apply a_neqB); rfl; rfl) | ((with_reducible apply w_add); rfl; rfl; first | assumption | (unfold inI; omega)) | ((with_reducible apply w_sub); rfl; rfl; first | assumption | (unfold inI; omega)) | ((with_reducible apply a_not); rfl) | ((with_reducible apply w_pick_t); rfl) | ((with_reducible apply w_pick_f); rfl) | ((with_reducible apply a_cond1); rfl; first | rfl | assumption) | ((with_reducible apply a_cond0); rfl; first | rfl | assumption) | ((with_reducible apply a_guard1); rfl; first | rfl | assumption) | ((with_reducible apply a_guard0); rfl; first | rfl | assumption) | ((with_reducible apply w_guard_u); rfl) | ((with_reducible apply a_pick1); rfl; first | rfl | assumption) | ((with_reducible apply a_pick0); rfl; first | rfl | assumption) | ((with_reducible apply a_pickN); rfl) | ((with_reducible apply a_condN); rfl) | ((with_reducible apply a_guardN); rfl) | ((with_reducible apply w_fad); rfl) | ((with_reducible apply a_fadI); rfl) | ((with_reducible apply w_load); rfl; rfl; rfl) | ((with_reducible apply w_loadI); rfl) | ((with_reducible apply w_loadA); rfl; rfl; first | exact Nat.le_refl _ | exact Nat.le_of_ble_eq_true rfl) | ((with_reducible apply a_eqA); rfl; rfl; rfl) | ((with_reducible apply a_loadAI); rfl; first | rfl | simp) | ((with_reducible apply w_new); first | rfl | simp) | ((with_reducible apply a_store); rfl; rfl; rfl; rfl; (first | exact Nat.le_refl _ | simp); (first | rfl | simp); (first | rfl | simp)) | ((with_reducible apply a_lenS); rfl; intro _) | ((with_reducible apply a_len); rfl; (first | rfl | simp); intro _) | ((with_reducible apply a_build); rfl) | ((with_reducible apply a_extr); rfl; rfl) | (refine iCall_con (by kernel_rfl) (hO) ?_) | (refine iCall_con (by kernel_rfl) (hI) ?_) | (refine a_lenNil ?_) | (refine a_mkSlP rfl ?_) | ((with_reducible apply a_cond); rfl) | ((with_reducible apply a_guard); rfl) | (with_reducible intro _))
      exact .pure (by simp [chunks, setAll, rep0]) (by simp [encSt, chunks, setAll, rep0])
    · have hk : isPr s = false := by simpa using hk
      rw [inhV_not hk] at hI
      rw [show (if isPr s = true then [s] else []) = ([] : List Str) by simp [hk], if_pos rfl]
      repeat' (first | (with_reducible first | apply w_let | apply w_and | refine And.intro True.intro ?_) | ((with_reducible first | apply a_lss | apply a_leq | apply a_gtr | apply a_geq | apply a_eql | apply a_neq); rfl; rfl) | ((with_reducible first | apply a_eqlS | apply a_neqS | apply a_eqlB | apply a_neqB); rfl; rfl) | ((with_reducible apply w_add); rfl; rfl; first | assumption | (unfold inI; omega)) | ((with_reducible apply w_sub); rfl; rfl; first | assumption | (unfold inI; omega)) | ((with_reducible apply a_not); rfl) | ((with_reducible apply w_pick_t); rfl) | ((with_reducible apply w_pick_f); rfl) | ((with_reducible apply a_cond1); rfl; first | rfl | assumption) | ((with_reducible apply a_cond0); rfl; first | rfl | assumption) | ((with_reducible apply a_guard1); rfl; first | rfl | assumption) | ((with_reducible apply a_guard0); rfl; first | rfl | assumption) | ((with_reducible apply w_guard_u); rfl) | ((with_reducible apply a_pick1); rfl; first | rfl | assumption) | ((with_reducible apply a_pick0); rfl; first | rfl | assumption) | ((with_reducible apply a_pickN); rfl) | ((with_reducible apply a_condN); rfl) | ((with_reducible apply a_guardN); rfl) | ((with_reducible apply w_fad); rfl) | ((with_reducible apply a_fadI); rfl) | ((with_reducible apply w_load); rfl; rfl; rfl) | ((with_reducible apply w_loadI); rfl) | ((with_reducible apply w_loadA); rfl; rfl; first | exact Nat.le_refl _ | exact Nat.le_of_ble_eq_true rfl) | ((with_reducible apply a_eqA); rfl; rfl; rfl) | ((with_reducible apply a_loadAI); rfl; first | rfl | simp) | ((with_reducible apply w_new); first | rfl | simp) | ((with_reducible apply a_store); rfl; rfl; rfl; rfl; (first | exact Nat.le_refl _ | simp); (first | rfl | simp); (first | rfl | simp)) | ((with_reducible apply a_lenS); rfl; intro _) | ((with_reducible apply a_len); rfl; (first | rfl | simp); intro _) | ((with_reducible apply a_build); rfl) | ((with_reducible apply a_extr); rfl; rfl) | (refine iCall_con (by kernel_rfl) (hO) ?_) | (refine iCall_con (by kernel_rfl) (hI) ?_) | (refine a_lenNil ?_) | ((with_reducible apply a_cond); rfl) | ((with_reducible apply a_guard); rfl) | (with_reducible intro _))
      exact .pure (by simp) rfl
  · rw [ofV, if_neg hl] at hO
    rw [if_neg hl]
    have g : decide ((0 : Int) < (encSt (longsL s)).length) = true := by
      simp [encSt]
      exact List.length_pos_iff.2 hl
    repeat' (first | (with_reducible first | apply w_let | apply w_and | refine And.intro True.intro ?_) | ((with_reducible first | apply a_lss | apply a_leq | apply a_gtr | apply a_geq | apply a_eql | apply a_neq); rfl; rfl) | ((with_reducible first | apply a_eqlS | apply a_neqS | apply a_eqlB | apply a_neqB); rfl; rfl) | ((with_reducible apply w_add); rfl; rfl; first | assumption | (unfold inI; omega)) | ((with_reducible apply w_sub); rfl; rfl; first | assumption | (unfold inI; omega)) | ((with_reducible apply a_not); rfl) | ((with_reducible apply w_pick_t); rfl) | ((with_reducible apply w_pick_f); rfl) | ((with_reducible apply a_cond1); rfl; first | rfl | assumption) | ((with_reducible apply a_cond0); rfl; first | rfl | assumption) | ((with_reducible apply a_guard1); rfl; first | rfl | assumption) | ((with_reducible apply a_guard0); rfl; first | rfl | assumption) | ((with_reducible apply w_guard_u); rfl) | ((with_reducible apply a_pick1); rfl; first | rfl | assumption) | ((with_reducible apply a_pick0); rfl; first | rfl | assumption) | ((with_reducible apply a_pickN); rfl) | ((with_reducible apply a_condN); rfl) | ((with_reducible apply a_guardN); rfl) | ((with_reducible apply w_fad); rfl) | ((with_reducible apply a_fadI); rfl) | ((with_reducible apply w_load); rfl; rfl; rfl) | ((with_reducible apply w_loadI); rfl) | ((with_reducible apply w_loadA); rfl; rfl; first | exact Nat.le_refl _ | exact Nat.le_of_ble_eq_true rfl) | ((with_reducible apply a_eqA); rfl; rfl; rfl) | ((with_reducible apply a_loadAI); rfl; first | rfl | simp) | ((with_reducible apply w_new); first | rfl | simp) | ((with_reducible apply a_store); rfl; rfl; rfl; rfl; (first | exact Nat.le_refl _ | simp); (first | rfl | simp); (first | rfl | simp)) | ((with_reducible apply a_lenS); rfl; intro _) | ((with_reducible apply a_len); rfl; (first | rfl | simp); intro _) | ((with_reducible apply a_build); rfl) | ((with_reducible apply a_extr); rfl; rfl) | (refine iCall_con (by kernel_rfl) (hO) ?_) | ((with_reducible apply a_cond); rfl) | ((with_reducible apply a_guard); rfl) | (with_reducible intro _))
    exact .pure (by simp [encSt_pure]) (by rw [if_neg hl])
set_option maxHeartbeats 2000000 in
theorem con_rLongs (s : Str) (hs : s.length < 2 ^ 40) : Con Tryd.prog 58 [.str s] (lgV s) := by
  refine (V58 _).gives (by simp) (lgV_pure s) ?_
  unfold W58
  have hO := con_rlongs s hs
  have hI := con_rInherited s
  unfold lgV lgs
  by_cases hl : longsL s = []
  · rw [ofV, if_pos hl] at hO
    rw [if_pos hl]
    by_cases hk : isPr s = true
    · obtain ⟨b, e⟩ := inhV_known hk
      rw [e] at hI
      rw [if_pos hk]
      repeat' (first | (with_reducible first | apply w_let | apply w_and | refine And.intro True.intro ?_) | ((with_reducible first | apply a_lss | apply a_leq | apply a_gtr | apply a_geq | apply a_eql | apply a_neq); rfl; rfl) | ((with_reducible first | apply a_eqlS | apply a_neqS | apply a_eqlB | apply a_neqB); rfl; rfl) | ((with_reducible apply w_add); rfl; rfl; first | assumption | (unfold inI; omega)) | ((with_reducible apply w_sub); rfl; rfl; first | assumption | (unfold inI; omega)) | ((with_reducible apply a_not); rfl) | ((with_reducible apply w_pick_t); rfl) | ((with_reducible apply w_pick_f); rfl) | ((with_reducible apply a_cond1); rfl; first | rfl | assumption) | ((with_reducible apply a_cond0); rfl; first | rfl | assumption) | ((with_reducible apply a_guard1); rfl; first | rfl | assumption) | ((with_reducible apply a_guard0); rfl; first | rfl | assumption) | ((with_reducible apply w_guard_u); rfl) | ((with_reducible apply a_pick1); rfl; first | rfl | assumption) | ((with_reducible apply a_pick0); rfl; first | rfl | assumption) | ((with_reducible apply a_pickN); rfl) | ((with_reducible apply a_condN); rfl) | ((with_reducible apply a_guardN); rfl) | ((with_reducible apply w_fad); rfl) | ((with_reducible apply a_fadI); rfl) | ((with_reducible apply w_load); rfl; rfl; rfl) | ((with_reducible apply w_loadI); rfl) | ((with_reducible apply w_loadA); rfl; rfl; first | exact Nat.le_refl _ | exact Nat.le_of_ble_eq_true rfl) | ((with_reducible apply a_eqA); rfl; rfl; rfl) | ((with_reducible apply a_loadAI); rfl; first | rfl | simp) | ((with_reducible apply w_new); first | rfl | simp) | ((with_reducible apply a_store); rfl; rfl; rfl; rfl; (first | exact Nat.le_refl _ | simp); (first | rfl | simp); (first | rfl | simp)) | ((with_reducible apply a_lenS); rfl; intro _) | ((with_reducible apply a_len); rfl; (first | rfl | simp); intro _) | ((with_reducible apply a_build); rfl) | ((with_reducible apply a_extr); rfl; rfl) | (refine iCall_con (by kernel_rfl) (hO) ?_) | (refine iCall_con (by kernel_rfl) (hI) ?_) | (refine a_lenNil ?_) | (refine a_mkSlP rfl ?_) | ((with_reducible apply a_cond); rfl) | ((with_reducible apply a_guard); rfl) | (with_reducible intro _))
      exact .pure (by simp [chunks, setAll, rep0]) (by simp [encSt, chunks, setAll, rep0])
    · have hk : isPr s = false := by simpa using hk
      rw [inhV_not hk] at hI
      rw [show (if isPr s = true then [s] else []) = ([] : List Str) by simp [hk], if_pos rfl]
      repeat' (first | (with_reducible first | apply w_let | apply w_and | refine And.intro True.intro ?_) | ((with_reducible first | apply a_lss | apply a_leq | apply a_gtr | apply a_geq | apply a_eql | apply a_neq); rfl; rfl) | ((with_reducible first | apply a_eqlS | apply a_neqS | apply a_eqlB | apply a_neqB); rfl; rfl) | ((with_reducible apply w_add); rfl; rfl; first | assumption | (unfold inI; omega)) | ((with_reducible apply w_sub); rfl; rfl; first | assumption | (unfold inI; omega)) | ((with_reducible apply a_not); rfl) | ((with_reducible apply w_pick_t); rfl) | ((with_reducible apply w_pick_f); rfl) | ((with_reducible apply a_cond1); rfl; first | rfl | assumption) | ((with_reducible apply a_cond0); rfl; first | rfl | assumption) | ((with_reducible apply a_guard1); rfl; first | rfl | assumption) | ((with_reducible apply a_guard0); rfl; first | rfl | assumption) | ((with_reducible apply w_guard_u); rfl) | ((with_reducible apply a_pick1); rfl; first | rfl | assumption) | ((with_reducible apply a_pick0); rfl; first | rfl | assumption) | ((with_reducible apply a_pickN); rfl) | ((with_reducible apply a_condN); rfl) | ((with_reducible apply a_guardN); rfl) | ((with_reducible apply w_fad); rfl) | ((with_reducible apply a_fadI); rfl) | ((with_reducible apply w_load); rfl; rfl; rfl) | ((with_reducible apply w_loadI); rfl) | ((with_reducible apply w_loadA); rfl; rfl; first | exact Nat.le_refl _ | exact Nat.le_of_ble_eq_true rfl) | ((with_reducible apply a_eqA); rfl; rfl; rfl) | ((with_reducible apply a_loadAI); rfl; first | rfl | simp) | ((with_reducible apply w_new); first | rfl | simp) | ((with_reducible apply a_store); rfl; rfl; rfl; rfl; (first | exact Nat.le_refl _ | simp); (first | rfl | simp); (first | rfl | simp)) | ((with_reducible apply a_lenS); rfl; intro _) | ((with_reducible apply a_len); rfl; (first | rfl | simp); intro _) | ((with_reducible apply a_build); rfl) | ((with_reducible apply a_extr); rfl; rfl) | (refine iCall_con (by kernel_rfl) (hO) ?_) | (refine iCall_con (by kernel_rfl) (hI) ?_) | (refine a_lenNil ?_) | ((with_reducible apply a_cond); rfl) | ((with_reducible apply a_guard); rfl) | (with_reducible intro _))
      exact .pure (by simp) rfl
  · rw [ofV, if_neg hl] at hO
    rw [if_neg hl]
    have g : decide ((0 : Int) < (encSt (longsL s)).length) = true := by
      simp [encSt]
      exact List.length_pos_iff.2 hl
    repeat' (first | (with_reducible first | apply w_let | apply w_and | refine And.intro True.intro ?_) | ((with_reducible first | apply a_lss | apply a_leq | apply a_gtr | apply a_geq | apply a_eql | apply a_neq); rfl; rfl) | ((with_reducible first | apply a_eqlS | apply a_neqS | apply a_eqlB | apply a_neqB); rfl; rfl) | ((with_reducible apply w_add); rfl; rfl; first | assumption | (unfold inI; omega)) | ((with_reducible apply w_sub); rfl; rfl; first | assumption | (unfold inI; omega)) | ((with_reducible apply a_not); rfl) | ((with_reducible apply w_pick_t); rfl) | ((with_reducible apply w_pick_f); rfl) | ((with_reducible apply a_cond1); rfl; first | rfl | assumption) | ((with_reducible apply a_cond0); rfl; first | rfl | assumption) | ((with_reducible apply a_guard1); rfl; first | rfl | assumption) | ((with_reducible apply a_guard0); rfl; first | rfl | assumption) | ((with_reducible apply w_guard_u); rfl) | ((with_reducible apply a_pick1); rfl; first | rfl | assumption) | ((with_reducible apply a_pick0); rfl; first | rfl | assumption) | ((with_reducible apply a_pickN); rfl) | ((with_reducible apply a_condN); rfl) | ((with_reducible apply a_guardN); rfl) | ((with_reducible apply w_fad); rfl) | ((with_reducible apply a_fadI); rfl) | ((with_reducible apply w_load); rfl; rfl; rfl) | ((with_reducible apply w_loadI); rfl) | ((with_reducible apply w_loadA); rfl; rfl; first | exact Nat.le_refl _ | exact Nat.le_of_ble_eq_true rfl) | ((with_reducible apply a_eqA); rfl; rfl; rfl) | ((with_reducible apply a_loadAI); rfl; first | rfl | simp) | ((with_reducible apply w_new); first | rfl | simp) | ((with_reducible apply a_store); rfl; rfl; rfl; rfl; (first | exact Nat.le_refl _ | simp); (first | rfl | simp); (first | rfl | simp)) | ((with_reducible apply a_lenS); rfl; intro _) | ((with_reducible apply a_len); rfl; (first | rfl | simp); intro _) | ((with_reducible apply a_build); rfl) | ((with_reducible apply a_extr); rfl; rfl) | (refine iCall_con (by kernel_rfl) (hO) ?_) | ((with_reducible apply a_cond); rfl) | ((with_reducible apply a_guard); rfl) | (with_reducible intro _))
    exact .pure (by simp [encSt_pure]) (by rw [if_neg hl])
/-! ### Declarations -/
structure Dc where
  name : Str
  value : List Vl
  whole : Str
  imp : Bool
  origin : Int
  att : Bool
  layer : Int
  w0 : Int
  w1 : Int
  w2 : Int
  order : Int
def encD (d : Dc) : List AV := [.str d.name, .sl 6 (encVs d.value), .str d.whole, bool d.imp, u1 d.origin, bool d.att, int d.layer, int d.w0, int d.w1, int d.w2, int d.order]
theorem encD_pure (d : Dc) : PureL (encD d) := by simp [encD, pureVs]
def inN (n : Int) : Bool := decide (0 ≤ n) && decide (n ≤ 1000000)
def wholeOK (n w : Str) : Bool := decide (w = []) || (decide (n ∈ lgs w) && !decide (w = n))
def okD (d : Dc) : Bool := isPr d.name && decide (checkV d.value = 0) && wholeOK d.name d.whole && (inN d.layer && inN d.order && inN d.w0 && inN d.w1 && inN d.w2) && (decide (1 ≤ d.origin) && decide (d.origin ≤ 3)) && (!d.att || (decide (d.origin = 3) && decide (d.layer = 0) && (decide (d.w0 = 0) && decide (d.w1 = 0) && decide (d.w2 = 0))))
def errD (d : Dc) : Int := if okD d then 0 else 8
theorem errD_bad {d : Dc} (h : okD d = false) : errD d = 8 := by rw [errD, h]; rfl
theorem con_in (n : Int) : Con Tryd.prog 42 [int n] (bool (inN n)) := by
  refine (V42 _).gives (by simp) (by simp) ?_
  unfold W42
  repeat' (first | (with_reducible first | apply w_let | apply w_and | refine And.intro True.intro ?_) | ((with_reducible first | apply a_lss | apply a_leq | apply a_gtr | apply a_geq | apply a_eql | apply a_neq); rfl; rfl) | ((with_reducible first | apply a_eqlS | apply a_neqS | apply a_eqlB | apply a_neqB); rfl; rfl) | ((with_reducible apply w_add); rfl; rfl; first | assumption | (unfold inI; omega)) | ((with_reducible apply w_sub); rfl; rfl; first | assumption | (unfold inI; omega)) | ((with_reducible apply a_not); rfl) | ((with_reducible apply w_pick_t); rfl) | ((with_reducible apply w_pick_f); rfl) | ((with_reducible apply a_cond1); rfl; first | rfl | assumption) | ((with_reducible apply a_cond0); rfl; first | rfl | assumption) | ((with_reducible apply a_guard1); rfl; first | rfl | assumption) | ((with_reducible apply a_guard0); rfl; first | rfl | assumption) | ((with_reducible apply w_guard_u); rfl) | ((with_reducible apply a_pick1); rfl; first | rfl | assumption) | ((with_reducible apply a_pick0); rfl; first | rfl | assumption) | ((with_reducible apply a_pickN); rfl) | ((with_reducible apply a_condN); rfl) | ((with_reducible apply a_guardN); rfl) | ((with_reducible apply w_fad); rfl) | ((with_reducible apply a_fadI); rfl) | ((with_reducible apply w_load); rfl; rfl; rfl) | ((with_reducible apply w_loadI); rfl) | ((with_reducible apply w_loadA); rfl; rfl; first | exact Nat.le_refl _ | exact Nat.le_of_ble_eq_true rfl) | ((with_reducible apply a_eqA); rfl; rfl; rfl) | ((with_reducible apply a_loadAI); rfl; first | rfl | simp) | ((with_reducible apply w_new); first | rfl | simp) | ((with_reducible apply a_store); rfl; rfl; rfl; rfl; (first | exact Nat.le_refl _ | simp); (first | rfl | simp); (first | rfl | simp)) | ((with_reducible apply a_lenS); rfl; intro _) | ((with_reducible apply a_len); rfl; (first | rfl | simp); intro _) | ((with_reducible apply a_build); rfl) | ((with_reducible apply a_extr); rfl; rfl) | ((with_reducible apply a_cond); rfl) | ((with_reducible apply a_guard); rfl) | (with_reducible intro _))
  all_goals
    refine .pure (by simp) ?_
    simp only [nx_zero, nx_one, AV.v.injEq, Value.bool.injEq, inN]
    grind
theorem con_whole (n : Str) (v : List Vl) (w : Str) (hw : w.length < 2 ^ 40) : Con Tryd.prog 41 [.agg [.str n, .sl 6 (encVs v), .str w]] (bool (wholeOK n w)) := by
  refine (V41 _).gives (by simp [pureVs]) (by simp) ?_
  unfold W41
  have hL := con_rLongs w hw
  unfold wholeOK
  by_cases h0 : w = []
  · have g0 : decide (w = []) = true := by simpa using h0
    repeat' (first | (with_reducible first | apply w_let | apply w_and | refine And.intro True.intro ?_) | ((with_reducible first | apply a_lss | apply a_leq | apply a_gtr | apply a_geq | apply a_eql | apply a_neq); rfl; rfl) | ((with_reducible first | apply a_eqlS | apply a_neqS | apply a_eqlB | apply a_neqB); rfl; rfl) | ((with_reducible apply w_add); rfl; rfl; first | assumption | (unfold inI; omega)) | ((with_reducible apply w_sub); rfl; rfl; first | assumption | (unfold inI; omega)) | ((with_reducible apply a_not); rfl) | ((with_reducible apply w_pick_t); rfl) | ((with_reducible apply w_pick_f); rfl) | ((with_reducible apply a_cond1); rfl; first | rfl | assumption) | ((with_reducible apply a_cond0); rfl; first | rfl | assumption) | ((with_reducible apply a_guard1); rfl; first | rfl | assumption) | ((with_reducible apply a_guard0); rfl; first | rfl | assumption) | ((with_reducible apply w_guard_u); rfl) | ((with_reducible apply a_pick1); rfl; first | rfl | assumption) | ((with_reducible apply a_pick0); rfl; first | rfl | assumption) | ((with_reducible apply a_pickN); rfl) | ((with_reducible apply a_condN); rfl) | ((with_reducible apply a_guardN); rfl) | ((with_reducible apply w_fad); rfl) | ((with_reducible apply a_fadI); rfl) | ((with_reducible apply w_load); rfl; rfl; rfl) | ((with_reducible apply w_loadI); rfl) | ((with_reducible apply w_loadA); rfl; rfl; first | exact Nat.le_refl _ | exact Nat.le_of_ble_eq_true rfl) | ((with_reducible apply a_eqA); rfl; rfl; rfl) | ((with_reducible apply a_loadAI); rfl; first | rfl | simp) | ((with_reducible apply w_new); first | rfl | simp) | ((with_reducible apply a_store); rfl; rfl; rfl; rfl; (first | exact Nat.le_refl _ | simp); (first | rfl | simp); (first | rfl | simp)) | ((with_reducible apply a_lenS); rfl; intro _) | ((with_reducible apply a_len); rfl; (first | rfl | simp); intro _) | ((with_reducible apply a_build); rfl) | ((with_reducible apply a_extr); rfl; rfl) | ((with_reducible apply a_cond); rfl) | ((with_reducible apply a_guard); rfl) | (with_reducible intro _))
    exact .pure (by simp) (by simp [h0])
  · have g0 : decide (w = []) = false := by simpa using h0
    by_cases h1 : w = n
    · have g1 : decide (w = n) = true := by simpa using h1
      repeat' (first | (with_reducible first | apply w_let | apply w_and | refine And.intro True.intro ?_) | ((with_reducible first | apply a_lss | apply a_leq | apply a_gtr | apply a_geq | apply a_eql | apply a_neq); rfl; rfl) | ((with_reducible first | apply a_eqlS | apply a_neqS | apply a_eqlB | apply a_neqB); rfl; rfl) | ((with_reducible apply w_add); rfl; rfl; first | assumption | (unfold inI; omega)) | ((with_reducible apply w_sub); rfl; rfl; first | assumption | (unfold inI; omega)) | ((with_reducible apply a_not); rfl) | ((with_reducible apply w_pick_t); rfl) | ((with_reducible apply w_pick_f); rfl) | ((with_reducible apply a_cond1); rfl; first | rfl | assumption) | ((with_reducible apply a_cond0); rfl; first | rfl | assumption) | ((with_reducible apply a_guard1); rfl; first | rfl | assumption) | ((with_reducible apply a_guard0); rfl; first | rfl | assumption) | ((with_reducible apply w_guard_u); rfl) | ((with_reducible apply a_pick1); rfl; first | rfl | assumption) | ((with_reducible apply a_pick0); rfl; first | rfl | assumption) | ((with_reducible apply a_pickN); rfl) | ((with_reducible apply a_condN); rfl) | ((with_reducible apply a_guardN); rfl) | ((with_reducible apply w_fad); rfl) | ((with_reducible apply a_fadI); rfl) | ((with_reducible apply w_load); rfl; rfl; rfl) | ((with_reducible apply w_loadI); rfl) | ((with_reducible apply w_loadA); rfl; rfl; first | exact Nat.le_refl _ | exact Nat.le_of_ble_eq_true rfl) | ((with_reducible apply a_eqA); rfl; rfl; rfl) | ((with_reducible apply a_loadAI); rfl; first | rfl | simp) | ((with_reducible apply w_new); first | rfl | simp) | ((with_reducible apply a_store); rfl; rfl; rfl; rfl; (first | exact Nat.le_refl _ | simp); (first | rfl | simp); (first | rfl | simp)) | ((with_reducible apply a_lenS); rfl; intro _) | ((with_reducible apply a_len); rfl; (first | rfl | simp); intro _) | ((with_reducible apply a_build); rfl) | ((with_reducible apply a_extr); rfl; rfl) | ((with_reducible apply a_cond); rfl) | ((with_reducible apply a_guard); rfl) | (with_reducible intro _))
      exact .pure (by simp) (by simp [h0, h1]; intro h; simp [h1] at h0; exact absurd h h0)
    · have g1 : decide (w = n) = false := by simpa using h1
      have ll := lgs_len w
      unfold lgV at hL
      by_cases hl : lgs w = []
      · rw [if_pos hl] at hL
        repeat' (first | (with_reducible first | apply w_let | apply w_and | refine And.intro True.intro ?_) | ((with_reducible first | apply a_lss | apply a_leq | apply a_gtr | apply a_geq | apply a_eql | apply a_neq); rfl; rfl) | ((with_reducible first | apply a_eqlS | apply a_neqS | apply a_eqlB | apply a_neqB); rfl; rfl) | ((with_reducible apply w_add); rfl; rfl; first | assumption | (unfold inI; omega)) | ((with_reducible apply w_sub); rfl; rfl; first | assumption | (unfold inI; omega)) | ((with_reducible apply a_not); rfl) | ((with_reducible apply w_pick_t); rfl) | ((with_reducible apply w_pick_f); rfl) | ((with_reducible apply a_cond1); rfl; first | rfl | assumption) | ((with_reducible apply a_cond0); rfl; first | rfl | assumption) | ((with_reducible apply a_guard1); rfl; first | rfl | assumption) | ((with_reducible apply a_guard0); rfl; first | rfl | assumption) | ((with_reducible apply w_guard_u); rfl) | ((with_reducible apply a_pick1); rfl; first | rfl | assumption) | ((with_reducible apply a_pick0); rfl; first | rfl | assumption) | ((with_reducible apply a_pickN); rfl) | ((with_reducible apply a_condN); rfl) | ((with_reducible apply a_guardN); rfl) | ((with_reducible apply w_fad); rfl) | ((with_reducible apply a_fadI); rfl) | ((with_reducible apply w_load); rfl; rfl; rfl) | ((with_reducible apply w_loadI); rfl) | ((with_reducible apply w_loadA); rfl; rfl; first | exact Nat.le_refl _ | exact Nat.le_of_ble_eq_true rfl) | ((with_reducible apply a_eqA); rfl; rfl; rfl) | ((with_reducible apply a_loadAI); rfl; first | rfl | simp) | ((with_reducible apply w_new); first | rfl | simp) | ((with_reducible apply a_store); rfl; rfl; rfl; rfl; (first | exact Nat.le_refl _ | simp); (first | rfl | simp); (first | rfl | simp)) | ((with_reducible apply a_lenS); rfl; intro _) | ((with_reducible apply a_len); rfl; (first | rfl | simp); intro _) | ((with_reducible apply a_build); rfl) | ((with_reducible apply a_extr); rfl; rfl) | (refine iCall_con (by kernel_rfl) (hL) ?_) | ((with_reducible apply a_cond); rfl) | ((with_reducible apply a_guard); rfl) | (with_reducible intro _))
        refine iLoop_of (α := Nat) (fun k => k = 0) (fun k => [int k]) (fun _ => [.blk ⟨39, [.str n, .sl 6 (encVs v), .str w], true⟩]) (fun k => k) 0 rfl (Wk.refl _ _ _ (by simp)) ?_
        rintro k rfl
        repeat' (first | (with_reducible first | apply w_let | apply w_and | refine And.intro True.intro ?_) | ((with_reducible first | apply a_lss | apply a_leq | apply a_gtr | apply a_geq | apply a_eql | apply a_neq); rfl; rfl) | ((with_reducible first | apply a_eqlS | apply a_neqS | apply a_eqlB | apply a_neqB); rfl; rfl) | ((with_reducible apply w_add); rfl; rfl; first | assumption | (unfold inI; omega)) | ((with_reducible apply w_sub); rfl; rfl; first | assumption | (unfold inI; omega)) | ((with_reducible apply a_not); rfl) | ((with_reducible apply w_pick_t); rfl) | ((with_reducible apply w_pick_f); rfl) | ((with_reducible apply a_cond1); rfl; first | rfl | assumption) | ((with_reducible apply a_cond0); rfl; first | rfl | assumption) | ((with_reducible apply a_guard1); rfl; first | rfl | assumption) | ((with_reducible apply a_guard0); rfl; first | rfl | assumption) | ((with_reducible apply w_guard_u); rfl) | ((with_reducible apply a_pick1); rfl; first | rfl | assumption) | ((with_reducible apply a_pick0); rfl; first | rfl | assumption) | ((with_reducible apply a_pickN); rfl) | ((with_reducible apply a_condN); rfl) | ((with_reducible apply a_guardN); rfl) | ((with_reducible apply w_fad); rfl) | ((with_reducible apply a_fadI); rfl) | ((with_reducible apply w_load); rfl; rfl; rfl) | ((with_reducible apply w_loadI); rfl) | ((with_reducible apply w_loadA); rfl; rfl; first | exact Nat.le_refl _ | exact Nat.le_of_ble_eq_true rfl) | ((with_reducible apply a_eqA); rfl; rfl; rfl) | ((with_reducible apply a_loadAI); rfl; first | rfl | simp) | ((with_reducible apply w_new); first | rfl | simp) | ((with_reducible apply a_store); rfl; rfl; rfl; rfl; (first | exact Nat.le_refl _ | simp); (first | rfl | simp); (first | rfl | simp)) | ((with_reducible apply a_lenS); rfl; intro _) | ((with_reducible apply a_len); rfl; (first | rfl | simp); intro _) | ((with_reducible apply a_build); rfl) | ((with_reducible apply a_extr); rfl; rfl) | ((with_reducible apply a_cond); rfl) | ((with_reducible apply a_guard); rfl) | (with_reducible intro _))
        exact .pure (by simp) (by simp [h0, hl])
      · rw [if_neg hl] at hL
        have hlen : (encSt (lgs w)).length = (lgs w).length := by simp [encSt]
        repeat' (first | (with_reducible first | apply w_let | apply w_and | refine And.intro True.intro ?_) | ((with_reducible first | apply a_lss | apply a_leq | apply a_gtr | apply a_geq | apply a_eql | apply a_neq); rfl; rfl) | ((with_reducible first | apply a_eqlS | apply a_neqS | apply a_eqlB | apply a_neqB); rfl; rfl) | ((with_reducible apply w_add); rfl; rfl; first | assumption | (unfold inI; omega)) | ((with_reducible apply w_sub); rfl; rfl; first | assumption | (unfold inI; omega)) | ((with_reducible apply a_not); rfl) | ((with_reducible apply w_pick_t); rfl) | ((with_reducible apply w_pick_f); rfl) | ((with_reducible apply a_cond1); rfl; first | rfl | assumption) | ((with_reducible apply a_cond0); rfl; first | rfl | assumption) | ((with_reducible apply a_guard1); rfl; first | rfl | assumption) | ((with_reducible apply a_guard0); rfl; first | rfl | assumption) | ((with_reducible apply w_guard_u); rfl) | ((with_reducible apply a_pick1); rfl; first | rfl | assumption) | ((with_reducible apply a_pick0); rfl; first | rfl | assumption) | ((with_reducible apply a_pickN); rfl) | ((with_reducible apply a_condN); rfl) | ((with_reducible apply a_guardN); rfl) | ((with_reducible apply w_fad); rfl) | ((with_reducible apply a_fadI); rfl) | ((with_reducible apply w_load); rfl; rfl; rfl) | ((with_reducible apply w_loadI); rfl) | ((with_reducible apply w_loadA); rfl; rfl; first | exact Nat.le_refl _ | exact Nat.le_of_ble_eq_true rfl) | ((with_reducible apply a_eqA); rfl; rfl; rfl) | ((with_reducible apply a_loadAI); rfl; first | rfl | simp) | ((with_reducible apply w_new); first | rfl | simp) | ((with_reducible apply a_store); rfl; rfl; rfl; rfl; (first | exact Nat.le_refl _ | simp); (first | rfl | simp); (first | rfl | simp)) | ((with_reducible apply a_lenS); rfl; intro _) | ((with_reducible apply a_len); rfl; (first | rfl | simp); intro _) | ((with_reducible apply a_build); rfl) | ((with_reducible apply a_extr); rfl; rfl) | (refine iCall_con (by kernel_rfl) (hL) ?_) | ((with_reducible apply a_cond); rfl) | ((with_reducible apply a_guard); rfl) | (with_reducible intro _))
        refine iLoop_of (α := Nat) (fun k => k ≤ (lgs w).length ∧ n ∉ (lgs w).take k) (fun k => [int k]) (fun _ => [.blk ⟨39, [.str n, .sl 6 (encVs v), .str w], true⟩]) (fun k => (lgs w).length - k) 0 (by simp) (Wk.refl _ _ _ (by simp)) ?_
        rintro k ⟨hk, hnot⟩
        rcases Nat.lt_or_ge k (lgs w).length with q | q
        · obtain ⟨s, hs⟩ : ∃ x, (lgs w)[k]? = some x := ⟨(lgs w)[k], List.getElem?_eq_getElem q⟩
          have q1 : decide ((k : Int) < (encSt (lgs w)).length) = true := by rw [hlen]; simpa using q
          have hin : inI ((k : Int) + 1) := by unfold inI; omega
          repeat' (first | (with_reducible first | apply w_let | apply w_and | refine And.intro True.intro ?_) | ((with_reducible first | apply a_lss | apply a_leq | apply a_gtr | apply a_geq | apply a_eql | apply a_neq); rfl; rfl) | ((with_reducible first | apply a_eqlS | apply a_neqS | apply a_eqlB | apply a_neqB); rfl; rfl) | ((with_reducible apply w_add); rfl; rfl; first | assumption | (unfold inI; omega)) | ((with_reducible apply w_sub); rfl; rfl; first | assumption | (unfold inI; omega)) | ((with_reducible apply a_not); rfl) | ((with_reducible apply w_pick_t); rfl) | ((with_reducible apply w_pick_f); rfl) | ((with_reducible apply a_cond1); rfl; first | rfl | assumption) | ((with_reducible apply a_cond0); rfl; first | rfl | assumption) | ((with_reducible apply a_guard1); rfl; first | rfl | assumption) | ((with_reducible apply a_guard0); rfl; first | rfl | assumption) | ((with_reducible apply w_guard_u); rfl) | ((with_reducible apply a_pick1); rfl; first | rfl | assumption) | ((with_reducible apply a_pick0); rfl; first | rfl | assumption) | ((with_reducible apply a_pickN); rfl) | ((with_reducible apply a_condN); rfl) | ((with_reducible apply a_guardN); rfl) | ((with_reducible apply w_fad); rfl) | ((with_reducible apply a_fadI); rfl) | ((with_reducible apply w_load); rfl; rfl; rfl) | ((with_reducible apply w_loadI); rfl) | ((with_reducible apply w_loadA); rfl; rfl; first | exact Nat.le_refl _ | exact Nat.le_of_ble_eq_true rfl) | ((with_reducible apply a_eqA); rfl; rfl; rfl) | ((with_reducible apply a_loadAI); rfl; first | rfl | simp) | ((with_reducible apply w_new); first | rfl | simp) | ((with_reducible apply a_store); rfl; rfl; rfl; rfl; (first | exact Nat.le_refl _ | simp); (first | rfl | simp); (first | rfl | simp)) | ((with_reducible apply a_lenS); rfl; intro _) | ((with_reducible apply a_len); rfl; (first | rfl | simp); intro _) | ((with_reducible apply a_build); rfl) | ((with_reducible apply a_extr); rfl; rfl) | (refine a_idx (f := fun s => [.str s]) rfl rfl rfl hs ?_) | ((with_reducible apply a_cond); rfl) | ((with_reducible apply a_guard); rfl) | (with_reducible intro _))
          · rename_i hc
            refine .pure (by simp) ?_
            have hc : s = n := by simpa using hc
            have : n ∈ lgs w := by rw [← hc]; exact List.mem_of_getElem? hs
            simp [h0, h1, this]
          · rename_i hc
            have hc : s ≠ n := by simpa using hc
            exact ⟨k + 1, ⟨q, by rw [List.take_add_one, hs]; simp; exact ⟨hnot, fun h => hc h.symm⟩⟩, Wk.refl _ _ _ (by simp), by omega⟩
        · have hk : k = (lgs w).length := by omega
          subst hk
          rw [List.take_length] at hnot
          have q1 : decide (((lgs w).length : Int) < (encSt (lgs w)).length) = false := by rw [hlen]; simp
          repeat' (first | (with_reducible first | apply w_let | apply w_and | refine And.intro True.intro ?_) | ((with_reducible first | apply a_lss | apply a_leq | apply a_gtr | apply a_geq | apply a_eql | apply a_neq); rfl; rfl) | ((with_reducible first | apply a_eqlS | apply a_neqS | apply a_eqlB | apply a_neqB); rfl; rfl) | ((with_reducible apply w_add); rfl; rfl; first | assumption | (unfold inI; omega)) | ((with_reducible apply w_sub); rfl; rfl; first | assumption | (unfold inI; omega)) | ((with_reducible apply a_not); rfl) | ((with_reducible apply w_pick_t); rfl) | ((with_reducible apply w_pick_f); rfl) | ((with_reducible apply a_cond1); rfl; first | rfl | assumption) | ((with_reducible apply a_cond0); rfl; first | rfl | assumption) | ((with_reducible apply a_guard1); rfl; first | rfl | assumption) | ((with_reducible apply a_guard0); rfl; first | rfl | assumption) | ((with_reducible apply w_guard_u); rfl) | ((with_reducible apply a_pick1); rfl; first | rfl | assumption) | ((with_reducible apply a_pick0); rfl; first | rfl | assumption) | ((with_reducible apply a_pickN); rfl) | ((with_reducible apply a_condN); rfl) | ((with_reducible apply a_guardN); rfl) | ((with_reducible apply w_fad); rfl) | ((with_reducible apply a_fadI); rfl) | ((with_reducible apply w_load); rfl; rfl; rfl) | ((with_reducible apply w_loadI); rfl) | ((with_reducible apply w_loadA); rfl; rfl; first | exact Nat.le_refl _ | exact Nat.le_of_ble_eq_true rfl) | ((with_reducible apply a_eqA); rfl; rfl; rfl) | ((with_reducible apply a_loadAI); rfl; first | rfl | simp) | ((with_reducible apply w_new); first | rfl | simp) | ((with_reducible apply a_store); rfl; rfl; rfl; rfl; (first | exact Nat.le_refl _ | simp); (first | rfl | simp); (first | rfl | simp)) | ((with_reducible apply a_lenS); rfl; intro _) | ((with_reducible apply a_len); rfl; (first | rfl | simp); intro _) | ((with_reducible apply a_build); rfl) | ((with_reducible apply a_extr); rfl; rfl) | ((with_reducible apply a_cond); rfl) | ((with_reducible apply a_guard); rfl) | (with_reducible intro _))
          exact .pure (by simp) (by simp [h0, h1, hnot])
end Go.Proofs.YtmbpiloibhbmbaaDoor
end
