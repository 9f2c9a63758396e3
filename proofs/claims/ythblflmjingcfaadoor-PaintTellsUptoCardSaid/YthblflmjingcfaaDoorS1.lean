/-
  Values of properties: checked by either way. Values of properties, by the reference; what a property has. What a property has: by either way. What a property has: by the reference.
  No conditions.
-/
import Derived.Test.YthblflmjingcfaaDoorR1
import Derived.Test.YthblflmjingcfaaDoorWSty
import Derived.Test.YthblflmjingcfaaDoorL5
set_option linter.unusedVariables false
set_option linter.unusedSimpArgs false
section
namespace Go.Proofs.YthblflmjingcfaaDoor
open Go Go.Aw
set_option maxRecDepth 100000
/-- A value: kind, word, number, colour. -/
structure Vv where
  kind : Int
  word : Str
  num : Int
  cr : Int
  cg : Int
  cb : Int
  ca : Int
def encW (v : Vv) : List AV := [.v (.int .u8 v.kind), .str v.word, int v.num, .v (.int .u8 v.cr), .v (.int .u8 v.cg), .v (.int .u8 v.cb), .v (.int .u8 v.ca)]
theorem encW_pure (v : Vv) : PureL (encW v) := by simp [encW]
def noCol (v : Vv) : Bool := decide (v.cr = 0) && decide (v.cg = 0) && decide (v.cb = 0) && decide (v.ca = 0)
def upTo (n m : Int) : Bool := decide (-m ≤ n) && decide (n ≤ m)
def okW (v : Vv) : Bool :=
  if v.kind = 1 then decide (v.word ≠ []) && decide (v.num = 0) && noCol v
  else if v.kind = 2 ∨ v.kind = 3 ∨ v.kind = 4 ∨ v.kind = 5 then decide (v.word = []) && noCol v && upTo v.num 1000000000000
  else if v.kind = 6 then decide (v.word = []) && noCol v && upTo v.num 1000000000
  else if v.kind = 7 then decide (v.word = []) && decide (v.num = 0)
  else if v.kind = 8 then decide (v.word = []) && decide (v.num = 0) && noCol v
  else false
def errW (v : Vv) : Int := if okW v = true then 0 else 8
theorem a_quo {x y : AV} {a b c : Int} {K : AV → Prop} (ex : x = int a) (ey : y = int b) (hb : b ≠ 0) (hw : IntKind.i64.wrap (a.tdiv b) = c) (q : K (int c)) : iBin .quo x y K := by
  subst ex; subst ey; subst hw
  exact ⟨rfl, hb, q⟩
theorem a_neg {x : AV} {a : Int} {K : AV → Prop} (ex : x = int a) (hi : inI (0 - a)) (q : K (int (0 - a))) : iNeg x K := by
  subst ex
  exact ⟨_, _, rfl, hi, q⟩
theorem a_minI {x y : AV} {a b : Int} {K : AV → Prop} (ex : x = int a) (ey : y = int b) (q : K (int (min a b))) : iMin x y K := by
  subst ex; subst ey
  refine ⟨rfl, ?_⟩
  rw [show (if b < a then b else a) = min a b by omega]
  exact q
theorem kinds (k : Int) : k = 1 ∨ k = 2 ∨ k = 3 ∨ k = 4 ∨ k = 5 ∨ k = 6 ∨ k = 7 ∨ k = 8 ∨ (k ≠ 1 ∧ k ≠ 2 ∧ k ≠ 3 ∧ k ≠ 4 ∧ k ≠ 5 ∧ k ≠ 6 ∧ k ≠ 7 ∧ k ≠ 8) := by omega
set_option maxHeartbeats 8000000 in
theorem con_vCheck (v : Vv) (hn : inI v.num) : Con Tryd.prog 60 [.agg (encW v)] (int (errW v)) := by
  refine (V60 _).gives (by simp [encW_pure]) (by simp) ?_
  unfold W60
  obtain ⟨k, w, n, r, g, b, a⟩ := v
  simp only at hn
  rw [encW]
  have hq : IntKind.i64.wrap ((1000000000000 : Int).tdiv 1000) = 1000000000 := by decide
  rcases kinds k with rfl | rfl | rfl | rfl | rfl | rfl | rfl | rfl | ⟨k1, k2, k3, k4, k5, k6, k7, k8⟩
  iterate 8
    · repeat' (first | (with_reducible first | apply w_let | apply w_and | refine And.intro True.intro ?_) | ((with_reducible first | apply a_lss | apply a_leq | apply a_gtr | apply a_geq | apply a_eql | apply a_neq); rfl; rfl) | ((with_reducible first | apply a_eqlS | apply a_neqS | apply a_eqlB | apply a_neqB); rfl; rfl) | ((with_reducible apply w_add); rfl; rfl; first | assumption | (unfold inI; omega)) | ((with_reducible apply w_sub); rfl; rfl; first | assumption | (unfold inI; omega)) | ((with_reducible apply a_not); rfl) | ((with_reducible apply w_pick_t); rfl) | ((with_reducible apply w_pick_f); rfl) | ((with_reducible apply a_cond1); rfl; first | rfl | assumption) | ((with_reducible apply a_cond0); rfl; first | rfl | assumption) | ((with_reducible apply a_guard1); rfl; first | rfl | assumption) | ((with_reducible apply a_guard0); rfl; first | rfl | assumption) | ((with_reducible apply w_guard_u); rfl) | ((with_reducible apply a_pick1); rfl; first | rfl | assumption) | ((with_reducible apply a_pick0); rfl; first | rfl | assumption) | ((with_reducible apply a_pickN); rfl) | ((with_reducible apply a_condN); rfl) | ((with_reducible apply a_guardN); rfl) | ((with_reducible apply w_fad); rfl) | ((with_reducible apply a_fadI); rfl) | ((with_reducible apply w_load); rfl; rfl; rfl) | ((with_reducible apply w_loadI); rfl) | ((with_reducible apply w_loadA); rfl; rfl; first | exact Nat.le_refl _ | exact Nat.le_of_ble_eq_true rfl) | ((with_reducible apply a_eqA); rfl; rfl; rfl) | ((with_reducible apply a_loadAI); rfl; first | rfl | simp) | ((with_reducible apply w_new); first | rfl | simp) | ((with_reducible apply a_store); rfl; rfl; rfl; rfl; (first | exact Nat.le_refl _ | simp); (first | rfl | simp); (first | rfl | simp)) | ((with_reducible apply a_lenS); rfl; intro _) | ((with_reducible apply a_len); rfl; (first | rfl | simp); intro _) | ((with_reducible apply a_build); rfl) | ((with_reducible apply a_extr); rfl; rfl) | (refine a_quo rfl rfl (by omega) hq ?_) | (refine a_neg rfl (by unfold inI; omega) ?_) | ((with_reducible apply a_minI); rfl; rfl) | ((with_reducible apply a_maxI); rfl; rfl) | ((with_reducible apply a_cond); rfl) | ((with_reducible apply a_guard); rfl) | (with_reducible intro _))
      all_goals
        refine .pure (by simp) ?_
        simp only [AV.v.injEq, Value.int.injEq, true_and, errW, okW, noCol, upTo]
        grind
  · have g1 : decide (k = 1) = false := by simpa using k1
    have g2 : decide (k = 2) = false := by simpa using k2
    have g3 : decide (k = 3) = false := by simpa using k3
    have g4 : decide (k = 4) = false := by simpa using k4
    have g5 : decide (k = 5) = false := by simpa using k5
    have g6 : decide (k = 6) = false := by simpa using k6
    have g7 : decide (k = 7) = false := by simpa using k7
    have g8 : decide (k = 8) = false := by simpa using k8
    repeat' (first | (with_reducible first | apply w_let | apply w_and | refine And.intro True.intro ?_) | ((with_reducible first | apply a_lss | apply a_leq | apply a_gtr | apply a_geq | apply a_eql | apply a_neq); rfl; rfl) | ((with_reducible first | apply a_eqlS | apply a_neqS | apply a_eqlB | apply a_neqB); rfl; rfl) | ((with_reducible apply w_add); rfl; rfl; first | assumption | (unfold inI; omega)) | ((with_reducible apply w_sub); rfl; rfl; first | assumption | (unfold inI; omega)) | ((with_reducible apply a_not); rfl) | ((with_reducible apply w_pick_t); rfl) | ((with_reducible apply w_pick_f); rfl) | ((with_reducible apply a_cond1); rfl; first | rfl | assumption) | ((with_reducible apply a_cond0); rfl; first | rfl | assumption) | ((with_reducible apply a_guard1); rfl; first | rfl | assumption) | ((with_reducible apply a_guard0); rfl; first | rfl | assumption) | ((with_reducible apply w_guard_u); rfl) | ((with_reducible apply a_pick1); rfl; first | rfl | assumption) | ((with_reducible apply a_pick0); rfl; first | rfl | assumption) | ((with_reducible apply a_pickN); rfl) | ((with_reducible apply a_condN); rfl) | ((with_reducible apply a_guardN); rfl) | ((with_reducible apply w_fad); rfl) | ((with_reducible apply a_fadI); rfl) | ((with_reducible apply w_load); rfl; rfl; rfl) | ((with_reducible apply w_loadI); rfl) | ((with_reducible apply w_loadA); rfl; rfl; first | exact Nat.le_refl _ | exact Nat.le_of_ble_eq_true rfl) | ((with_reducible apply a_eqA); rfl; rfl; rfl) | ((with_reducible apply a_loadAI); rfl; first | rfl | simp) | ((with_reducible apply w_new); first | rfl | simp) | ((with_reducible apply a_store); rfl; rfl; rfl; rfl; (first | exact Nat.le_refl _ | simp); (first | rfl | simp); (first | rfl | simp)) | ((with_reducible apply a_lenS); rfl; intro _) | ((with_reducible apply a_len); rfl; (first | rfl | simp); intro _) | ((with_reducible apply a_build); rfl) | ((with_reducible apply a_extr); rfl; rfl) | ((with_reducible apply a_cond); rfl) | ((with_reducible apply a_guard); rfl) | (with_reducible intro _))
    exact .pure (by simp) (by simp [errW, okW, k1, k2, k3, k4, k5, k6, k7, k8])
end Go.Proofs.YthblflmjingcfaaDoor
end

section
namespace Go.Proofs.YthblflmjingcfaaDoor
open Go Go.Aw
set_option maxRecDepth 100000
set_option maxHeartbeats 8000000 in
theorem con_rvCheck (v : Vv) (hn : inI v.num) : Con Tryd.prog 68 [.agg (encW v)] (int (errW v)) := by
  refine (V68 _).gives (by simp [encW_pure]) (by simp) ?_
  unfold W68
  obtain ⟨k, w, n, r, g, b, a⟩ := v
  simp only at hn
  rw [encW]
  rcases kinds k with rfl | rfl | rfl | rfl | rfl | rfl | rfl | rfl | ⟨k1, k2, k3, k4, k5, k6, k7, k8⟩
  iterate 8
    · repeat' (first | (with_reducible first | apply w_let | apply w_and | refine And.intro True.intro ?_) | ((with_reducible first | apply a_lss | apply a_leq | apply a_gtr | apply a_geq | apply a_eql | apply a_neq); rfl; rfl) | ((with_reducible first | apply a_eqlS | apply a_neqS | apply a_eqlB | apply a_neqB); rfl; rfl) | ((with_reducible apply w_add); rfl; rfl; first | assumption | (unfold inI; omega)) | ((with_reducible apply w_sub); rfl; rfl; first | assumption | (unfold inI; omega)) | ((with_reducible apply a_not); rfl) | ((with_reducible apply w_pick_t); rfl) | ((with_reducible apply w_pick_f); rfl) | ((with_reducible apply a_cond1); rfl; first | rfl | assumption) | ((with_reducible apply a_cond0); rfl; first | rfl | assumption) | ((with_reducible apply a_guard1); rfl; first | rfl | assumption) | ((with_reducible apply a_guard0); rfl; first | rfl | assumption) | ((with_reducible apply w_guard_u); rfl) | ((with_reducible apply a_pick1); rfl; first | rfl | assumption) | ((with_reducible apply a_pick0); rfl; first | rfl | assumption) | ((with_reducible apply a_pickN); rfl) | ((with_reducible apply a_condN); rfl) | ((with_reducible apply a_guardN); rfl) | ((with_reducible apply w_fad); rfl) | ((with_reducible apply a_fadI); rfl) | ((with_reducible apply w_load); rfl; rfl; rfl) | ((with_reducible apply w_loadI); rfl) | ((with_reducible apply w_loadA); rfl; rfl; first | exact Nat.le_refl _ | exact Nat.le_of_ble_eq_true rfl) | ((with_reducible apply a_eqA); rfl; rfl; rfl) | ((with_reducible apply a_loadAI); rfl; first | rfl | simp) | ((with_reducible apply w_new); first | rfl | simp) | ((with_reducible apply a_store); rfl; rfl; rfl; rfl; (first | exact Nat.le_refl _ | simp); (first | rfl | simp); (first | rfl | simp)) | ((with_reducible apply a_lenS); rfl; intro _) | ((with_reducible apply a_len); rfl; (first | rfl | simp); intro _) | ((with_reducible apply a_build); rfl) | ((with_reducible apply a_extr); rfl; rfl) | (refine a_neg rfl (by unfold inI; omega) ?_) | ((with_reducible apply a_cond); rfl) | ((with_reducible apply a_guard); rfl) | (with_reducible intro _))
      all_goals
        refine .pure (by simp) ?_
        simp only [AV.v.injEq, Value.int.injEq, true_and, errW, okW, noCol, upTo]
        grind
  · have g1 : decide (k = 1) = false := by simpa using k1
    have g2 : decide (k = 2) = false := by simpa using k2
    have g3 : decide (k = 3) = false := by simpa using k3
    have g4 : decide (k = 4) = false := by simpa using k4
    have g5 : decide (k = 5) = false := by simpa using k5
    have g6 : decide (k = 6) = false := by simpa using k6
    have g7 : decide (k = 7) = false := by simpa using k7
    have g8 : decide (k = 8) = false := by simpa using k8
    repeat' (first | (with_reducible first | apply w_let | apply w_and | refine And.intro True.intro ?_) | ((with_reducible first | apply a_lss | apply a_leq | apply a_gtr | apply a_geq | apply a_eql | apply a_neq); rfl; rfl) | ((with_reducible first | apply a_eqlS | apply a_neqS | apply a_eqlB | apply a_neqB); rfl; rfl) | ((with_reducible apply w_add); rfl; rfl; first | assumption | (unfold inI; omega)) | ((with_reducible apply w_sub); rfl; rfl; first | assumption | (unfold inI; omega)) | ((with_reducible apply a_not); rfl) | ((with_reducible apply w_pick_t); rfl) | ((with_reducible apply w_pick_f); rfl) | ((with_reducible apply a_cond1); rfl; first | rfl | assumption) | ((with_reducible apply a_cond0); rfl; first | rfl | assumption) | ((with_reducible apply a_guard1); rfl; first | rfl | assumption) | ((with_reducible apply a_guard0); rfl; first | rfl | assumption) | ((with_reducible apply w_guard_u); rfl) | ((with_reducible apply a_pick1); rfl; first | rfl | assumption) | ((with_reducible apply a_pick0); rfl; first | rfl | assumption) | ((with_reducible apply a_pickN); rfl) | ((with_reducible apply a_condN); rfl) | ((with_reducible apply a_guardN); rfl) | ((with_reducible apply w_fad); rfl) | ((with_reducible apply a_fadI); rfl) | ((with_reducible apply w_load); rfl; rfl; rfl) | ((with_reducible apply w_loadI); rfl) | ((with_reducible apply w_loadA); rfl; rfl; first | exact Nat.le_refl _ | exact Nat.le_of_ble_eq_true rfl) | ((with_reducible apply a_eqA); rfl; rfl; rfl) | ((with_reducible apply a_loadAI); rfl; first | rfl | simp) | ((with_reducible apply w_new); first | rfl | simp) | ((with_reducible apply a_store); rfl; rfl; rfl; rfl; (first | exact Nat.le_refl _ | simp); (first | rfl | simp); (first | rfl | simp)) | ((with_reducible apply a_lenS); rfl; intro _) | ((with_reducible apply a_len); rfl; (first | rfl | simp); intro _) | ((with_reducible apply a_build); rfl) | ((with_reducible apply a_extr); rfl; rfl) | ((with_reducible apply a_cond); rfl) | ((with_reducible apply a_guard); rfl) | (with_reducible intro _))
    exact .pure (by simp) (by simp [errW, okW, k1, k2, k3, k4, k5, k6, k7, k8])
end Go.Proofs.YthblflmjingcfaaDoor
end

section
namespace Go.Aw
variable [Laid]
theorem Con.arg {P : Program} {f : FuncId} {args args' : List AV} {r : AV} (c : Con P f args' r) (hl : DLeL args args') (pa : PureL args) : Con P f args r := by
  obtain ⟨_, pr, c⟩ := c
  exact ⟨pa, pr, fun base ι S w vs h1 h2 => c base ι S w vs (RepL.dle hl vs h1) h2⟩
end Go.Aw
namespace Go.Proofs.YthblflmjingcfaaDoor
open Go Go.Aw
set_option maxRecDepth 1000000
def encU (l : List Int) : List (List AV) := l.map fun s => [.v (.int .u8 s)]
theorem encU_pure : ∀ l, PureR (encU l)
  | [] => by simp [encU, PureR]
  | s :: l => by have := encU_pure l; unfold encU at this ⊢; simp only [List.map_cons, PureR]; exact ⟨by simp, this⟩
def idxU (v : Int) : List Int → Nat → Int
  | [], _ => -1
  | s :: l, k => if v = s then k else idxU v l (k + 1)
theorem idxU_drop {v s : Int} {l : List Int} {k : Nat} (h : l[k]? = some s) (n : Nat) : idxU v (l.drop k) n = if v = s then (n : Int) else idxU v (l.drop (k + 1)) (n + 1) := by
  have hk := (List.getElem?_eq_some_iff.1 h).1
  rw [List.drop_eq_getElem_cons hk, idxU, (List.getElem?_eq_some_iff.1 h).2]
theorem idxU_mem (v : Int) : ∀ (l : List Int) (k : Nat), (0 ≤ idxU v l k ↔ v ∈ l)
  | [], k => by simp [idxU]
  | s :: l, k => by
    rw [idxU]
    split
    · rename_i h; subst h; simp
    · rename_i h
      rw [idxU_mem v l (k + 1)]
      simp [h]
theorem con_uIndex (l : List Int) (v : Int) (hl : l.length < 2 ^ 40) : Con Tryd.prog 90 [.sl 1 (encU l), .v (.int .u8 v)] (int (idxU v l 0)) := by
  refine (V90 _ _).gives (by simp [encU_pure]) (by simp) ?_
  unfold W90
  refine a_len (n := l.length) rfl (by simp [encU]) fun _ => ?_
  refine iLoop_of (α := Nat) (fun k => k ≤ l.length ∧ idxU v l 0 = idxU v (l.drop k) k) (fun k => [int k]) (fun _ => []) (fun k => l.length - k) 0 (by simp) (Wk.refl _ _ _ (by simp)) ?_
  rintro k ⟨hk, hf⟩
  refine a_lss rfl rfl ?_
  rcases Nat.lt_or_ge k l.length with q | q
  · obtain ⟨s, hs⟩ : ∃ x, l[k]? = some x := ⟨l[k], List.getElem?_eq_getElem q⟩
    have e := idxU_drop (v := v) hs k
    refine a_cond1 rfl (by simpa using q) ?_
    refine a_idx (f := fun s => [.v (.int .u8 s)]) rfl rfl rfl hs ?_
    refine w_loadI rfl ?_
    refine a_eql rfl rfl ?_
    refine a_cond rfl (fun hc => ?_) (fun hc => ?_)
    · rw [if_pos (by simpa using hc)] at e
      exact .pure (by simp) (by rw [hf, e]; rfl)
    · rw [if_neg (by simpa using hc)] at e
      refine w_add rfl rfl (by unfold inI; omega) ?_
      refine w_and ?_
      exact ⟨k + 1, ⟨q, by rw [hf, e]⟩, Wk.refl _ _ _ (by simp), by omega⟩
  · have hk : k = l.length := by omega
    subst hk
    rw [List.drop_length] at hf
    refine a_cond0 rfl (by simp) ?_
    exact .pure (by simp) (by rw [hf]; rfl)
theorem con_ucont (l : List Int) (v : Int) (hl : l.length < 2 ^ 40) : Con Tryd.prog 62 [.sl 1 (encU l), .v (.int .u8 v)] (bool (decide (v ∈ l))) := by
  refine (V62 _ _).gives (by simp [encU_pure]) (by simp) ?_
  unfold W62
  refine w_call rfl (by kernel_rfl) (con_uIndex l v hl) ?_
  refine a_geq rfl rfl ?_
  refine .pure (by simp) ?_
  have := idxU_mem v l 0
  simp [this]

/-! ### Rows -/
def wAV : Option (List Str) → AV | none => .v (.slice none 0 0) | some l => .sl 1 (encSt l)
def kAV : Option (List Int) → AV | none => .v (.slice none 0 0) | some l => .sl 1 (encU l)
structure Rw where
  name : Str
  inh : Bool
  k : Int
  w : Str
  n : Int
  r : Int
  g : Int
  b : Int
  a : Int
  words : Option (List Str)
  kinds : Option (List Int)
  least : Bool
def encRw (p : Rw) : List AV := [.str p.name, bool p.inh, .v (.int .u8 p.k), .str p.w, int p.n, .v (.int .u8 p.r), .v (.int .u8 p.g), .v (.int .u8 p.b), .v (.int .u8 p.a), wAV p.words, kAV p.kinds, bool p.least]
def dS : AV → Str | .str s => s | _ => []
def dI : AV → Int | .v (.int _ n) => n | _ => 0
def dB : AV → Bool | .v (.bool b) => b | _ => false
def dW : AV → Option (List Str) | .sl _ l => some (l.map fun r => match r with | x :: _ => dS x | _ => []) | _ => none
def dK : AV → Option (List Int) | .sl _ l => some (l.map fun r => match r with | x :: _ => dI x | _ => 0) | _ => none
def decRw (l : List AV) : Rw := match l with
  | [a, b, c, d, e, f, g, h, i, j, k, m] => ⟨dS a, dB b, dI c, dS d, dI e, dI f, dI g, dI h, dI i, dW j, dK k, dB m⟩
  | _ => ⟨[], false, 0, [], 0, 0, 0, 0, 0, none, none, false⟩
def rwP : List Rw := tabP.map decRw
def rwR : List Rw := tabR.map decRw
theorem tabP_rw : tabP = rwP.map encRw := rfl
theorem tabR_rw : tabR = rwR.map encRw := rfl
def tri (p : Rw) : List Str × List Int × Bool := (p.words.getD [], p.kinds.getD [], p.least)
def prT : List (List Str × List Int × Bool) := rwP.map tri
theorem prT_R : rwR.map tri = prT := rfl
theorem rwP_len : rwP.length = 18 := rfl
theorem rwR_len : rwR.length = 18 := rfl
def smallT (t : List Str × List Int × Bool) : Bool := Nat.ble t.1.length 9 && Nat.ble t.2.1.length 9
theorem prT_small : prT.all smallT = true := rfl
theorem prT_get {k : Nat} {t : List Str × List Int × Bool} (h : prT[k]? = some t) : t.1.length ≤ 9 ∧ t.2.1.length ≤ 9 := by
  have := List.all_eq_true.1 prT_small t (List.mem_of_getElem? h)
  unfold smallT at this
  rw [Bool.and_eq_true] at this
  exact ⟨Nat.le_of_ble_eq_true this.1, Nat.le_of_ble_eq_true this.2⟩
theorem prT_P {k : Nat} {p : Rw} (h : rwP[k]? = some p) : prT[k]? = some (tri p) := by unfold prT; rw [List.getElem?_map, h]; rfl
theorem prT_Rr {k : Nat} {p : Rw} (h : rwR[k]? = some p) : prT[k]? = some (tri p) := by rw [← prT_R, List.getElem?_map, h]; rfl
def hasR (t : List Str × List Int × Bool) (v : Vv) : Bool := okW v && (if v.kind = 1 then decide (v.word ∈ t.1) else decide (v.kind ∈ t.2.1) && (!t.2.2 || decide (0 ≤ v.num)))
def hasB (i : Int) (v : Vv) : Bool := if 0 ≤ i ∧ i < 18 then hasR (prT.getD i.toNat ([], [], false)) v else false
def hasV (i : Int) (v : Vv) : AV := .tup [bool (hasB i v), int (if 0 ≤ i ∧ i < 18 then 0 else 2)]
theorem con_wcont (o : Option (List Str)) (v : Str) (h : (o.getD []).length ≤ 9) : Con Tryd.prog 61 [wAV o, .str v] (bool (decide (v ∈ o.getD []))) := by
  cases o with
  | some l => exact con_contains l v (by simp at h; omega)
  | none => exact (con_contains [] v (by simp)).arg (.cons (.nil 1) (.cons (.refl _) .nil)) (by simp [wAV])
theorem con_kcont (o : Option (List Int)) (v : Int) (h : (o.getD []).length ≤ 9) : Con Tryd.prog 62 [kAV o, .v (.int .u8 v)] (bool (decide (v ∈ o.getD []))) := by
  cases o with
  | some l => exact con_ucont l v (by simp at h; omega)
  | none => exact (con_ucont [] v (by simp)).arg (.cons (.nil 1) (.cons (.refl _) .nil)) (by simp [kAV])
theorem errW_neq {v : Vv} : (!decide (errW v = 0)) = !okW v := by unfold errW; cases okW v <;> simp
set_option maxHeartbeats 8000000 in
theorem con_Has (i : Int) (v : Vv) (hn : inI v.num) : Con Tryd.prog 42 [int i, .agg (encW v)] (hasV i v) := by
  refine (V42 _ _).gives (by simp [encW_pure]) (by simp [hasV]) ?_
  unfold W42
  have hC := con_vCheck v hn
  by_cases hi : 0 ≤ i ∧ i < 18
  · obtain ⟨k, rfl⟩ : ∃ k : Nat, i = (k : Int) := ⟨i.toNat, by omega⟩
    have hk : k < 18 := by omega
    obtain ⟨p, hp⟩ : ∃ p, rwP[k]? = some p := ⟨rwP[k]'(by rw [rwP_len]; exact hk), List.getElem?_eq_getElem (by rw [rwP_len]; exact hk)⟩
    have ht := prT_P hp
    obtain ⟨s1, s2⟩ := prT_get ht
    have q1 : decide ((k : Int) < 0) = false := by simp
    have q2 : decide ((18 : Int) ≤ k) = false := by simp; omega
    have hW := con_wcont p.words v.word s1
    have hK := con_kcont p.kinds v.kind s2
    have e : hasV k v = .tup [bool (hasR (tri p) v), int 0] := by
      unfold hasV hasB
      rw [if_pos hi, if_pos hi, Int.toNat_natCast, List.getD_eq_getElem?_getD, ht]; rfl
    rw [e]
    obtain ⟨c, w, n, r, g, b, a⟩ := v
    obtain ⟨pn, pi, pk, pw, pnn, pr, pg, pb, pa, ws, ks, le⟩ := p
    rw [encW] at hC ⊢
    simp only at hW hK hn
    have hx := @errW_neq ⟨c, w, n, r, g, b, a⟩
    cases ho : okW ⟨c, w, n, r, g, b, a⟩ with
    | false =>
      rw [ho] at hx
      cases ws <;> cases ks
      all_goals
        repeat' (first | (with_reducible first | apply w_let | apply w_and | refine And.intro True.intro ?_) | ((with_reducible first | apply a_lss | apply a_leq | apply a_gtr | apply a_geq | apply a_eql | apply a_neq); rfl; rfl) | ((with_reducible first | apply a_eqlS | apply a_neqS | apply a_eqlB | apply a_neqB); rfl; rfl) | ((with_reducible apply w_add); rfl; rfl; first | assumption | (unfold inI; omega)) | ((with_reducible apply w_sub); rfl; rfl; first | assumption | (unfold inI; omega)) | ((with_reducible apply a_not); rfl) | ((with_reducible apply w_pick_t); rfl) | ((with_reducible apply w_pick_f); rfl) | ((with_reducible apply a_cond1); rfl; first | rfl | assumption) | ((with_reducible apply a_cond0); rfl; first | rfl | assumption) | ((with_reducible apply a_guard1); rfl; first | rfl | assumption) | ((with_reducible apply a_guard0); rfl; first | rfl | assumption) | ((with_reducible apply w_guard_u); rfl) | ((with_reducible apply a_pick1); rfl; first | rfl | assumption) | ((with_reducible apply a_pick0); rfl; first | rfl | assumption) | ((with_reducible apply a_pickN); rfl) | ((with_reducible apply a_condN); rfl) | ((with_reducible apply a_guardN); rfl) | ((with_reducible apply w_fad); rfl) | ((with_reducible apply a_fadI); rfl) | ((with_reducible apply w_load); rfl; rfl; rfl) | ((with_reducible apply w_loadI); rfl) | ((with_reducible apply w_loadA); rfl; rfl; first | exact Nat.le_refl _ | exact Nat.le_of_ble_eq_true rfl) | ((with_reducible apply a_eqA); rfl; rfl; rfl) | ((with_reducible apply a_loadAI); rfl; first | rfl | simp) | ((with_reducible apply w_new); first | rfl | simp) | ((with_reducible apply a_store); rfl; rfl; rfl; rfl; (first | exact Nat.le_refl _ | simp); (first | rfl | simp); (first | rfl | simp)) | ((with_reducible apply a_lenS); rfl; intro _) | ((with_reducible apply a_len); rfl; (first | rfl | simp); intro _) | ((with_reducible apply a_build); rfl) | ((with_reducible apply a_extr); rfl; rfl) | (refine iCall_con (by kernel_rfl) (con_Table) ?_) | (refine iCall_con (by kernel_rfl) (hC) ?_) | (refine a_idx rfl tabP_rw rfl hp ?_) | ((with_reducible apply a_cond); rfl) | ((with_reducible apply a_guard); rfl) | (with_reducible intro _))
        exact .pure (by simp) (by simp [hasR, ho])
    | true =>
      rw [ho] at hx
      by_cases hc : c = 1
      · have q3 : decide (c = 1) = true := by simpa using hc
        cases ws <;> cases ks
        all_goals
          repeat' (first | (with_reducible first | apply w_let | apply w_and | refine And.intro True.intro ?_) | ((with_reducible first | apply a_lss | apply a_leq | apply a_gtr | apply a_geq | apply a_eql | apply a_neq); rfl; rfl) | ((with_reducible first | apply a_eqlS | apply a_neqS | apply a_eqlB | apply a_neqB); rfl; rfl) | ((with_reducible apply w_add); rfl; rfl; first | assumption | (unfold inI; omega)) | ((with_reducible apply w_sub); rfl; rfl; first | assumption | (unfold inI; omega)) | ((with_reducible apply a_not); rfl) | ((with_reducible apply w_pick_t); rfl) | ((with_reducible apply w_pick_f); rfl) | ((with_reducible apply a_cond1); rfl; first | rfl | assumption) | ((with_reducible apply a_cond0); rfl; first | rfl | assumption) | ((with_reducible apply a_guard1); rfl; first | rfl | assumption) | ((with_reducible apply a_guard0); rfl; first | rfl | assumption) | ((with_reducible apply w_guard_u); rfl) | ((with_reducible apply a_pick1); rfl; first | rfl | assumption) | ((with_reducible apply a_pick0); rfl; first | rfl | assumption) | ((with_reducible apply a_pickN); rfl) | ((with_reducible apply a_condN); rfl) | ((with_reducible apply a_guardN); rfl) | ((with_reducible apply w_fad); rfl) | ((with_reducible apply a_fadI); rfl) | ((with_reducible apply w_load); rfl; rfl; rfl) | ((with_reducible apply w_loadI); rfl) | ((with_reducible apply w_loadA); rfl; rfl; first | exact Nat.le_refl _ | exact Nat.le_of_ble_eq_true rfl) | ((with_reducible apply a_eqA); rfl; rfl; rfl) | ((with_reducible apply a_loadAI); rfl; first | rfl | simp) | ((with_reducible apply w_new); first | rfl | simp) | ((with_reducible apply a_store); rfl; rfl; rfl; rfl; (first | exact Nat.le_refl _ | simp); (first | rfl | simp); (first | rfl | simp)) | ((with_reducible apply a_lenS); rfl; intro _) | ((with_reducible apply a_len); rfl; (first | rfl | simp); intro _) | ((with_reducible apply a_build); rfl) | ((with_reducible apply a_extr); rfl; rfl) | (refine iCall_con (by kernel_rfl) (con_Table) ?_) | (refine iCall_con (by kernel_rfl) (hC) ?_) | (refine iCall_con (by kernel_rfl) (hW) ?_) | (refine a_idx rfl tabP_rw rfl hp ?_) | ((with_reducible apply a_cond); rfl) | ((with_reducible apply a_guard); rfl) | (with_reducible intro _))
          refine .pure (by simp) ?_
          subst hc
          first
            | (simp [hasR, ho, tri]; done)
            | (simp [hasR, ho, tri]; exact decide_eq_decide.2 Iff.rfl)
      · have q3 : decide (c = 1) = false := by simpa using hc
        cases ws <;> cases ks
        all_goals
          repeat' (first | (with_reducible first | apply w_let | apply w_and | refine And.intro True.intro ?_) | ((with_reducible first | apply a_lss | apply a_leq | apply a_gtr | apply a_geq | apply a_eql | apply a_neq); rfl; rfl) | ((with_reducible first | apply a_eqlS | apply a_neqS | apply a_eqlB | apply a_neqB); rfl; rfl) | ((with_reducible apply w_add); rfl; rfl; first | assumption | (unfold inI; omega)) | ((with_reducible apply w_sub); rfl; rfl; first | assumption | (unfold inI; omega)) | ((with_reducible apply a_not); rfl) | ((with_reducible apply w_pick_t); rfl) | ((with_reducible apply w_pick_f); rfl) | ((with_reducible apply a_cond1); rfl; first | rfl | assumption) | ((with_reducible apply a_cond0); rfl; first | rfl | assumption) | ((with_reducible apply a_guard1); rfl; first | rfl | assumption) | ((with_reducible apply a_guard0); rfl; first | rfl | assumption) | ((with_reducible apply w_guard_u); rfl) | ((with_reducible apply a_pick1); rfl; first | rfl | assumption) | ((with_reducible apply a_pick0); rfl; first | rfl | assumption) | ((with_reducible apply a_pickN); rfl) | ((with_reducible apply a_condN); rfl) | ((with_reducible apply a_guardN); rfl) | ((with_reducible apply w_fad); rfl) | ((with_reducible apply a_fadI); rfl) | ((with_reducible apply w_load); rfl; rfl; rfl) | ((with_reducible apply w_loadI); rfl) | ((with_reducible apply w_loadA); rfl; rfl; first | exact Nat.le_refl _ | exact Nat.le_of_ble_eq_true rfl) | ((with_reducible apply a_eqA); rfl; rfl; rfl) | ((with_reducible apply a_loadAI); rfl; first | rfl | simp) | ((with_reducible apply w_new); first | rfl | simp) | ((with_reducible apply a_store); rfl; rfl; rfl; rfl; (first | exact Nat.le_refl _ | simp); (first | rfl | simp); (first | rfl | simp)) | ((with_reducible apply a_lenS); rfl; intro _) | ((with_reducible apply a_len); rfl; (first | rfl | simp); intro _) | ((with_reducible apply a_build); rfl) | ((with_reducible apply a_extr); rfl; rfl) | (refine iCall_con (by kernel_rfl) (con_Table) ?_) | (refine iCall_con (by kernel_rfl) (hC) ?_) | (refine iCall_con (by kernel_rfl) (hK) ?_) | (refine a_idx rfl tabP_rw rfl hp ?_) | ((with_reducible apply a_cond); rfl) | ((with_reducible apply a_guard); rfl) | (with_reducible intro _))
          all_goals exact .pure (by simp) (by simp_all [hasR, ho, tri, hc])
  · have e : hasV i v = .tup [ff, int 2] := by unfold hasV hasB; rw [if_neg hi, if_neg hi]
    rw [e]
    have g : i < 0 ∨ 18 ≤ i := by omega
    rw [encW]
    rcases g with g | g
    · have q1 : decide (i < 0) = true := by simpa using g
      repeat' (first | (with_reducible first | apply w_let | apply w_and | refine And.intro True.intro ?_) | ((with_reducible first | apply a_lss | apply a_leq | apply a_gtr | apply a_geq | apply a_eql | apply a_neq); rfl; rfl) | ((with_reducible first | apply a_eqlS | apply a_neqS | apply a_eqlB | apply a_neqB); rfl; rfl) | ((with_reducible apply w_add); rfl; rfl; first | assumption | (unfold inI; omega)) | ((with_reducible apply w_sub); rfl; rfl; first | assumption | (unfold inI; omega)) | ((with_reducible apply a_not); rfl) | ((with_reducible apply w_pick_t); rfl) | ((with_reducible apply w_pick_f); rfl) | ((with_reducible apply a_cond1); rfl; first | rfl | assumption) | ((with_reducible apply a_cond0); rfl; first | rfl | assumption) | ((with_reducible apply a_guard1); rfl; first | rfl | assumption) | ((with_reducible apply a_guard0); rfl; first | rfl | assumption) | ((with_reducible apply w_guard_u); rfl) | ((with_reducible apply a_pick1); rfl; first | rfl | assumption) | ((with_reducible apply a_pick0); rfl; first | rfl | assumption) | ((with_reducible apply a_pickN); rfl) | ((with_reducible apply a_condN); rfl) | ((with_reducible apply a_guardN); rfl) | ((with_reducible apply w_fad); rfl) | ((with_reducible apply a_fadI); rfl) | ((with_reducible apply w_load); rfl; rfl; rfl) | ((with_reducible apply w_loadI); rfl) | ((with_reducible apply w_loadA); rfl; rfl; first | exact Nat.le_refl _ | exact Nat.le_of_ble_eq_true rfl) | ((with_reducible apply a_eqA); rfl; rfl; rfl) | ((with_reducible apply a_loadAI); rfl; first | rfl | simp) | ((with_reducible apply w_new); first | rfl | simp) | ((with_reducible apply a_store); rfl; rfl; rfl; rfl; (first | exact Nat.le_refl _ | simp); (first | rfl | simp); (first | rfl | simp)) | ((with_reducible apply a_lenS); rfl; intro _) | ((with_reducible apply a_len); rfl; (first | rfl | simp); intro _) | ((with_reducible apply a_build); rfl) | ((with_reducible apply a_extr); rfl; rfl) | ((with_reducible apply a_cond); rfl) | ((with_reducible apply a_guard); rfl) | (with_reducible intro _))
      exact .pure (by simp) rfl
    · have q1 : decide (i < 0) = false := by simp; omega
      have q2 : decide (18 ≤ i) = true := by simpa using g
      repeat' (first | (with_reducible first | apply w_let | apply w_and | refine And.intro True.intro ?_) | ((with_reducible first | apply a_lss | apply a_leq | apply a_gtr | apply a_geq | apply a_eql | apply a_neq); rfl; rfl) | ((with_reducible first | apply a_eqlS | apply a_neqS | apply a_eqlB | apply a_neqB); rfl; rfl) | ((with_reducible apply w_add); rfl; rfl; first | assumption | (unfold inI; omega)) | ((with_reducible apply w_sub); rfl; rfl; first | assumption | (unfold inI; omega)) | ((with_reducible apply a_not); rfl) | ((with_reducible apply w_pick_t); rfl) | ((with_reducible apply w_pick_f); rfl) | ((with_reducible apply a_cond1); rfl; first | rfl | assumption) | ((with_reducible apply a_cond0); rfl; first | rfl | assumption) | ((with_reducible apply a_guard1); rfl; first | rfl | assumption) | ((with_reducible apply a_guard0); rfl; first | rfl | assumption) | ((with_reducible apply w_guard_u); rfl) | ((with_reducible apply a_pick1); rfl; first | rfl | assumption) | ((with_reducible apply a_pick0); rfl; first | rfl | assumption) | ((with_reducible apply a_pickN); rfl) | ((with_reducible apply a_condN); rfl) | ((with_reducible apply a_guardN); rfl) | ((with_reducible apply w_fad); rfl) | ((with_reducible apply a_fadI); rfl) | ((with_reducible apply w_load); rfl; rfl; rfl) | ((with_reducible apply w_loadI); rfl) | ((with_reducible apply w_loadA); rfl; rfl; first | exact Nat.le_refl _ | exact Nat.le_of_ble_eq_true rfl) | ((with_reducible apply a_eqA); rfl; rfl; rfl) | ((with_reducible apply a_loadAI); rfl; first | rfl | simp) | ((with_reducible apply w_new); first | rfl | simp) | ((with_reducible apply a_store); rfl; rfl; rfl; rfl; (first | exact Nat.le_refl _ | simp); (first | rfl | simp); (first | rfl | simp)) | ((with_reducible apply a_lenS); rfl; intro _) | ((with_reducible apply a_len); rfl; (first | rfl | simp); intro _) | ((with_reducible apply a_build); rfl) | ((with_reducible apply a_extr); rfl; rfl) | ((with_reducible apply a_cond); rfl) | ((with_reducible apply a_guard); rfl) | (with_reducible intro _))
      exact .pure (by simp) rfl
end Go.Proofs.YthblflmjingcfaaDoor
end

section
namespace Go.Proofs.YthblflmjingcfaaDoor
open Go Go.Aw
set_option maxRecDepth 1000000
def ws (p : Rw) : List Str := p.words.getD []
def ks (p : Rw) : List Int := p.kinds.getD []
def encRx (p : Rw) : List AV := [.str p.name, bool p.inh, .v (.int .u8 p.k), .str p.w, int p.n, .v (.int .u8 p.r), .v (.int .u8 p.g), .v (.int .u8 p.b), .v (.int .u8 p.a), .sl 1 (encSt (ws p)), .sl 1 (encU (ks p)), bool p.least]
theorem wAV_dle (o : Option (List Str)) : DLe (wAV o) (.sl 1 (encSt (o.getD []))) := by
  cases o with
  | none => exact .nil 1
  | some l => exact .refl _
theorem kAV_dle (o : Option (List Int)) : DLe (kAV o) (.sl 1 (encU (o.getD []))) := by
  cases o with
  | none => exact .nil 1
  | some l => exact .refl _
theorem encRx_dle (p : Rw) : DLeL (encRw p) (encRx p) := by
  unfold encRw encRx
  iterate 9 refine .cons (.refl _) ?_
  exact .cons (wAV_dle _) (.cons (kAV_dle _) (.cons (.refl _) .nil))
theorem encRxs_dle : ∀ l : List Rw, DLeR (l.map encRw) (l.map encRx)
  | [] => .nil
  | p :: l => .cons (encRx_dle p) (encRxs_dle l)
theorem encRx_pure (p : Rw) : PureL (encRx p) := by simp [encRx, encSt_pure, encU_pure]
theorem encRxs_pure : ∀ l : List Rw, PureR (l.map encRx)
  | [] => by simp [PureR]
  | p :: l => by simp only [List.map_cons, PureR]; exact ⟨encRx_pure p, encRxs_pure l⟩
theorem con_rTabX : Con Tryd.prog 67 [] (.sl 12 (rwR.map encRx)) := by
  have := con_rTable
  rw [tabR_rw] at this
  exact this.dle (.sl (encRxs_dle _)) (by simp [encRxs_pure])
set_option maxHeartbeats 8000000 in
theorem con_rHas (i : Int) (v : Vv) (hn : inI v.num) : Con Tryd.prog 44 [int i, .agg (encW v)] (hasV i v) := by
  refine (V44 _ _).gives (by simp [encW_pure]) (by simp [hasV]) ?_
  unfold W44
  have hC := con_rvCheck v hn
  have hL : (rwR.map encRx).length = 18 := rfl
  by_cases hi : 0 ≤ i ∧ i < 18
  · obtain ⟨k, rfl⟩ : ∃ k : Nat, i = (k : Int) := ⟨i.toNat, by omega⟩
    have hk : k < 18 := by omega
    obtain ⟨p, hp⟩ : ∃ p, rwR[k]? = some p := ⟨rwR[k]'(by rw [rwR_len]; exact hk), List.getElem?_eq_getElem (by rw [rwR_len]; exact hk)⟩
    have ht := prT_Rr hp
    obtain ⟨s1, s2⟩ := prT_get ht
    have s1 : (ws p).length ≤ 9 := s1
    have s2 : (ks p).length ≤ 9 := s2
    have q1 : decide ((k : Int) < 0) = false := by simp
    have q2 : decide (((18 : Nat) : Int) ≤ (k : Int)) = false := by simp; omega
    have e : hasV k v = .tup [bool (hasR (tri p) v), int 0] := by
      unfold hasV hasB
      rw [if_pos hi, if_pos hi, Int.toNat_natCast, List.getD_eq_getElem?_getD, ht]; rfl
    rw [e]
    have et : tri p = (ws p, ks p, p.least) := rfl
    rw [et]
    obtain ⟨c, w, n, r, g, b, a⟩ := v
    rw [encW] at hC ⊢
    simp only at hn
    have hx := @errW_neq ⟨c, w, n, r, g, b, a⟩
    cases ho : okW ⟨c, w, n, r, g, b, a⟩ with
    | false =>
      rw [ho] at hx
      repeat' (first | (refine a_len (n := 18) rfl hL fun _ => ?_) | (with_reducible first | apply w_let | apply w_and | refine And.intro True.intro ?_) | ((with_reducible first | apply a_lss | apply a_leq | apply a_gtr | apply a_geq | apply a_eql | apply a_neq); rfl; rfl) | ((with_reducible first | apply a_eqlS | apply a_neqS | apply a_eqlB | apply a_neqB); rfl; rfl) | ((with_reducible apply w_add); rfl; rfl; first | assumption | (unfold inI; omega)) | ((with_reducible apply w_sub); rfl; rfl; first | assumption | (unfold inI; omega)) | ((with_reducible apply a_not); rfl) | ((with_reducible apply w_pick_t); rfl) | ((with_reducible apply w_pick_f); rfl) | ((with_reducible apply a_cond1); rfl; first | rfl | assumption) | ((with_reducible apply a_cond0); rfl; first | rfl | assumption) | ((with_reducible apply a_guard1); rfl; first | rfl | assumption) | ((with_reducible apply a_guard0); rfl; first | rfl | assumption) | ((with_reducible apply w_guard_u); rfl) | ((with_reducible apply a_pick1); rfl; first | rfl | assumption) | ((with_reducible apply a_pick0); rfl; first | rfl | assumption) | ((with_reducible apply a_pickN); rfl) | ((with_reducible apply a_condN); rfl) | ((with_reducible apply a_guardN); rfl) | ((with_reducible apply w_fad); rfl) | ((with_reducible apply a_fadI); rfl) | ((with_reducible apply w_load); rfl; rfl; rfl) | ((with_reducible apply w_loadI); rfl) | ((with_reducible apply w_loadA); rfl; rfl; first | exact Nat.le_refl _ | exact Nat.le_of_ble_eq_true rfl) | ((with_reducible apply a_eqA); rfl; rfl; rfl) | ((with_reducible apply a_loadAI); rfl; first | rfl | simp) | ((with_reducible apply w_new); first | rfl | simp) | ((with_reducible apply a_store); rfl; rfl; rfl; rfl; (first | exact Nat.le_refl _ | simp); (first | rfl | simp); (first | rfl | simp)) | ((with_reducible apply a_lenS); rfl; intro _) | ((with_reducible apply a_len); rfl; (first | rfl | simp); intro _) | ((with_reducible apply a_build); rfl) | ((with_reducible apply a_extr); rfl; rfl) | (refine iCall_con (by kernel_rfl) (con_rTabX) ?_) | (refine iCall_con (by kernel_rfl) (hC) ?_) | ((with_reducible apply a_cond); rfl) | ((with_reducible apply a_guard); rfl) | (with_reducible intro _))
      exact .pure (by simp) (by simp [hasR, ho])
    | true =>
      rw [ho] at hx
      by_cases hc : c = 1
      · have q3 : decide (c = 1) = true := by simpa using hc
        repeat' (first | (refine a_len (n := 18) rfl hL fun _ => ?_) | (with_reducible first | apply w_let | apply w_and | refine And.intro True.intro ?_) | ((with_reducible first | apply a_lss | apply a_leq | apply a_gtr | apply a_geq | apply a_eql | apply a_neq); rfl; rfl) | ((with_reducible first | apply a_eqlS | apply a_neqS | apply a_eqlB | apply a_neqB); rfl; rfl) | ((with_reducible apply w_add); rfl; rfl; first | assumption | (unfold inI; omega)) | ((with_reducible apply w_sub); rfl; rfl; first | assumption | (unfold inI; omega)) | ((with_reducible apply a_not); rfl) | ((with_reducible apply w_pick_t); rfl) | ((with_reducible apply w_pick_f); rfl) | ((with_reducible apply a_cond1); rfl; first | rfl | assumption) | ((with_reducible apply a_cond0); rfl; first | rfl | assumption) | ((with_reducible apply a_guard1); rfl; first | rfl | assumption) | ((with_reducible apply a_guard0); rfl; first | rfl | assumption) | ((with_reducible apply w_guard_u); rfl) | ((with_reducible apply a_pick1); rfl; first | rfl | assumption) | ((with_reducible apply a_pick0); rfl; first | rfl | assumption) | ((with_reducible apply a_pickN); rfl) | ((with_reducible apply a_condN); rfl) | ((with_reducible apply a_guardN); rfl) | ((with_reducible apply w_fad); rfl) | ((with_reducible apply a_fadI); rfl) | ((with_reducible apply w_load); rfl; rfl; rfl) | ((with_reducible apply w_loadI); rfl) | ((with_reducible apply w_loadA); rfl; rfl; first | exact Nat.le_refl _ | exact Nat.le_of_ble_eq_true rfl) | ((with_reducible apply a_eqA); rfl; rfl; rfl) | ((with_reducible apply a_loadAI); rfl; first | rfl | simp) | ((with_reducible apply w_new); first | rfl | simp) | ((with_reducible apply a_store); rfl; rfl; rfl; rfl; (first | exact Nat.le_refl _ | simp); (first | rfl | simp); (first | rfl | simp)) | ((with_reducible apply a_lenS); rfl; intro _) | ((with_reducible apply a_len); rfl; (first | rfl | simp); intro _) | ((with_reducible apply a_build); rfl) | ((with_reducible apply a_extr); rfl; rfl) | (refine iCall_con (by kernel_rfl) (con_rTabX) ?_) | (refine iCall_con (by kernel_rfl) (hC) ?_) | (refine a_idx rfl rfl rfl hp ?_) | ((with_reducible apply a_cond); rfl) | ((with_reducible apply a_guard); rfl) | (with_reducible intro _))
        subst hc
        refine iLoop_of (α := Nat) (fun k => k ≤ (ws p).length ∧ w ∉ (ws p).take k) (fun k => [int k]) (fun _ => _) (fun k => (ws p).length - k) 0 (by simp) (Wk.refl _ _ _ (by simp)) ?_
        rintro k ⟨hk, hnot⟩
        rcases Nat.lt_or_ge k (ws p).length with q | q
        · obtain ⟨s, hs⟩ : ∃ x, (ws p)[k]? = some x := ⟨(ws p)[k], List.getElem?_eq_getElem q⟩
          have g1 : decide ((k : Int) < ((ws p).length : Nat)) = true := by simpa using q
          have gi : inI ((k : Int) + 1) := by unfold inI; omega
          repeat' (first | (refine a_len (n := (ws p).length) rfl (by simp [encSt]) fun _ => ?_) | (with_reducible first | apply w_let | apply w_and | refine And.intro True.intro ?_) | ((with_reducible first | apply a_lss | apply a_leq | apply a_gtr | apply a_geq | apply a_eql | apply a_neq); rfl; rfl) | ((with_reducible first | apply a_eqlS | apply a_neqS | apply a_eqlB | apply a_neqB); rfl; rfl) | ((with_reducible apply w_add); rfl; rfl; first | assumption | (unfold inI; omega)) | ((with_reducible apply w_sub); rfl; rfl; first | assumption | (unfold inI; omega)) | ((with_reducible apply a_not); rfl) | ((with_reducible apply w_pick_t); rfl) | ((with_reducible apply w_pick_f); rfl) | ((with_reducible apply a_cond1); rfl; first | rfl | assumption) | ((with_reducible apply a_cond0); rfl; first | rfl | assumption) | ((with_reducible apply a_guard1); rfl; first | rfl | assumption) | ((with_reducible apply a_guard0); rfl; first | rfl | assumption) | ((with_reducible apply w_guard_u); rfl) | ((with_reducible apply a_pick1); rfl; first | rfl | assumption) | ((with_reducible apply a_pick0); rfl; first | rfl | assumption) | ((with_reducible apply a_pickN); rfl) | ((with_reducible apply a_condN); rfl) | ((with_reducible apply a_guardN); rfl) | ((with_reducible apply w_fad); rfl) | ((with_reducible apply a_fadI); rfl) | ((with_reducible apply w_load); rfl; rfl; rfl) | ((with_reducible apply w_loadI); rfl) | ((with_reducible apply w_loadA); rfl; rfl; first | exact Nat.le_refl _ | exact Nat.le_of_ble_eq_true rfl) | ((with_reducible apply a_eqA); rfl; rfl; rfl) | ((with_reducible apply a_loadAI); rfl; first | rfl | simp) | ((with_reducible apply w_new); first | rfl | simp) | ((with_reducible apply a_store); rfl; rfl; rfl; rfl; (first | exact Nat.le_refl _ | simp); (first | rfl | simp); (first | rfl | simp)) | ((with_reducible apply a_lenS); rfl; intro _) | ((with_reducible apply a_len); rfl; (first | rfl | simp); intro _) | ((with_reducible apply a_build); rfl) | ((with_reducible apply a_extr); rfl; rfl) | (refine a_idx (f := fun s => [.str s]) rfl rfl rfl hs ?_) | ((with_reducible apply a_cond); rfl) | ((with_reducible apply a_guard); rfl) | (with_reducible intro _))
          · rename_i hc
            have hc : s = w := by simpa using hc
            have : w ∈ ws p := by rw [← hc]; exact List.mem_of_getElem? hs
            exact .pure (by simp) (by simp [hasR, ho, this])
          · rename_i hc
            have hc : s ≠ w := by simpa using hc
            exact ⟨k + 1, ⟨q, by rw [List.take_add_one, hs]; simp; exact ⟨hnot, fun h => hc h.symm⟩⟩, Wk.refl _ _ _ (by simp), by omega⟩
        · have hk : k = (ws p).length := by omega
          subst hk
          rw [List.take_length] at hnot
          have g1 : decide ((((ws p).length : Nat) : Int) < ((ws p).length : Nat)) = false := by simp
          repeat' (first | (refine a_len (n := (ws p).length) rfl (by simp [encSt]) fun _ => ?_) | (with_reducible first | apply w_let | apply w_and | refine And.intro True.intro ?_) | ((with_reducible first | apply a_lss | apply a_leq | apply a_gtr | apply a_geq | apply a_eql | apply a_neq); rfl; rfl) | ((with_reducible first | apply a_eqlS | apply a_neqS | apply a_eqlB | apply a_neqB); rfl; rfl) | ((with_reducible apply w_add); rfl; rfl; first | assumption | (unfold inI; omega)) | ((with_reducible apply w_sub); rfl; rfl; first | assumption | (unfold inI; omega)) | ((with_reducible apply a_not); rfl) | ((with_reducible apply w_pick_t); rfl) | ((with_reducible apply w_pick_f); rfl) | ((with_reducible apply a_cond1); rfl; first | rfl | assumption) | ((with_reducible apply a_cond0); rfl; first | rfl | assumption) | ((with_reducible apply a_guard1); rfl; first | rfl | assumption) | ((with_reducible apply a_guard0); rfl; first | rfl | assumption) | ((with_reducible apply w_guard_u); rfl) | ((with_reducible apply a_pick1); rfl; first | rfl | assumption) | ((with_reducible apply a_pick0); rfl; first | rfl | assumption) | ((with_reducible apply a_pickN); rfl) | ((with_reducible apply a_condN); rfl) | ((with_reducible apply a_guardN); rfl) | ((with_reducible apply w_fad); rfl) | ((with_reducible apply a_fadI); rfl) | ((with_reducible apply w_load); rfl; rfl; rfl) | ((with_reducible apply w_loadI); rfl) | ((with_reducible apply w_loadA); rfl; rfl; first | exact Nat.le_refl _ | exact Nat.le_of_ble_eq_true rfl) | ((with_reducible apply a_eqA); rfl; rfl; rfl) | ((with_reducible apply a_loadAI); rfl; first | rfl | simp) | ((with_reducible apply w_new); first | rfl | simp) | ((with_reducible apply a_store); rfl; rfl; rfl; rfl; (first | exact Nat.le_refl _ | simp); (first | rfl | simp); (first | rfl | simp)) | ((with_reducible apply a_lenS); rfl; intro _) | ((with_reducible apply a_len); rfl; (first | rfl | simp); intro _) | ((with_reducible apply a_build); rfl) | ((with_reducible apply a_extr); rfl; rfl) | ((with_reducible apply a_cond); rfl) | ((with_reducible apply a_guard); rfl) | (with_reducible intro _))
          exact .pure (by simp) (by simp [hasR, ho, hnot])
      · have q3 : decide (c = 1) = false := by simpa using hc
        repeat' (first | (refine a_len (n := 18) rfl hL fun _ => ?_) | (with_reducible first | apply w_let | apply w_and | refine And.intro True.intro ?_) | ((with_reducible first | apply a_lss | apply a_leq | apply a_gtr | apply a_geq | apply a_eql | apply a_neq); rfl; rfl) | ((with_reducible first | apply a_eqlS | apply a_neqS | apply a_eqlB | apply a_neqB); rfl; rfl) | ((with_reducible apply w_add); rfl; rfl; first | assumption | (unfold inI; omega)) | ((with_reducible apply w_sub); rfl; rfl; first | assumption | (unfold inI; omega)) | ((with_reducible apply a_not); rfl) | ((with_reducible apply w_pick_t); rfl) | ((with_reducible apply w_pick_f); rfl) | ((with_reducible apply a_cond1); rfl; first | rfl | assumption) | ((with_reducible apply a_cond0); rfl; first | rfl | assumption) | ((with_reducible apply a_guard1); rfl; first | rfl | assumption) | ((with_reducible apply a_guard0); rfl; first | rfl | assumption) | ((with_reducible apply w_guard_u); rfl) | ((with_reducible apply a_pick1); rfl; first | rfl | assumption) | ((with_reducible apply a_pick0); rfl; first | rfl | assumption) | ((with_reducible apply a_pickN); rfl) | ((with_reducible apply a_condN); rfl) | ((with_reducible apply a_guardN); rfl) | ((with_reducible apply w_fad); rfl) | ((with_reducible apply a_fadI); rfl) | ((with_reducible apply w_load); rfl; rfl; rfl) | ((with_reducible apply w_loadI); rfl) | ((with_reducible apply w_loadA); rfl; rfl; first | exact Nat.le_refl _ | exact Nat.le_of_ble_eq_true rfl) | ((with_reducible apply a_eqA); rfl; rfl; rfl) | ((with_reducible apply a_loadAI); rfl; first | rfl | simp) | ((with_reducible apply w_new); first | rfl | simp) | ((with_reducible apply a_store); rfl; rfl; rfl; rfl; (first | exact Nat.le_refl _ | simp); (first | rfl | simp); (first | rfl | simp)) | ((with_reducible apply a_lenS); rfl; intro _) | ((with_reducible apply a_len); rfl; (first | rfl | simp); intro _) | ((with_reducible apply a_build); rfl) | ((with_reducible apply a_extr); rfl; rfl) | (refine iCall_con (by kernel_rfl) (con_rTabX) ?_) | (refine iCall_con (by kernel_rfl) (hC) ?_) | (refine a_idx rfl rfl rfl hp ?_) | ((with_reducible apply a_cond); rfl) | ((with_reducible apply a_guard); rfl) | (with_reducible intro _))
        refine iLoop_of (α := Nat) (fun k => k ≤ (ks p).length ∧ c ∉ (ks p).take k) (fun k => [int k]) (fun _ => _) (fun k => (ks p).length - k) 0 (by simp) (Wk.refl _ _ _ (by simp)) ?_
        rintro k ⟨hk, hnot⟩
        rcases Nat.lt_or_ge k (ks p).length with q | q
        · obtain ⟨s, hs⟩ : ∃ x, (ks p)[k]? = some x := ⟨(ks p)[k], List.getElem?_eq_getElem q⟩
          have g1 : decide ((k : Int) < ((ks p).length : Nat)) = true := by simpa using q
          have gi : inI ((k : Int) + 1) := by unfold inI; omega
          by_cases hs2 : s = c
          · subst hs2
            have : s ∈ ks p := List.mem_of_getElem? hs
            have g2 : decide (s = s) = true := by simp
            repeat' (first | (refine a_len (n := (ks p).length) rfl (by simp [encU]) fun _ => ?_) | (with_reducible first | apply w_let | apply w_and | refine And.intro True.intro ?_) | ((with_reducible first | apply a_lss | apply a_leq | apply a_gtr | apply a_geq | apply a_eql | apply a_neq); rfl; rfl) | ((with_reducible first | apply a_eqlS | apply a_neqS | apply a_eqlB | apply a_neqB); rfl; rfl) | ((with_reducible apply w_add); rfl; rfl; first | assumption | (unfold inI; omega)) | ((with_reducible apply w_sub); rfl; rfl; first | assumption | (unfold inI; omega)) | ((with_reducible apply a_not); rfl) | ((with_reducible apply w_pick_t); rfl) | ((with_reducible apply w_pick_f); rfl) | ((with_reducible apply a_cond1); rfl; first | rfl | assumption) | ((with_reducible apply a_cond0); rfl; first | rfl | assumption) | ((with_reducible apply a_guard1); rfl; first | rfl | assumption) | ((with_reducible apply a_guard0); rfl; first | rfl | assumption) | ((with_reducible apply w_guard_u); rfl) | ((with_reducible apply a_pick1); rfl; first | rfl | assumption) | ((with_reducible apply a_pick0); rfl; first | rfl | assumption) | ((with_reducible apply a_pickN); rfl) | ((with_reducible apply a_condN); rfl) | ((with_reducible apply a_guardN); rfl) | ((with_reducible apply w_fad); rfl) | ((with_reducible apply a_fadI); rfl) | ((with_reducible apply w_load); rfl; rfl; rfl) | ((with_reducible apply w_loadI); rfl) | ((with_reducible apply w_loadA); rfl; rfl; first | exact Nat.le_refl _ | exact Nat.le_of_ble_eq_true rfl) | ((with_reducible apply a_eqA); rfl; rfl; rfl) | ((with_reducible apply a_loadAI); rfl; first | rfl | simp) | ((with_reducible apply w_new); first | rfl | simp) | ((with_reducible apply a_store); rfl; rfl; rfl; rfl; (first | exact Nat.le_refl _ | simp); (first | rfl | simp); (first | rfl | simp)) | ((with_reducible apply a_lenS); rfl; intro _) | ((with_reducible apply a_len); rfl; (first | rfl | simp); intro _) | ((with_reducible apply a_build); rfl) | ((with_reducible apply a_extr); rfl; rfl) | (refine a_idx (f := fun s => [.v (.int .u8 s)]) rfl rfl rfl hs ?_) | ((with_reducible apply a_cond); rfl) | ((with_reducible apply a_guard); rfl) | (with_reducible intro _))
            all_goals exact .pure (by simp) (by simp_all [hasR, ho, this, hc])
          · have g2 : decide (s = c) = false := by simpa using hs2
            repeat' (first | (refine a_len (n := (ks p).length) rfl (by simp [encU]) fun _ => ?_) | (with_reducible first | apply w_let | apply w_and | refine And.intro True.intro ?_) | ((with_reducible first | apply a_lss | apply a_leq | apply a_gtr | apply a_geq | apply a_eql | apply a_neq); rfl; rfl) | ((with_reducible first | apply a_eqlS | apply a_neqS | apply a_eqlB | apply a_neqB); rfl; rfl) | ((with_reducible apply w_add); rfl; rfl; first | assumption | (unfold inI; omega)) | ((with_reducible apply w_sub); rfl; rfl; first | assumption | (unfold inI; omega)) | ((with_reducible apply a_not); rfl) | ((with_reducible apply w_pick_t); rfl) | ((with_reducible apply w_pick_f); rfl) | ((with_reducible apply a_cond1); rfl; first | rfl | assumption) | ((with_reducible apply a_cond0); rfl; first | rfl | assumption) | ((with_reducible apply a_guard1); rfl; first | rfl | assumption) | ((with_reducible apply a_guard0); rfl; first | rfl | assumption) | ((with_reducible apply w_guard_u); rfl) | ((with_reducible apply a_pick1); rfl; first | rfl | assumption) | ((with_reducible apply a_pick0); rfl; first | rfl | assumption) | ((with_reducible apply a_pickN); rfl) | ((with_reducible apply a_condN); rfl) | ((with_reducible apply a_guardN); rfl) | ((with_reducible apply w_fad); rfl) | ((with_reducible apply a_fadI); rfl) | ((with_reducible apply w_load); rfl; rfl; rfl) | ((with_reducible apply w_loadI); rfl) | ((with_reducible apply w_loadA); rfl; rfl; first | exact Nat.le_refl _ | exact Nat.le_of_ble_eq_true rfl) | ((with_reducible apply a_eqA); rfl; rfl; rfl) | ((with_reducible apply a_loadAI); rfl; first | rfl | simp) | ((with_reducible apply w_new); first | rfl | simp) | ((with_reducible apply a_store); rfl; rfl; rfl; rfl; (first | exact Nat.le_refl _ | simp); (first | rfl | simp); (first | rfl | simp)) | ((with_reducible apply a_lenS); rfl; intro _) | ((with_reducible apply a_len); rfl; (first | rfl | simp); intro _) | ((with_reducible apply a_build); rfl) | ((with_reducible apply a_extr); rfl; rfl) | (refine a_idx (f := fun s => [.v (.int .u8 s)]) rfl rfl rfl hs ?_) | ((with_reducible apply a_cond); rfl) | ((with_reducible apply a_guard); rfl) | (with_reducible intro _))
            exact ⟨k + 1, ⟨q, by rw [List.take_add_one, hs]; simp; exact ⟨hnot, fun h => hs2 h.symm⟩⟩, Wk.refl _ _ _ (by simp), by omega⟩
        · have hk : k = (ks p).length := by omega
          subst hk
          rw [List.take_length] at hnot
          have g1 : decide ((((ks p).length : Nat) : Int) < ((ks p).length : Nat)) = false := by simp
          repeat' (first | (refine a_len (n := (ks p).length) rfl (by simp [encU]) fun _ => ?_) | (with_reducible first | apply w_let | apply w_and | refine And.intro True.intro ?_) | ((with_reducible first | apply a_lss | apply a_leq | apply a_gtr | apply a_geq | apply a_eql | apply a_neq); rfl; rfl) | ((with_reducible first | apply a_eqlS | apply a_neqS | apply a_eqlB | apply a_neqB); rfl; rfl) | ((with_reducible apply w_add); rfl; rfl; first | assumption | (unfold inI; omega)) | ((with_reducible apply w_sub); rfl; rfl; first | assumption | (unfold inI; omega)) | ((with_reducible apply a_not); rfl) | ((with_reducible apply w_pick_t); rfl) | ((with_reducible apply w_pick_f); rfl) | ((with_reducible apply a_cond1); rfl; first | rfl | assumption) | ((with_reducible apply a_cond0); rfl; first | rfl | assumption) | ((with_reducible apply a_guard1); rfl; first | rfl | assumption) | ((with_reducible apply a_guard0); rfl; first | rfl | assumption) | ((with_reducible apply w_guard_u); rfl) | ((with_reducible apply a_pick1); rfl; first | rfl | assumption) | ((with_reducible apply a_pick0); rfl; first | rfl | assumption) | ((with_reducible apply a_pickN); rfl) | ((with_reducible apply a_condN); rfl) | ((with_reducible apply a_guardN); rfl) | ((with_reducible apply w_fad); rfl) | ((with_reducible apply a_fadI); rfl) | ((with_reducible apply w_load); rfl; rfl; rfl) | ((with_reducible apply w_loadI); rfl) | ((with_reducible apply w_loadA); rfl; rfl; first | exact Nat.le_refl _ | exact Nat.le_of_ble_eq_true rfl) | ((with_reducible apply a_eqA); rfl; rfl; rfl) | ((with_reducible apply a_loadAI); rfl; first | rfl | simp) | ((with_reducible apply w_new); first | rfl | simp) | ((with_reducible apply a_store); rfl; rfl; rfl; rfl; (first | exact Nat.le_refl _ | simp); (first | rfl | simp); (first | rfl | simp)) | ((with_reducible apply a_lenS); rfl; intro _) | ((with_reducible apply a_len); rfl; (first | rfl | simp); intro _) | ((with_reducible apply a_build); rfl) | ((with_reducible apply a_extr); rfl; rfl) | ((with_reducible apply a_cond); rfl) | ((with_reducible apply a_guard); rfl) | (with_reducible intro _))
          exact .pure (by simp) (by simp [hasR, ho, hnot, hc])
  · have e : hasV i v = .tup [ff, int 2] := by unfold hasV hasB; rw [if_neg hi, if_neg hi]
    rw [e]
    have g : i < 0 ∨ 18 ≤ i := by omega
    rw [encW]
    rcases g with g | g
    · have q1 : decide (i < 0) = true := by simpa using g
      repeat' (first | (refine a_len (n := 18) rfl hL fun _ => ?_) | (with_reducible first | apply w_let | apply w_and | refine And.intro True.intro ?_) | ((with_reducible first | apply a_lss | apply a_leq | apply a_gtr | apply a_geq | apply a_eql | apply a_neq); rfl; rfl) | ((with_reducible first | apply a_eqlS | apply a_neqS | apply a_eqlB | apply a_neqB); rfl; rfl) | ((with_reducible apply w_add); rfl; rfl; first | assumption | (unfold inI; omega)) | ((with_reducible apply w_sub); rfl; rfl; first | assumption | (unfold inI; omega)) | ((with_reducible apply a_not); rfl) | ((with_reducible apply w_pick_t); rfl) | ((with_reducible apply w_pick_f); rfl) | ((with_reducible apply a_cond1); rfl; first | rfl | assumption) | ((with_reducible apply a_cond0); rfl; first | rfl | assumption) | ((with_reducible apply a_guard1); rfl; first | rfl | assumption) | ((with_reducible apply a_guard0); rfl; first | rfl | assumption) | ((with_reducible apply w_guard_u); rfl) | ((with_reducible apply a_pick1); rfl; first | rfl | assumption) | ((with_reducible apply a_pick0); rfl; first | rfl | assumption) | ((with_reducible apply a_pickN); rfl) | ((with_reducible apply a_condN); rfl) | ((with_reducible apply a_guardN); rfl) | ((with_reducible apply w_fad); rfl) | ((with_reducible apply a_fadI); rfl) | ((with_reducible apply w_load); rfl; rfl; rfl) | ((with_reducible apply w_loadI); rfl) | ((with_reducible apply w_loadA); rfl; rfl; first | exact Nat.le_refl _ | exact Nat.le_of_ble_eq_true rfl) | ((with_reducible apply a_eqA); rfl; rfl; rfl) | ((with_reducible apply a_loadAI); rfl; first | rfl | simp) | ((with_reducible apply w_new); first | rfl | simp) | ((with_reducible apply a_store); rfl; rfl; rfl; rfl; (first | exact Nat.le_refl _ | simp); (first | rfl | simp); (first | rfl | simp)) | ((with_reducible apply a_lenS); rfl; intro _) | ((with_reducible apply a_len); rfl; (first | rfl | simp); intro _) | ((with_reducible apply a_build); rfl) | ((with_reducible apply a_extr); rfl; rfl) | (refine iCall_con (by kernel_rfl) (con_rTabX) ?_) | ((with_reducible apply a_cond); rfl) | ((with_reducible apply a_guard); rfl) | (with_reducible intro _))
      exact .pure (by simp) rfl
    · have q1 : decide (i < 0) = false := by simp; omega
      have q2 : decide (((18 : Nat) : Int) ≤ i) = true := by simp; omega
      repeat' (first | (refine a_len (n := 18) rfl hL fun _ => ?_) | (with_reducible first | apply w_let | apply w_and | refine And.intro True.intro ?_) | ((with_reducible first | apply a_lss | apply a_leq | apply a_gtr | apply a_geq | apply a_eql | apply a_neq); rfl; rfl) | ((with_reducible first | apply a_eqlS | apply a_neqS | apply a_eqlB | apply a_neqB); rfl; rfl) | ((with_reducible apply w_add); rfl; rfl; first | assumption | (unfold inI; omega)) | ((with_reducible apply w_sub); rfl; rfl; first | assumption | (unfold inI; omega)) | ((with_reducible apply a_not); rfl) | ((with_reducible apply w_pick_t); rfl) | ((with_reducible apply w_pick_f); rfl) | ((with_reducible apply a_cond1); rfl; first | rfl | assumption) | ((with_reducible apply a_cond0); rfl; first | rfl | assumption) | ((with_reducible apply a_guard1); rfl; first | rfl | assumption) | ((with_reducible apply a_guard0); rfl; first | rfl | assumption) | ((with_reducible apply w_guard_u); rfl) | ((with_reducible apply a_pick1); rfl; first | rfl | assumption) | ((with_reducible apply a_pick0); rfl; first | rfl | assumption) | ((with_reducible apply a_pickN); rfl) | ((with_reducible apply a_condN); rfl) | ((with_reducible apply a_guardN); rfl) | ((with_reducible apply w_fad); rfl) | ((with_reducible apply a_fadI); rfl) | ((with_reducible apply w_load); rfl; rfl; rfl) | ((with_reducible apply w_loadI); rfl) | ((with_reducible apply w_loadA); rfl; rfl; first | exact Nat.le_refl _ | exact Nat.le_of_ble_eq_true rfl) | ((with_reducible apply a_eqA); rfl; rfl; rfl) | ((with_reducible apply a_loadAI); rfl; first | rfl | simp) | ((with_reducible apply w_new); first | rfl | simp) | ((with_reducible apply a_store); rfl; rfl; rfl; rfl; (first | exact Nat.le_refl _ | simp); (first | rfl | simp); (first | rfl | simp)) | ((with_reducible apply a_lenS); rfl; intro _) | ((with_reducible apply a_len); rfl; (first | rfl | simp); intro _) | ((with_reducible apply a_build); rfl) | ((with_reducible apply a_extr); rfl; rfl) | (refine iCall_con (by kernel_rfl) (con_rTabX) ?_) | ((with_reducible apply a_cond); rfl) | ((with_reducible apply a_guard); rfl) | (with_reducible intro _))
      exact .pure (by simp) rfl
end Go.Proofs.YthblflmjingcfaaDoor
end
