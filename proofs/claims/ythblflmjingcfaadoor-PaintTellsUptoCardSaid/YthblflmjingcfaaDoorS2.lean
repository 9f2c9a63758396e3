/-
  Lengths of values: by either way. Names of custom properties: by either way. Small letters: by either way. References to customs: found by either way. Custom properties checked: by either way.
  No conditions.
-/
import Derived.Test.YthblflmjingcfaaDoorR1
import Derived.Test.YthblflmjingcfaaDoorN1
import Derived.Test.YthblflmjingcfaaDoorWSty
import Derived.Test.YthblflmjingcfaaDoorP1
set_option linter.unusedVariables false
set_option linter.unusedSimpArgs false
section
namespace Go.Proofs.YthblflmjingcfaaDoor
open Go Go.Aw Go.Nst
set_option maxRecDepth 100000

def LnP (n : Nat) : Prop := ∀ (l : List Vl), zVs l ≤ n → Con Tryd.prog 58 [.sl 6 (encVs l)] (int (zVs l))
set_option maxHeartbeats 4000000 in
theorem ln_step {n : Nat} (hn : n < 2 ^ 39) (hP : ∀ n', n' < n → LnP n') : LnP n := by
  intro l hz
  refine (V58 _).gives (by simp [pureVs]) (by simp) ?_
  unfold W58
  have hlen : (encVs l).length = l.length := by simp [encVs_map]
  have hll := zVs_len l
  try refine a_len (n := l.length) rfl hlen fun _ => ?_
  refine iLoop_of (α := Nat) (fun k => k ≤ l.length) (fun k => [int (zVs (l.take k)), int k]) (fun _ => []) (fun k => l.length - k) 0 (by simp) (by simpa [zVs] using Wk.refl _ _ _ (by simp)) ?_
  intro k hk
  try refine a_len (n := l.length) rfl hlen fun _ => ?_
  refine a_lss rfl rfl ?_
  rcases Nat.lt_or_ge k l.length with q | q
  · obtain ⟨⟨kd, tx, nu, un', fl, l2⟩, hx⟩ : ∃ x, l[k]? = some x := ⟨l[k], List.getElem?_eq_getElem q⟩
    have hin : inI ((k : Int) + 1) := by unfold inI; omega
    have hzv := zVs_mem (List.mem_of_getElem? hx)
    have q1 : decide ((k : Int) < l.length) = true := by simpa using q
    have b0 := zVs_take_le l (k + 1)
    have d1 : zVs (l.take (k + 1)) = zVs (l.take k) + zV (.mk kd tx nu un' fl l2) := by
      rw [List.take_add_one, hx, zVs_append]; simp [zVs]
    rw [zV] at d1 hzv
    obtain ⟨S, hS⟩ : ∃ S, zVs (l.take k) = S := ⟨_, rfl⟩
    rw [hS] at d1 ⊢
    obtain ⟨S2, hS2⟩ : ∃ S, zVs l2 = S := ⟨_, rfl⟩
    have hrec : Con Tryd.prog 58 [.sl 6 (encVs l2)] (int (zVs l2)) := hP (zVs l2) (by omega) l2 (Nat.le_refl _)
    rw [hS2] at d1 hrec hzv
    have i1 : inI ((1 : Int) + tx.length) := by unfold inI; omega
    have i2 : inI ((1 : Int) + tx.length + un'.length) := by unfold inI; omega
    have i3 : inI ((1 : Int) + tx.length + un'.length + S2) := by unfold inI; omega
    have i4 : inI ((S : Int) + (1 + tx.length + un'.length + S2)) := by unfold inI; omega
    have e : (((S : Int) + (1 + tx.length + un'.length + S2))) = ((zVs (l.take (k + 1)) : Nat) : Int) := by rw [d1]; omega
    have ed := encV_eq (.mk kd tx nu un' fl l2)
    repeat' (first | (with_reducible first | apply w_let | apply w_and | refine And.intro True.intro ?_) | ((with_reducible first | apply a_lss | apply a_leq | apply a_gtr | apply a_geq | apply a_eql | apply a_neq); rfl; rfl) | ((with_reducible first | apply a_eqlS | apply a_neqS | apply a_eqlB | apply a_neqB); rfl; rfl) | ((with_reducible apply w_add); rfl; rfl; first | assumption | (unfold inI; omega)) | ((with_reducible apply w_sub); rfl; rfl; first | assumption | (unfold inI; omega)) | ((with_reducible apply a_not); rfl) | ((with_reducible apply w_pick_t); rfl) | ((with_reducible apply w_pick_f); rfl) | ((with_reducible apply a_cond1); rfl; first | rfl | assumption) | ((with_reducible apply a_cond0); rfl; first | rfl | assumption) | ((with_reducible apply a_guard1); rfl; first | rfl | assumption) | ((with_reducible apply a_guard0); rfl; first | rfl | assumption) | ((with_reducible apply w_guard_u); rfl) | ((with_reducible apply a_pick1); rfl; first | rfl | assumption) | ((with_reducible apply a_pick0); rfl; first | rfl | assumption) | ((with_reducible apply a_pickN); rfl) | ((with_reducible apply a_condN); rfl) | ((with_reducible apply a_guardN); rfl) | ((with_reducible apply w_fad); rfl) | ((with_reducible apply a_fadI); rfl) | ((with_reducible apply w_load); rfl; rfl; rfl) | ((with_reducible apply w_loadI); rfl) | ((with_reducible apply w_loadA); rfl; rfl; first | exact Nat.le_refl _ | exact Nat.le_of_ble_eq_true rfl) | ((with_reducible apply a_eqA); rfl; rfl; rfl) | ((with_reducible apply a_loadAI); rfl; first | rfl | simp) | ((with_reducible apply w_new); first | rfl | simp) | ((with_reducible apply a_store); rfl; rfl; rfl; rfl; (first | exact Nat.le_refl _ | simp); (first | rfl | simp); (first | rfl | simp)) | ((with_reducible apply a_lenS); rfl; intro _) | ((with_reducible apply a_len); rfl; (first | rfl | simp); intro _) | ((with_reducible apply a_build); rfl) | ((with_reducible apply a_extr); rfl; rfl) | (refine a_idx rfl (encVs_map l) rfl hx ?_) | (refine a_loadAI rfl (by simp [encV_eq]) ?_) | (refine w_new rfl ?_) | (refine a_store (cs := [u1 kd, .str tx, int nu, .str un', bool fl, .sl 6 (encVs l2)]) rfl rfl rfl rfl (Nat.le_refl _) rfl rfl ?_) | (refine a_lenSQ rfl ?_) | (refine w_callQ rfl (by kernel_rfl) hrec ?_) | ((with_reducible apply a_cond); rfl) | ((with_reducible apply a_guard); rfl) | (with_reducible intro _))
    rw [e]
    first
      | exact ⟨k + 1, q, Wk.refl _ _ _ (by simp), by omega⟩
      | exact ⟨k + 1, q, Wk.back (M := 0) (by simp) (by simp) rfl rfl (by simp [entB]) (by simp [Bd]), by omega⟩
      | exact ⟨k + 1, q, Wk.le (by simp) (by simp), by omega⟩
  · have hk : k = l.length := by omega
    subst hk
    rw [List.take_length]
    have q1 : decide ((l.length : Int) < l.length) = false := by simp
    repeat' (first | (with_reducible first | apply w_let | apply w_and | refine And.intro True.intro ?_) | ((with_reducible first | apply a_lss | apply a_leq | apply a_gtr | apply a_geq | apply a_eql | apply a_neq); rfl; rfl) | ((with_reducible first | apply a_eqlS | apply a_neqS | apply a_eqlB | apply a_neqB); rfl; rfl) | ((with_reducible apply w_add); rfl; rfl; first | assumption | (unfold inI; omega)) | ((with_reducible apply w_sub); rfl; rfl; first | assumption | (unfold inI; omega)) | ((with_reducible apply a_not); rfl) | ((with_reducible apply w_pick_t); rfl) | ((with_reducible apply w_pick_f); rfl) | ((with_reducible apply a_cond1); rfl; first | rfl | assumption) | ((with_reducible apply a_cond0); rfl; first | rfl | assumption) | ((with_reducible apply a_guard1); rfl; first | rfl | assumption) | ((with_reducible apply a_guard0); rfl; first | rfl | assumption) | ((with_reducible apply w_guard_u); rfl) | ((with_reducible apply a_pick1); rfl; first | rfl | assumption) | ((with_reducible apply a_pick0); rfl; first | rfl | assumption) | ((with_reducible apply a_pickN); rfl) | ((with_reducible apply a_condN); rfl) | ((with_reducible apply a_guardN); rfl) | ((with_reducible apply w_fad); rfl) | ((with_reducible apply a_fadI); rfl) | ((with_reducible apply w_load); rfl; rfl; rfl) | ((with_reducible apply w_loadI); rfl) | ((with_reducible apply w_loadA); rfl; rfl; first | exact Nat.le_refl _ | exact Nat.le_of_ble_eq_true rfl) | ((with_reducible apply a_eqA); rfl; rfl; rfl) | ((with_reducible apply a_loadAI); rfl; first | rfl | simp) | ((with_reducible apply w_new); first | rfl | simp) | ((with_reducible apply a_store); rfl; rfl; rfl; rfl; (first | exact Nat.le_refl _ | simp); (first | rfl | simp); (first | rfl | simp)) | ((with_reducible apply a_lenS); rfl; intro _) | ((with_reducible apply a_len); rfl; (first | rfl | simp); intro _) | ((with_reducible apply a_build); rfl) | ((with_reducible apply a_extr); rfl; rfl) | ((with_reducible apply a_cond); rfl) | ((with_reducible apply a_guard); rfl) | (with_reducible intro _))
    exact .pure (by simp) rfl
theorem con_length (l : List Vl) (hz : zVs l < 2 ^ 39) : Con Tryd.prog 58 [.sl 6 (encVs l)] (int (zVs l)) := by
  have : ∀ n, n < 2 ^ 39 → LnP n := by
    intro n
    induction n using Nat.strongRecOn with
    | _ n ih => exact fun hn => ln_step hn fun n' h => ih n' h (by omega)
  exact this _ hz l (Nat.le_refl _)

def LgP (n : Nat) : Prop := ∀ (l : List Vl), zVs l ≤ n → Con Tryd.prog 66 [.sl 6 (encVs l)] (int (zVs l))
set_option maxHeartbeats 4000000 in
theorem lg_step {n : Nat} (hn : n < 2 ^ 39) (hP : ∀ n', n' < n → LgP n') : LgP n := by
  intro l hz
  refine (V66 _).gives (by simp [pureVs]) (by simp) ?_
  unfold W66
  have hlen : (encVs l).length = l.length := by simp [encVs_map]
  have hll := zVs_len l
  try refine a_len (n := l.length) rfl hlen fun _ => ?_
  refine iLoop_of (α := Nat) (fun k => k ≤ l.length) (fun k => [int (zVs (l.take k)), int k]) (fun _ => []) (fun k => l.length - k) 0 (by simp) (by simpa [zVs] using Wk.refl _ _ _ (by simp)) ?_
  intro k hk
  try refine a_len (n := l.length) rfl hlen fun _ => ?_
  refine a_lss rfl rfl ?_
  rcases Nat.lt_or_ge k l.length with q | q
  · obtain ⟨⟨kd, tx, nu, un', fl, l2⟩, hx⟩ : ∃ x, l[k]? = some x := ⟨l[k], List.getElem?_eq_getElem q⟩
    have hin : inI ((k : Int) + 1) := by unfold inI; omega
    have hzv := zVs_mem (List.mem_of_getElem? hx)
    have q1 : decide ((k : Int) < l.length) = true := by simpa using q
    have b0 := zVs_take_le l (k + 1)
    have d1 : zVs (l.take (k + 1)) = zVs (l.take k) + zV (.mk kd tx nu un' fl l2) := by
      rw [List.take_add_one, hx, zVs_append]; simp [zVs]
    rw [zV] at d1 hzv
    obtain ⟨S, hS⟩ : ∃ S, zVs (l.take k) = S := ⟨_, rfl⟩
    rw [hS] at d1 ⊢
    obtain ⟨S2, hS2⟩ : ∃ S, zVs l2 = S := ⟨_, rfl⟩
    have hrec : Con Tryd.prog 66 [.sl 6 (encVs l2)] (int (zVs l2)) := hP (zVs l2) (by omega) l2 (Nat.le_refl _)
    rw [hS2] at d1 hrec hzv
    have i1 : inI ((1 : Int) + tx.length) := by unfold inI; omega
    have i2 : inI ((1 : Int) + tx.length + un'.length) := by unfold inI; omega
    have i3 : inI ((1 : Int) + tx.length + un'.length + S2) := by unfold inI; omega
    have i4 : inI ((S : Int) + (1 + tx.length + un'.length + S2)) := by unfold inI; omega
    have e : (((S : Int) + (1 + tx.length + un'.length + S2))) = ((zVs (l.take (k + 1)) : Nat) : Int) := by rw [d1]; omega
    have ed := encV_eq (.mk kd tx nu un' fl l2)
    repeat' (first | (with_reducible first | apply w_let | apply w_and | refine And.intro True.intro ?_) | ((with_reducible first | apply a_lss | apply a_leq | apply a_gtr | apply a_geq | apply a_eql | apply a_neq); rfl; rfl) | ((with_reducible first | apply a_eqlS | apply a_neqS | apply a_eqlB | apply a_neqB); rfl; rfl) | ((with_reducible apply w_add); rfl; rfl; first | assumption | (unfold inI; omega)) | ((with_reducible apply w_sub); rfl; rfl; first | assumption | (unfold inI; omega)) | ((with_reducible apply a_not); rfl) | ((with_reducible apply w_pick_t); rfl) | ((with_reducible apply w_pick_f); rfl) | ((with_reducible apply a_cond1); rfl; first | rfl | assumption) | ((with_reducible apply a_cond0); rfl; first | rfl | assumption) | ((with_reducible apply a_guard1); rfl; first | rfl | assumption) | ((with_reducible apply a_guard0); rfl; first | rfl | assumption) | ((with_reducible apply w_guard_u); rfl) | ((with_reducible apply a_pick1); rfl; first | rfl | assumption) | ((with_reducible apply a_pick0); rfl; first | rfl | assumption) | ((with_reducible apply a_pickN); rfl) | ((with_reducible apply a_condN); rfl) | ((with_reducible apply a_guardN); rfl) | ((with_reducible apply w_fad); rfl) | ((with_reducible apply a_fadI); rfl) | ((with_reducible apply w_load); rfl; rfl; rfl) | ((with_reducible apply w_loadI); rfl) | ((with_reducible apply w_loadA); rfl; rfl; first | exact Nat.le_refl _ | exact Nat.le_of_ble_eq_true rfl) | ((with_reducible apply a_eqA); rfl; rfl; rfl) | ((with_reducible apply a_loadAI); rfl; first | rfl | simp) | ((with_reducible apply w_new); first | rfl | simp) | ((with_reducible apply a_store); rfl; rfl; rfl; rfl; (first | exact Nat.le_refl _ | simp); (first | rfl | simp); (first | rfl | simp)) | ((with_reducible apply a_lenS); rfl; intro _) | ((with_reducible apply a_len); rfl; (first | rfl | simp); intro _) | ((with_reducible apply a_build); rfl) | ((with_reducible apply a_extr); rfl; rfl) | (refine a_idx rfl (encVs_map l) rfl hx ?_) | (refine a_loadAI rfl (by simp [encV_eq]) ?_) | (refine w_new rfl ?_) | (refine a_store (cs := [u1 kd, .str tx, int nu, .str un', bool fl, .sl 6 (encVs l2)]) rfl rfl rfl rfl (Nat.le_refl _) rfl rfl ?_) | (refine a_lenSQ rfl ?_) | (refine w_callQ rfl (by kernel_rfl) hrec ?_) | ((with_reducible apply a_cond); rfl) | ((with_reducible apply a_guard); rfl) | (with_reducible intro _))
    rw [e]
    first
      | exact ⟨k + 1, q, Wk.refl _ _ _ (by simp), by omega⟩
      | exact ⟨k + 1, q, Wk.back (M := 0) (by simp) (by simp) rfl rfl (by simp [entB]) (by simp [Bd]), by omega⟩
      | exact ⟨k + 1, q, Wk.le (by simp) (by simp), by omega⟩
  · have hk : k = l.length := by omega
    subst hk
    rw [List.take_length]
    have q1 : decide ((l.length : Int) < l.length) = false := by simp
    repeat' (first | (with_reducible first | apply w_let | apply w_and | refine And.intro True.intro ?_) | ((with_reducible first | apply a_lss | apply a_leq | apply a_gtr | apply a_geq | apply a_eql | apply a_neq); rfl; rfl) | ((with_reducible first | apply a_eqlS | apply a_neqS | apply a_eqlB | apply a_neqB); rfl; rfl) | ((with_reducible apply w_add); rfl; rfl; first | assumption | (unfold inI; omega)) | ((with_reducible apply w_sub); rfl; rfl; first | assumption | (unfold inI; omega)) | ((with_reducible apply a_not); rfl) | ((with_reducible apply w_pick_t); rfl) | ((with_reducible apply w_pick_f); rfl) | ((with_reducible apply a_cond1); rfl; first | rfl | assumption) | ((with_reducible apply a_cond0); rfl; first | rfl | assumption) | ((with_reducible apply a_guard1); rfl; first | rfl | assumption) | ((with_reducible apply a_guard0); rfl; first | rfl | assumption) | ((with_reducible apply w_guard_u); rfl) | ((with_reducible apply a_pick1); rfl; first | rfl | assumption) | ((with_reducible apply a_pick0); rfl; first | rfl | assumption) | ((with_reducible apply a_pickN); rfl) | ((with_reducible apply a_condN); rfl) | ((with_reducible apply a_guardN); rfl) | ((with_reducible apply w_fad); rfl) | ((with_reducible apply a_fadI); rfl) | ((with_reducible apply w_load); rfl; rfl; rfl) | ((with_reducible apply w_loadI); rfl) | ((with_reducible apply w_loadA); rfl; rfl; first | exact Nat.le_refl _ | exact Nat.le_of_ble_eq_true rfl) | ((with_reducible apply a_eqA); rfl; rfl; rfl) | ((with_reducible apply a_loadAI); rfl; first | rfl | simp) | ((with_reducible apply w_new); first | rfl | simp) | ((with_reducible apply a_store); rfl; rfl; rfl; rfl; (first | exact Nat.le_refl _ | simp); (first | rfl | simp); (first | rfl | simp)) | ((with_reducible apply a_lenS); rfl; intro _) | ((with_reducible apply a_len); rfl; (first | rfl | simp); intro _) | ((with_reducible apply a_build); rfl) | ((with_reducible apply a_extr); rfl; rfl) | ((with_reducible apply a_cond); rfl) | ((with_reducible apply a_guard); rfl) | (with_reducible intro _))
    exact .pure (by simp) rfl
theorem con_Long (l : List Vl) (hz : zVs l < 2 ^ 39) : Con Tryd.prog 66 [.sl 6 (encVs l)] (int (zVs l)) := by
  have : ∀ n, n < 2 ^ 39 → LgP n := by
    intro n
    induction n using Nat.strongRecOn with
    | _ n ih => exact fun hn => lg_step hn fun n' h => ih n' h (by omega)
  exact this _ hz l (Nat.le_refl _)
end Go.Proofs.YthblflmjingcfaaDoor
end

section
namespace Go.Proofs.YthblflmjingcfaaDoor
open Go Go.Aw Go.Nst
set_option maxRecDepth 100000
structure Cu where
  name : Str
  value : List Vl
def encCu (c : Cu) : List AV := [.str c.name, .sl 6 (encVs c.value)]
def encCus (l : List Cu) : List (List AV) := l.map encCu
theorem encCus_pure : ∀ l, PureR (encCus l)
  | [] => by simp [encCus, PureR]
  | s :: l => by have := encCus_pure l; unfold encCus at this ⊢; simp only [List.map_cons, PureR]; exact ⟨by simp [encCu, PureL, pureVs], this⟩
theorem lessS_tri : ∀ a b : Str, (lessS a b || decide (a = b)) = !lessS b a
  | [], [] => rfl
  | [], _ :: _ => rfl
  | _ :: _, [] => by simp [lessS, Op.bytesLess]
  | x :: a, y :: b => by
    have ih := lessS_tri a b
    simp only [lessS, Op.bytesLess] at ih ⊢
    rcases Nat.lt_trichotomy x.toNat y.toNat with h | h | h
    · have h1 : x < y := UInt8.lt_iff_toNat_lt.2 h
      have h2 : ¬ y < x := fun q => by have := UInt8.lt_iff_toNat_lt.1 q; omega
      have h3 : ¬ y = x := fun q => by subst q; omega
      simp [h1, h2, h3]
    · have h0 : x = y := UInt8.toNat_inj.1 h
      subst h0
      have h2 : ¬ x < x := fun q => by have := UInt8.lt_iff_toNat_lt.1 q; omega
      simpa [h2] using ih
    · have h1 : y < x := UInt8.lt_iff_toNat_lt.2 h
      have h2 : ¬ x < y := fun q => by have := UInt8.lt_iff_toNat_lt.1 q; omega
      have h3 : ¬ x = y := fun q => by subst q; omega
      simp [h1, h2, h3]
theorem a_leqS {x y : AV} {a b : List UInt8} {K : AV → Prop} (ex : x = .str a) (ey : y = .str b) (q : K (.v (.bool (!Op.bytesLess b a)))) : iBin .leq x y K := by
  subst ex; subst ey
  have := lessS_tri a b
  rw [← show (lessS a b || decide (a = b)) = !Op.bytesLess b a from this] at q
  exact q
def prevN (l : List Cu) (k : Nat) : Str := if k = 0 then [] else (l.map Cu.name).getD (k - 1) []
def nOk (l : List Cu) (k : Nat) : Bool := customS ((l.map Cu.name).getD k []) && Op.bytesLess (prevN l k) ((l.map Cu.name).getD k [])
def namedB (l : List Cu) : Bool := (List.range l.length).all (nOk l)
theorem namedB_of {l : List Cu} (h : ∀ i, i < l.length → nOk l i = true) : namedB l = true := by
  unfold namedB
  rw [List.all_eq_true]
  intro i hi
  exact h i (List.mem_range.1 hi)
theorem namedB_not {l : List Cu} {i : Nat} (hi : i < l.length) (h : nOk l i = false) : namedB l = false := by
  cases e : namedB l with
  | false => rfl
  | true =>
    unfold namedB at e
    rw [List.all_eq_true] at e
    rw [e i (List.mem_range.2 hi)] at h
    cases h
theorem less_nil {s : Str} (h : customS s = true) : Op.bytesLess [] s = true := by
  cases s with
  | nil => simp [customS] at h
  | cons a s => rfl
theorem nOk_at {l : List Cu} {k : Nat} {c : Cu} (h : l[k]? = some c) : nOk l k = (customS c.name && Op.bytesLess (prevN l k) c.name) := by
  unfold nOk
  rw [List.getD_eq_getElem?_getD, List.getElem?_map, h]; rfl
theorem prevN_next {l : List Cu} {k : Nat} {c : Cu} (h : l[k]? = some c) : prevN l (k + 1) = c.name := by
  unfold prevN
  rw [if_neg (by omega), Nat.add_sub_cancel, List.getD_eq_getElem?_getD, List.getElem?_map, h]; rfl
set_option maxHeartbeats 4000000 in
theorem con_named (l : List Cu) (hl : l.length < 2 ^ 40) : Con Tryd.prog 55 [.sl 2 (encCus l)] (bool (namedB l)) := by
  refine (V55 _).gives (by simp [encCus_pure]) (by simp) ?_
  unfold W55
  refine a_len (n := l.length) rfl (by simp [encCus]) fun _ => ?_
  refine iLoop_of (α := Nat) (fun k => k ≤ l.length ∧ ∀ i, i < k → nOk l i = true) (fun k => [.str (prevN l k), int k]) (fun _ => []) (fun k => l.length - k) 0 ⟨by omega, fun i h => by omega⟩ (Wk.refl _ _ _ (by simp)) ?_
  rintro k ⟨hk, hall⟩
  rcases Nat.lt_or_ge k l.length with q | q
  · obtain ⟨⟨s, vs⟩, hs⟩ : ∃ x, l[k]? = some x := ⟨l[k], List.getElem?_eq_getElem q⟩
    have q1 : decide ((k : Int) < l.length) = true := by simpa using q
    have hin : inI ((k : Int) + 1) := by unfold inI; omega
    have hok := nOk_at hs
    have hnx := prevN_next hs
    simp only at hok hnx
    rw [← hnx] at hok
    obtain ⟨P, hP⟩ : ∃ P, prevN l k = P := ⟨_, rfl⟩
    rw [hP] at hok ⊢
    rw [hnx] at hok
    cases hc : customS s with
    | false =>
      have g1 : (!customS s) = true := by rw [hc]; rfl
      repeat' (first | (with_reducible first | apply w_let | apply w_and | refine And.intro True.intro ?_) | ((with_reducible first | apply a_lss | apply a_leq | apply a_gtr | apply a_geq | apply a_eql | apply a_neq); rfl; rfl) | ((with_reducible first | apply a_eqlS | apply a_neqS | apply a_eqlB | apply a_neqB); rfl; rfl) | ((with_reducible apply w_add); rfl; rfl; first | assumption | (unfold inI; omega)) | ((with_reducible apply w_sub); rfl; rfl; first | assumption | (unfold inI; omega)) | ((with_reducible apply a_not); rfl) | ((with_reducible apply w_pick_t); rfl) | ((with_reducible apply w_pick_f); rfl) | ((with_reducible apply a_cond1); rfl; first | rfl | assumption) | ((with_reducible apply a_cond0); rfl; first | rfl | assumption) | ((with_reducible apply a_guard1); rfl; first | rfl | assumption) | ((with_reducible apply a_guard0); rfl; first | rfl | assumption) | ((with_reducible apply w_guard_u); rfl) | ((with_reducible apply a_pick1); rfl; first | rfl | assumption) | ((with_reducible apply a_pick0); rfl; first | rfl | assumption) | ((with_reducible apply a_pickN); rfl) | ((with_reducible apply a_condN); rfl) | ((with_reducible apply a_guardN); rfl) | ((with_reducible apply w_fad); rfl) | ((with_reducible apply a_fadI); rfl) | ((with_reducible apply w_load); rfl; rfl; rfl) | ((with_reducible apply w_loadI); rfl) | ((with_reducible apply w_loadA); rfl; rfl; first | exact Nat.le_refl _ | exact Nat.le_of_ble_eq_true rfl) | ((with_reducible apply a_eqA); rfl; rfl; rfl) | ((with_reducible apply a_loadAI); rfl; first | rfl | simp) | ((with_reducible apply w_new); first | rfl | simp) | ((with_reducible apply a_store); rfl; rfl; rfl; rfl; (first | exact Nat.le_refl _ | simp); (first | rfl | simp); (first | rfl | simp)) | ((with_reducible apply a_lenS); rfl; intro _) | ((with_reducible apply a_len); rfl; (first | rfl | simp); intro _) | ((with_reducible apply a_build); rfl) | ((with_reducible apply a_extr); rfl; rfl) | (refine iCall_con (by kernel_rfl) (con_Custom s) ?_) | (refine a_idx (f := encCu) rfl rfl rfl hs ?_) | (refine a_loadAI rfl (by simp [encCu]) ?_) | (refine a_store (cs := [.str s, .sl 6 (encVs vs)]) rfl rfl rfl rfl (Nat.le_refl _) rfl rfl ?_) | ((with_reducible apply a_leqS); rfl; rfl) | ((with_reducible apply a_cond); rfl) | ((with_reducible apply a_guard); rfl) | (with_reducible intro _))
      exact .pure (by simp) (by rw [namedB_not q (by rw [hok, hc]; rfl)])
    | true =>
      have g1 : (!customS s) = false := by rw [hc]; rfl
      cases hb : Op.bytesLess P s with
      | false =>
        have g2 : (!Op.bytesLess P s) = true := by rw [hb]; rfl
        repeat' (first | (with_reducible first | apply w_let | apply w_and | refine And.intro True.intro ?_) | ((with_reducible first | apply a_lss | apply a_leq | apply a_gtr | apply a_geq | apply a_eql | apply a_neq); rfl; rfl) | ((with_reducible first | apply a_eqlS | apply a_neqS | apply a_eqlB | apply a_neqB); rfl; rfl) | ((with_reducible apply w_add); rfl; rfl; first | assumption | (unfold inI; omega)) | ((with_reducible apply w_sub); rfl; rfl; first | assumption | (unfold inI; omega)) | ((with_reducible apply a_not); rfl) | ((with_reducible apply w_pick_t); rfl) | ((with_reducible apply w_pick_f); rfl) | ((with_reducible apply a_cond1); rfl; first | rfl | assumption) | ((with_reducible apply a_cond0); rfl; first | rfl | assumption) | ((with_reducible apply a_guard1); rfl; first | rfl | assumption) | ((with_reducible apply a_guard0); rfl; first | rfl | assumption) | ((with_reducible apply w_guard_u); rfl) | ((with_reducible apply a_pick1); rfl; first | rfl | assumption) | ((with_reducible apply a_pick0); rfl; first | rfl | assumption) | ((with_reducible apply a_pickN); rfl) | ((with_reducible apply a_condN); rfl) | ((with_reducible apply a_guardN); rfl) | ((with_reducible apply w_fad); rfl) | ((with_reducible apply a_fadI); rfl) | ((with_reducible apply w_load); rfl; rfl; rfl) | ((with_reducible apply w_loadI); rfl) | ((with_reducible apply w_loadA); rfl; rfl; first | exact Nat.le_refl _ | exact Nat.le_of_ble_eq_true rfl) | ((with_reducible apply a_eqA); rfl; rfl; rfl) | ((with_reducible apply a_loadAI); rfl; first | rfl | simp) | ((with_reducible apply w_new); first | rfl | simp) | ((with_reducible apply a_store); rfl; rfl; rfl; rfl; (first | exact Nat.le_refl _ | simp); (first | rfl | simp); (first | rfl | simp)) | ((with_reducible apply a_lenS); rfl; intro _) | ((with_reducible apply a_len); rfl; (first | rfl | simp); intro _) | ((with_reducible apply a_build); rfl) | ((with_reducible apply a_extr); rfl; rfl) | (refine iCall_con (by kernel_rfl) (con_Custom s) ?_) | (refine a_idx (f := encCu) rfl rfl rfl hs ?_) | (refine a_loadAI rfl (by simp [encCu]) ?_) | (refine a_store (cs := [.str s, .sl 6 (encVs vs)]) rfl rfl rfl rfl (Nat.le_refl _) rfl rfl ?_) | ((with_reducible apply a_leqS); rfl; rfl) | ((with_reducible apply a_cond); rfl) | ((with_reducible apply a_guard); rfl) | (with_reducible intro _))
        exact .pure (by simp) (by rw [namedB_not q (by rw [hok, hc, hb]; rfl)])
      | true =>
        have g2 : (!Op.bytesLess P s) = false := by rw [hb]; rfl
        repeat' (first | (with_reducible first | apply w_let | apply w_and | refine And.intro True.intro ?_) | ((with_reducible first | apply a_lss | apply a_leq | apply a_gtr | apply a_geq | apply a_eql | apply a_neq); rfl; rfl) | ((with_reducible first | apply a_eqlS | apply a_neqS | apply a_eqlB | apply a_neqB); rfl; rfl) | ((with_reducible apply w_add); rfl; rfl; first | assumption | (unfold inI; omega)) | ((with_reducible apply w_sub); rfl; rfl; first | assumption | (unfold inI; omega)) | ((with_reducible apply a_not); rfl) | ((with_reducible apply w_pick_t); rfl) | ((with_reducible apply w_pick_f); rfl) | ((with_reducible apply a_cond1); rfl; first | rfl | assumption) | ((with_reducible apply a_cond0); rfl; first | rfl | assumption) | ((with_reducible apply a_guard1); rfl; first | rfl | assumption) | ((with_reducible apply a_guard0); rfl; first | rfl | assumption) | ((with_reducible apply w_guard_u); rfl) | ((with_reducible apply a_pick1); rfl; first | rfl | assumption) | ((with_reducible apply a_pick0); rfl; first | rfl | assumption) | ((with_reducible apply a_pickN); rfl) | ((with_reducible apply a_condN); rfl) | ((with_reducible apply a_guardN); rfl) | ((with_reducible apply w_fad); rfl) | ((with_reducible apply a_fadI); rfl) | ((with_reducible apply w_load); rfl; rfl; rfl) | ((with_reducible apply w_loadI); rfl) | ((with_reducible apply w_loadA); rfl; rfl; first | exact Nat.le_refl _ | exact Nat.le_of_ble_eq_true rfl) | ((with_reducible apply a_eqA); rfl; rfl; rfl) | ((with_reducible apply a_loadAI); rfl; first | rfl | simp) | ((with_reducible apply w_new); first | rfl | simp) | ((with_reducible apply a_store); rfl; rfl; rfl; rfl; (first | exact Nat.le_refl _ | simp); (first | rfl | simp); (first | rfl | simp)) | ((with_reducible apply a_lenS); rfl; intro _) | ((with_reducible apply a_len); rfl; (first | rfl | simp); intro _) | ((with_reducible apply a_build); rfl) | ((with_reducible apply a_extr); rfl; rfl) | (refine iCall_con (by kernel_rfl) (con_Custom s) ?_) | (refine a_idx (f := encCu) rfl rfl rfl hs ?_) | (refine a_loadAI rfl (by simp [encCu]) ?_) | (refine a_store (cs := [.str s, .sl 6 (encVs vs)]) rfl rfl rfl rfl (Nat.le_refl _) rfl rfl ?_) | ((with_reducible apply a_leqS); rfl; rfl) | ((with_reducible apply a_cond); rfl) | ((with_reducible apply a_guard); rfl) | (with_reducible intro _))
        refine ⟨k + 1, ⟨q, fun i hi => ?_⟩, ?_, by omega⟩
        · rcases Nat.lt_or_ge i k with z | z
          · exact hall i z
          · obtain rfl : i = k := by omega
            rw [hok, hc, hb]; rfl
        · rw [hnx]
          first
            | exact Wk.refl _ _ _ (by simp)
            | exact Wk.back (M := 0) (by simp) (by simp) rfl rfl (by simp [entB]) (by simp [Bd])
            | exact Wk.le (by simp) (by simp)
  · have hk : k = l.length := by omega
    subst hk
    have q1 : decide ((l.length : Int) < l.length) = false := by simp
    repeat' (first | (with_reducible first | apply w_let | apply w_and | refine And.intro True.intro ?_) | ((with_reducible first | apply a_lss | apply a_leq | apply a_gtr | apply a_geq | apply a_eql | apply a_neq); rfl; rfl) | ((with_reducible first | apply a_eqlS | apply a_neqS | apply a_eqlB | apply a_neqB); rfl; rfl) | ((with_reducible apply w_add); rfl; rfl; first | assumption | (unfold inI; omega)) | ((with_reducible apply w_sub); rfl; rfl; first | assumption | (unfold inI; omega)) | ((with_reducible apply a_not); rfl) | ((with_reducible apply w_pick_t); rfl) | ((with_reducible apply w_pick_f); rfl) | ((with_reducible apply a_cond1); rfl; first | rfl | assumption) | ((with_reducible apply a_cond0); rfl; first | rfl | assumption) | ((with_reducible apply a_guard1); rfl; first | rfl | assumption) | ((with_reducible apply a_guard0); rfl; first | rfl | assumption) | ((with_reducible apply w_guard_u); rfl) | ((with_reducible apply a_pick1); rfl; first | rfl | assumption) | ((with_reducible apply a_pick0); rfl; first | rfl | assumption) | ((with_reducible apply a_pickN); rfl) | ((with_reducible apply a_condN); rfl) | ((with_reducible apply a_guardN); rfl) | ((with_reducible apply w_fad); rfl) | ((with_reducible apply a_fadI); rfl) | ((with_reducible apply w_load); rfl; rfl; rfl) | ((with_reducible apply w_loadI); rfl) | ((with_reducible apply w_loadA); rfl; rfl; first | exact Nat.le_refl _ | exact Nat.le_of_ble_eq_true rfl) | ((with_reducible apply a_eqA); rfl; rfl; rfl) | ((with_reducible apply a_loadAI); rfl; first | rfl | simp) | ((with_reducible apply w_new); first | rfl | simp) | ((with_reducible apply a_store); rfl; rfl; rfl; rfl; (first | exact Nat.le_refl _ | simp); (first | rfl | simp); (first | rfl | simp)) | ((with_reducible apply a_lenS); rfl; intro _) | ((with_reducible apply a_len); rfl; (first | rfl | simp); intro _) | ((with_reducible apply a_build); rfl) | ((with_reducible apply a_extr); rfl; rfl) | ((with_reducible apply a_cond); rfl) | ((with_reducible apply a_guard); rfl) | (with_reducible intro _))
    exact .pure (by simp) (by rw [namedB_of hall])
set_option maxHeartbeats 4000000 in
theorem con_rnamed (l : List Cu) (hl : l.length < 2 ^ 40) : Con Tryd.prog 63 [.sl 2 (encCus l)] (bool (namedB l)) := by
  refine (V63 _).gives (by simp [encCus_pure]) (by simp) ?_
  unfold W63
  refine iLoop_of (α := Nat) (fun k => k ≤ l.length ∧ ∀ i, i < k → nOk l i = true) (fun k => [int k]) (fun _ => []) (fun k => l.length - k) 0 ⟨by omega, fun i h => by omega⟩ (Wk.refl _ _ _ (by simp)) ?_
  rintro k ⟨hk, hall⟩
  refine a_len (n := l.length) rfl (by simp [encCus]) fun _ => ?_
  rcases Nat.lt_or_ge k l.length with q | q
  · obtain ⟨⟨s, vs⟩, hs⟩ : ∃ x, l[k]? = some x := ⟨l[k], List.getElem?_eq_getElem q⟩
    have q1 : decide ((k : Int) < l.length) = true := by simpa using q
    have hin : inI ((k : Int) + 1) := by unfold inI; omega
    have hok := nOk_at hs
    simp only at hok
    rcases Nat.eq_zero_or_pos k with hk0 | hk0
    · subst hk0
      have hp : prevN l 0 = [] := rfl
      rw [hp] at hok
      cases hc : customS s with
      | false =>
        have g1 : (!customS s) = true := by rw [hc]; rfl
        repeat' (first | (with_reducible first | apply w_let | apply w_and | refine And.intro True.intro ?_) | ((with_reducible first | apply a_lss | apply a_leq | apply a_gtr | apply a_geq | apply a_eql | apply a_neq); rfl; rfl) | ((with_reducible first | apply a_eqlS | apply a_neqS | apply a_eqlB | apply a_neqB); rfl; rfl) | ((with_reducible apply w_add); rfl; rfl; first | assumption | (unfold inI; omega)) | ((with_reducible apply w_sub); rfl; rfl; first | assumption | (unfold inI; omega)) | ((with_reducible apply a_not); rfl) | ((with_reducible apply w_pick_t); rfl) | ((with_reducible apply w_pick_f); rfl) | ((with_reducible apply a_cond1); rfl; first | rfl | assumption) | ((with_reducible apply a_cond0); rfl; first | rfl | assumption) | ((with_reducible apply a_guard1); rfl; first | rfl | assumption) | ((with_reducible apply a_guard0); rfl; first | rfl | assumption) | ((with_reducible apply w_guard_u); rfl) | ((with_reducible apply a_pick1); rfl; first | rfl | assumption) | ((with_reducible apply a_pick0); rfl; first | rfl | assumption) | ((with_reducible apply a_pickN); rfl) | ((with_reducible apply a_condN); rfl) | ((with_reducible apply a_guardN); rfl) | ((with_reducible apply w_fad); rfl) | ((with_reducible apply a_fadI); rfl) | ((with_reducible apply w_load); rfl; rfl; rfl) | ((with_reducible apply w_loadI); rfl) | ((with_reducible apply w_loadA); rfl; rfl; first | exact Nat.le_refl _ | exact Nat.le_of_ble_eq_true rfl) | ((with_reducible apply a_eqA); rfl; rfl; rfl) | ((with_reducible apply a_loadAI); rfl; first | rfl | simp) | ((with_reducible apply w_new); first | rfl | simp) | ((with_reducible apply a_store); rfl; rfl; rfl; rfl; (first | exact Nat.le_refl _ | simp); (first | rfl | simp); (first | rfl | simp)) | ((with_reducible apply a_lenS); rfl; intro _) | ((with_reducible apply a_len); rfl; (first | rfl | simp); intro _) | ((with_reducible apply a_build); rfl) | ((with_reducible apply a_extr); rfl; rfl) | (refine w_callQ rfl (by kernel_rfl) (con_rCustom s) ?_) | (refine a_idx (f := encCu) rfl rfl rfl hs ?_) | ((with_reducible apply a_cond); rfl) | ((with_reducible apply a_guard); rfl) | (with_reducible intro _))
        exact .pure (by simp) (by rw [namedB_not q (by rw [hok, hc]; rfl)])
      | true =>
        have g1 : (!customS s) = false := by rw [hc]; rfl
        repeat' (first | (with_reducible first | apply w_let | apply w_and | refine And.intro True.intro ?_) | ((with_reducible first | apply a_lss | apply a_leq | apply a_gtr | apply a_geq | apply a_eql | apply a_neq); rfl; rfl) | ((with_reducible first | apply a_eqlS | apply a_neqS | apply a_eqlB | apply a_neqB); rfl; rfl) | ((with_reducible apply w_add); rfl; rfl; first | assumption | (unfold inI; omega)) | ((with_reducible apply w_sub); rfl; rfl; first | assumption | (unfold inI; omega)) | ((with_reducible apply a_not); rfl) | ((with_reducible apply w_pick_t); rfl) | ((with_reducible apply w_pick_f); rfl) | ((with_reducible apply a_cond1); rfl; first | rfl | assumption) | ((with_reducible apply a_cond0); rfl; first | rfl | assumption) | ((with_reducible apply a_guard1); rfl; first | rfl | assumption) | ((with_reducible apply a_guard0); rfl; first | rfl | assumption) | ((with_reducible apply w_guard_u); rfl) | ((with_reducible apply a_pick1); rfl; first | rfl | assumption) | ((with_reducible apply a_pick0); rfl; first | rfl | assumption) | ((with_reducible apply a_pickN); rfl) | ((with_reducible apply a_condN); rfl) | ((with_reducible apply a_guardN); rfl) | ((with_reducible apply w_fad); rfl) | ((with_reducible apply a_fadI); rfl) | ((with_reducible apply w_load); rfl; rfl; rfl) | ((with_reducible apply w_loadI); rfl) | ((with_reducible apply w_loadA); rfl; rfl; first | exact Nat.le_refl _ | exact Nat.le_of_ble_eq_true rfl) | ((with_reducible apply a_eqA); rfl; rfl; rfl) | ((with_reducible apply a_loadAI); rfl; first | rfl | simp) | ((with_reducible apply w_new); first | rfl | simp) | ((with_reducible apply a_store); rfl; rfl; rfl; rfl; (first | exact Nat.le_refl _ | simp); (first | rfl | simp); (first | rfl | simp)) | ((with_reducible apply a_lenS); rfl; intro _) | ((with_reducible apply a_len); rfl; (first | rfl | simp); intro _) | ((with_reducible apply a_build); rfl) | ((with_reducible apply a_extr); rfl; rfl) | (refine w_callQ rfl (by kernel_rfl) (con_rCustom s) ?_) | (refine a_idx (f := encCu) rfl rfl rfl hs ?_) | ((with_reducible apply a_cond); rfl) | ((with_reducible apply a_guard); rfl) | (with_reducible intro _))
        refine ⟨1, ⟨q, fun i hi => ?_⟩, Wk.refl _ _ _ (by simp), by omega⟩
        obtain rfl : i = 0 := by omega
        rw [hok, hc, less_nil hc]; rfl
    · obtain ⟨⟨p, pv⟩, hp⟩ : ∃ x, l[k - 1]? = some x := ⟨l[k - 1]'(by omega), List.getElem?_eq_getElem _⟩
      have hsub : inI ((k : Int) - 1) := by unfold inI; omega
      have ek : ((k : Int) - 1) = ((k - 1 : Nat) : Int) := by omega
      have gk : decide ((0 : Int) < k) = true := by simp; omega
      have hpp := prevN_next hp
      rw [show k - 1 + 1 = k by omega] at hpp
      simp only at hpp
      rw [hpp] at hok
      cases hc : customS s with
      | false =>
        have g1 : (!customS s) = true := by rw [hc]; rfl
        repeat' (first | (with_reducible first | apply w_let | apply w_and | refine And.intro True.intro ?_) | ((with_reducible first | apply a_lss | apply a_leq | apply a_gtr | apply a_geq | apply a_eql | apply a_neq); rfl; rfl) | ((with_reducible first | apply a_eqlS | apply a_neqS | apply a_eqlB | apply a_neqB); rfl; rfl) | ((with_reducible apply w_add); rfl; rfl; first | assumption | (unfold inI; omega)) | ((with_reducible apply w_sub); rfl; rfl; first | assumption | (unfold inI; omega)) | ((with_reducible apply a_not); rfl) | ((with_reducible apply w_pick_t); rfl) | ((with_reducible apply w_pick_f); rfl) | ((with_reducible apply a_cond1); rfl; first | rfl | assumption) | ((with_reducible apply a_cond0); rfl; first | rfl | assumption) | ((with_reducible apply a_guard1); rfl; first | rfl | assumption) | ((with_reducible apply a_guard0); rfl; first | rfl | assumption) | ((with_reducible apply w_guard_u); rfl) | ((with_reducible apply a_pick1); rfl; first | rfl | assumption) | ((with_reducible apply a_pick0); rfl; first | rfl | assumption) | ((with_reducible apply a_pickN); rfl) | ((with_reducible apply a_condN); rfl) | ((with_reducible apply a_guardN); rfl) | ((with_reducible apply w_fad); rfl) | ((with_reducible apply a_fadI); rfl) | ((with_reducible apply w_load); rfl; rfl; rfl) | ((with_reducible apply w_loadI); rfl) | ((with_reducible apply w_loadA); rfl; rfl; first | exact Nat.le_refl _ | exact Nat.le_of_ble_eq_true rfl) | ((with_reducible apply a_eqA); rfl; rfl; rfl) | ((with_reducible apply a_loadAI); rfl; first | rfl | simp) | ((with_reducible apply w_new); first | rfl | simp) | ((with_reducible apply a_store); rfl; rfl; rfl; rfl; (first | exact Nat.le_refl _ | simp); (first | rfl | simp); (first | rfl | simp)) | ((with_reducible apply a_lenS); rfl; intro _) | ((with_reducible apply a_len); rfl; (first | rfl | simp); intro _) | ((with_reducible apply a_build); rfl) | ((with_reducible apply a_extr); rfl; rfl) | (refine w_callQ rfl (by kernel_rfl) (con_rCustom s) ?_) | (refine a_idx (f := encCu) rfl rfl rfl hs ?_) | (refine a_idx (f := encCu) rfl rfl (congrArg (fun n => AV.v (.int .i64 n)) ek) hp ?_) | ((with_reducible apply a_geqS); rfl; rfl) | ((with_reducible apply a_cond); rfl) | ((with_reducible apply a_guard); rfl) | (with_reducible intro _))
        exact .pure (by simp) (by rw [namedB_not q (by rw [hok, hc]; rfl)])
      | true =>
        have g1 : (!customS s) = false := by rw [hc]; rfl
        cases hb : Op.bytesLess p s with
        | false =>
          have g2 : (!Op.bytesLess p s) = true := by rw [hb]; rfl
          repeat' (first | (with_reducible first | apply w_let | apply w_and | refine And.intro True.intro ?_) | ((with_reducible first | apply a_lss | apply a_leq | apply a_gtr | apply a_geq | apply a_eql | apply a_neq); rfl; rfl) | ((with_reducible first | apply a_eqlS | apply a_neqS | apply a_eqlB | apply a_neqB); rfl; rfl) | ((with_reducible apply w_add); rfl; rfl; first | assumption | (unfold inI; omega)) | ((with_reducible apply w_sub); rfl; rfl; first | assumption | (unfold inI; omega)) | ((with_reducible apply a_not); rfl) | ((with_reducible apply w_pick_t); rfl) | ((with_reducible apply w_pick_f); rfl) | ((with_reducible apply a_cond1); rfl; first | rfl | assumption) | ((with_reducible apply a_cond0); rfl; first | rfl | assumption) | ((with_reducible apply a_guard1); rfl; first | rfl | assumption) | ((with_reducible apply a_guard0); rfl; first | rfl | assumption) | ((with_reducible apply w_guard_u); rfl) | ((with_reducible apply a_pick1); rfl; first | rfl | assumption) | ((with_reducible apply a_pick0); rfl; first | rfl | assumption) | ((with_reducible apply a_pickN); rfl) | ((with_reducible apply a_condN); rfl) | ((with_reducible apply a_guardN); rfl) | ((with_reducible apply w_fad); rfl) | ((with_reducible apply a_fadI); rfl) | ((with_reducible apply w_load); rfl; rfl; rfl) | ((with_reducible apply w_loadI); rfl) | ((with_reducible apply w_loadA); rfl; rfl; first | exact Nat.le_refl _ | exact Nat.le_of_ble_eq_true rfl) | ((with_reducible apply a_eqA); rfl; rfl; rfl) | ((with_reducible apply a_loadAI); rfl; first | rfl | simp) | ((with_reducible apply w_new); first | rfl | simp) | ((with_reducible apply a_store); rfl; rfl; rfl; rfl; (first | exact Nat.le_refl _ | simp); (first | rfl | simp); (first | rfl | simp)) | ((with_reducible apply a_lenS); rfl; intro _) | ((with_reducible apply a_len); rfl; (first | rfl | simp); intro _) | ((with_reducible apply a_build); rfl) | ((with_reducible apply a_extr); rfl; rfl) | (refine w_callQ rfl (by kernel_rfl) (con_rCustom s) ?_) | (refine a_idx (f := encCu) rfl rfl rfl hs ?_) | (refine a_idx (f := encCu) rfl rfl (congrArg (fun n => AV.v (.int .i64 n)) ek) hp ?_) | ((with_reducible apply a_geqS); rfl; rfl) | ((with_reducible apply a_cond); rfl) | ((with_reducible apply a_guard); rfl) | (with_reducible intro _))
          exact .pure (by simp) (by rw [namedB_not q (by rw [hok, hc, hb]; rfl)])
        | true =>
          have g2 : (!Op.bytesLess p s) = false := by rw [hb]; rfl
          repeat' (first | (with_reducible first | apply w_let | apply w_and | refine And.intro True.intro ?_) | ((with_reducible first | apply a_lss | apply a_leq | apply a_gtr | apply a_geq | apply a_eql | apply a_neq); rfl; rfl) | ((with_reducible first | apply a_eqlS | apply a_neqS | apply a_eqlB | apply a_neqB); rfl; rfl) | ((with_reducible apply w_add); rfl; rfl; first | assumption | (unfold inI; omega)) | ((with_reducible apply w_sub); rfl; rfl; first | assumption | (unfold inI; omega)) | ((with_reducible apply a_not); rfl) | ((with_reducible apply w_pick_t); rfl) | ((with_reducible apply w_pick_f); rfl) | ((with_reducible apply a_cond1); rfl; first | rfl | assumption) | ((with_reducible apply a_cond0); rfl; first | rfl | assumption) | ((with_reducible apply a_guard1); rfl; first | rfl | assumption) | ((with_reducible apply a_guard0); rfl; first | rfl | assumption) | ((with_reducible apply w_guard_u); rfl) | ((with_reducible apply a_pick1); rfl; first | rfl | assumption) | ((with_reducible apply a_pick0); rfl; first | rfl | assumption) | ((with_reducible apply a_pickN); rfl) | ((with_reducible apply a_condN); rfl) | ((with_reducible apply a_guardN); rfl) | ((with_reducible apply w_fad); rfl) | ((with_reducible apply a_fadI); rfl) | ((with_reducible apply w_load); rfl; rfl; rfl) | ((with_reducible apply w_loadI); rfl) | ((with_reducible apply w_loadA); rfl; rfl; first | exact Nat.le_refl _ | exact Nat.le_of_ble_eq_true rfl) | ((with_reducible apply a_eqA); rfl; rfl; rfl) | ((with_reducible apply a_loadAI); rfl; first | rfl | simp) | ((with_reducible apply w_new); first | rfl | simp) | ((with_reducible apply a_store); rfl; rfl; rfl; rfl; (first | exact Nat.le_refl _ | simp); (first | rfl | simp); (first | rfl | simp)) | ((with_reducible apply a_lenS); rfl; intro _) | ((with_reducible apply a_len); rfl; (first | rfl | simp); intro _) | ((with_reducible apply a_build); rfl) | ((with_reducible apply a_extr); rfl; rfl) | (refine w_callQ rfl (by kernel_rfl) (con_rCustom s) ?_) | (refine a_idx (f := encCu) rfl rfl rfl hs ?_) | (refine a_idx (f := encCu) rfl rfl (congrArg (fun n => AV.v (.int .i64 n)) ek) hp ?_) | ((with_reducible apply a_geqS); rfl; rfl) | ((with_reducible apply a_cond); rfl) | ((with_reducible apply a_guard); rfl) | (with_reducible intro _))
          refine ⟨k + 1, ⟨q, fun i hi => ?_⟩, Wk.refl _ _ _ (by simp), by omega⟩
          rcases Nat.lt_or_ge i k with z | z
          · exact hall i z
          · obtain rfl : i = k := by omega
            rw [hok, hc, hb]; rfl
  · have hk : k = l.length := by omega
    subst hk
    have q1 : decide ((l.length : Int) < l.length) = false := by simp
    repeat' (first | (with_reducible first | apply w_let | apply w_and | refine And.intro True.intro ?_) | ((with_reducible first | apply a_lss | apply a_leq | apply a_gtr | apply a_geq | apply a_eql | apply a_neq); rfl; rfl) | ((with_reducible first | apply a_eqlS | apply a_neqS | apply a_eqlB | apply a_neqB); rfl; rfl) | ((with_reducible apply w_add); rfl; rfl; first | assumption | (unfold inI; omega)) | ((with_reducible apply w_sub); rfl; rfl; first | assumption | (unfold inI; omega)) | ((with_reducible apply a_not); rfl) | ((with_reducible apply w_pick_t); rfl) | ((with_reducible apply w_pick_f); rfl) | ((with_reducible apply a_cond1); rfl; first | rfl | assumption) | ((with_reducible apply a_cond0); rfl; first | rfl | assumption) | ((with_reducible apply a_guard1); rfl; first | rfl | assumption) | ((with_reducible apply a_guard0); rfl; first | rfl | assumption) | ((with_reducible apply w_guard_u); rfl) | ((with_reducible apply a_pick1); rfl; first | rfl | assumption) | ((with_reducible apply a_pick0); rfl; first | rfl | assumption) | ((with_reducible apply a_pickN); rfl) | ((with_reducible apply a_condN); rfl) | ((with_reducible apply a_guardN); rfl) | ((with_reducible apply w_fad); rfl) | ((with_reducible apply a_fadI); rfl) | ((with_reducible apply w_load); rfl; rfl; rfl) | ((with_reducible apply w_loadI); rfl) | ((with_reducible apply w_loadA); rfl; rfl; first | exact Nat.le_refl _ | exact Nat.le_of_ble_eq_true rfl) | ((with_reducible apply a_eqA); rfl; rfl; rfl) | ((with_reducible apply a_loadAI); rfl; first | rfl | simp) | ((with_reducible apply w_new); first | rfl | simp) | ((with_reducible apply a_store); rfl; rfl; rfl; rfl; (first | exact Nat.le_refl _ | simp); (first | rfl | simp); (first | rfl | simp)) | ((with_reducible apply a_lenS); rfl; intro _) | ((with_reducible apply a_len); rfl; (first | rfl | simp); intro _) | ((with_reducible apply a_build); rfl) | ((with_reducible apply a_extr); rfl; rfl) | ((with_reducible apply a_cond); rfl) | ((with_reducible apply a_guard); rfl) | (with_reducible intro _))
    exact .pure (by simp) (by rw [namedB_of hall])
end Go.Proofs.YthblflmjingcfaaDoor
end

section
namespace Go.Proofs.YthblflmjingcfaaDoor
open Go Go.Aw Go.Nst
set_option maxRecDepth 100000
def lowC (b : UInt8) : UInt8 := if 65 ≤ b ∧ b ≤ 90 then b + 32 else b
def smallS (s : Str) : Str := s.map lowC
theorem lowC_up (b : UInt8) (h1 : 65 ≤ (b.toNat : Int)) (h2 : (b.toNat : Int) ≤ 90) : IntKind.u8.wrap (IntKind.u8.wrap ((b.toNat : Int) + 97) - 65) = ((lowC b).toNat : Int) := by
  have : ∀ n : Fin 26, IntKind.u8.wrap (IntKind.u8.wrap (((65 + n.val : Nat) : Int) + 97) - 65) = ((lowC (UInt8.ofNat (65 + n.val))).toNat : Int) := by decide
  have hb : b = UInt8.ofNat (65 + (b.toNat - 65)) := by
    rw [show 65 + (b.toNat - 65) = b.toNat by omega]; simp
  have h := this ⟨b.toNat - 65, by omega⟩
  simp only [show 65 + (b.toNat - 65) = b.toNat by omega] at h
  rw [h]; simp
theorem lowC_up2 (b : UInt8) (h1 : 65 ≤ (b.toNat : Int)) (h2 : (b.toNat : Int) ≤ 90) : IntKind.u8.wrap ((b.toNat : Int) + 32) = ((lowC b).toNat : Int) := by
  have : ∀ n : Fin 26, IntKind.u8.wrap (((65 + n.val : Nat) : Int) + 32) = ((lowC (UInt8.ofNat (65 + n.val))).toNat : Int) := by decide
  have hb : b = UInt8.ofNat (65 + (b.toNat - 65)) := by
    rw [show 65 + (b.toNat - 65) = b.toNat by omega]; simp
  have h := this ⟨b.toNat - 65, by omega⟩
  simp only [show 65 + (b.toNat - 65) = b.toNat by omega] at h
  rw [h]; simp
theorem lowC_id (b : UInt8) (h : ¬ (65 ≤ (b.toNat : Int) ∧ (b.toNat : Int) ≤ 90)) : lowC b = b := by
  unfold lowC
  rw [if_neg]
  intro ⟨h1, h2⟩
  rw [UInt8.le_iff_toNat_le] at h1 h2
  simp at h1 h2
  omega
def loCells (s : Str) (k : Nat) : List AV := ((s.take k).map lowC ++ s.drop k).map byteA
theorem loCells_get {s : Str} {k : Nat} {b : UInt8} (hb : s[k]? = some b) : (loCells s k)[k]? = some (byteA b) := by
  have hk := (List.getElem?_eq_some_iff.1 hb).1
  unfold loCells
  rw [List.getElem?_map, List.getElem?_append_right (by simp; omega)]
  simp [Nat.min_eq_left (Nat.le_of_lt hk), hb]
theorem loCells_next {s : Str} {k : Nat} {b : UInt8} (hb : s[k]? = some b) : (loCells s k).set k (byteA (lowC b)) = loCells s (k + 1) := by
  have hk := (List.getElem?_eq_some_iff.1 hb).1
  refine List.ext_getElem? fun j => ?_
  unfold loCells
  rcases Nat.lt_trichotomy j k with q | q | q
  · rw [List.getElem?_set_ne (by omega), List.getElem?_map, List.getElem?_map, List.getElem?_append_left (by simp; omega), List.getElem?_append_left (by simp; omega)]
    simp [q, Nat.lt_succ_of_lt q]
  · subst q
    rw [List.getElem?_set_self (by simp; omega), List.getElem?_map, List.getElem?_append_left (by simp; omega)]
    simp [hb]
  · rw [List.getElem?_set_ne (by omega), List.getElem?_map, List.getElem?_map, List.getElem?_append_right (by simp; omega), List.getElem?_append_right (by simp; omega)]
    simp [Nat.min_eq_left (Nat.le_of_lt hk), Nat.min_eq_left hk]
    congr 2; omega
theorem loCells_len (s : Str) (k : Nat) : (loCells s k).length = s.length := by
  unfold loCells; simp; omega

theorem a_addU {x y : AV} {a b : Int} {K : AV → Prop} (ex : x = .v (.int .u8 a)) (ey : y = .v (.int .u8 b)) (q : K (.v (.int .u8 (IntKind.u8.wrap (a + b))))) : iBin .add x y K := by subst ex; subst ey; exact ⟨rfl, q⟩
theorem a_subU {x y : AV} {a b : Int} {K : AV → Prop} (ex : x = .v (.int .u8 a)) (ey : y = .v (.int .u8 b)) (q : K (.v (.int .u8 (IntKind.u8.wrap (a - b))))) : iBin .sub x y K := by subst ex; subst ey; exact ⟨rfl, q⟩

set_option maxHeartbeats 4000000 in
theorem con_small (s : Str) : Con Tryd.prog 84 [.str s] (.str (smallS s)) := by
  refine (V84 _).gives (by simp) (by simp) ?_
  unfold W84
  rw [iToBytes_s, iLen_o]
  intro hlen
  refine iLoop_of (α := Nat) (fun k => k ≤ s.length) (fun k => [int k]) (fun k => [.blk ⟨5, loCells s k, true⟩]) (fun k => s.length - k) 0 (by simp) (by simpa [loCells] using Wk.refl _ _ _ (by simp)) ?_
  intro k hk
  skip
  by_cases q : k < s.length
  · obtain ⟨b, hb⟩ : ∃ b, s[k]? = some b := ⟨s[k], List.getElem?_eq_getElem q⟩
    have hc := loCells_get hb
    have q1 : decide ((k : Int) < s.length) = true := by simpa using q
    have hin : inI ((k : Int) + 1) := by unfold maxLen at hlen; unfold inI; omega
    have idx : ∀ {K : AV → Prop}, K (.op 0 k) → iIdxP 1 (.own 0 0 s.length 1) (nx [int k] 0) K := fun q2 => by
      rw [nx_zero, iIdxP_o]; exact ⟨rfl, ⟨by omega, by omega⟩, by simpa using q2⟩
    by_cases h1 : 65 ≤ (b.toNat : Int)
    · have g1 : decide (65 ≤ (b.toNat : Int)) = true := by simpa using h1
      by_cases h2 : (b.toNat : Int) ≤ 90
      · have g2 : decide ((b.toNat : Int) ≤ 90) = true := by simpa using h2
        repeat' (first | (refine w_load rfl rfl hc ?_) | (refine idx ?_) | ((with_reducible apply a_addU); rfl; rfl) | ((with_reducible apply a_subU); rfl; rfl) | (refine a_store (cs := [byteA (lowC b)]) rfl rfl rfl (by rw [lowC_up b h1 h2]; rfl) (by simp [loCells_len]; omega) rfl rfl ?_) | (with_reducible first | apply w_let | apply w_and | refine And.intro True.intro ?_) | ((with_reducible first | apply a_lss | apply a_leq | apply a_gtr | apply a_geq | apply a_eql | apply a_neq); rfl; rfl) | ((with_reducible first | apply a_eqlS | apply a_neqS | apply a_eqlB | apply a_neqB); rfl; rfl) | ((with_reducible apply w_add); rfl; rfl; first | assumption | (unfold inI; omega)) | ((with_reducible apply w_sub); rfl; rfl; first | assumption | (unfold inI; omega)) | ((with_reducible apply a_not); rfl) | ((with_reducible apply w_pick_t); rfl) | ((with_reducible apply w_pick_f); rfl) | ((with_reducible apply a_cond1); rfl; first | rfl | assumption) | ((with_reducible apply a_cond0); rfl; first | rfl | assumption) | ((with_reducible apply a_guard1); rfl; first | rfl | assumption) | ((with_reducible apply a_guard0); rfl; first | rfl | assumption) | ((with_reducible apply w_guard_u); rfl) | ((with_reducible apply a_pick1); rfl; first | rfl | assumption) | ((with_reducible apply a_pick0); rfl; first | rfl | assumption) | ((with_reducible apply a_pickN); rfl) | ((with_reducible apply a_condN); rfl) | ((with_reducible apply a_guardN); rfl) | ((with_reducible apply w_fad); rfl) | ((with_reducible apply a_fadI); rfl) | ((with_reducible apply w_load); rfl; rfl; rfl) | ((with_reducible apply w_loadI); rfl) | ((with_reducible apply w_loadA); rfl; rfl; first | exact Nat.le_refl _ | exact Nat.le_of_ble_eq_true rfl) | ((with_reducible apply a_eqA); rfl; rfl; rfl) | ((with_reducible apply a_loadAI); rfl; first | rfl | simp) | ((with_reducible apply w_new); first | rfl | simp) | ((with_reducible apply a_store); rfl; rfl; rfl; rfl; (first | exact Nat.le_refl _ | simp); (first | rfl | simp); (first | rfl | simp)) | ((with_reducible apply a_lenS); rfl; intro _) | ((with_reducible apply a_len); rfl; (first | rfl | simp); intro _) | ((with_reducible apply a_build); rfl) | ((with_reducible apply a_extr); rfl; rfl) | ((with_reducible apply a_cond); rfl) | ((with_reducible apply a_guard); rfl) | (with_reducible intro _))
        refine ⟨k + 1, by omega, ?_, by omega⟩
        have := loCells_next hb
        rw [show setAll (loCells s k) k [byteA (lowC b)] = loCells s (k + 1) from this]
        exact Wk.refl _ _ _ (by simp)
      · have g2 : decide ((b.toNat : Int) ≤ 90) = false := by simpa using h2
        repeat' (first | (refine w_load rfl rfl hc ?_) | (refine idx ?_) | (with_reducible first | apply w_let | apply w_and | refine And.intro True.intro ?_) | ((with_reducible first | apply a_lss | apply a_leq | apply a_gtr | apply a_geq | apply a_eql | apply a_neq); rfl; rfl) | ((with_reducible first | apply a_eqlS | apply a_neqS | apply a_eqlB | apply a_neqB); rfl; rfl) | ((with_reducible apply w_add); rfl; rfl; first | assumption | (unfold inI; omega)) | ((with_reducible apply w_sub); rfl; rfl; first | assumption | (unfold inI; omega)) | ((with_reducible apply a_not); rfl) | ((with_reducible apply w_pick_t); rfl) | ((with_reducible apply w_pick_f); rfl) | ((with_reducible apply a_cond1); rfl; first | rfl | assumption) | ((with_reducible apply a_cond0); rfl; first | rfl | assumption) | ((with_reducible apply a_guard1); rfl; first | rfl | assumption) | ((with_reducible apply a_guard0); rfl; first | rfl | assumption) | ((with_reducible apply w_guard_u); rfl) | ((with_reducible apply a_pick1); rfl; first | rfl | assumption) | ((with_reducible apply a_pick0); rfl; first | rfl | assumption) | ((with_reducible apply a_pickN); rfl) | ((with_reducible apply a_condN); rfl) | ((with_reducible apply a_guardN); rfl) | ((with_reducible apply w_fad); rfl) | ((with_reducible apply a_fadI); rfl) | ((with_reducible apply w_load); rfl; rfl; rfl) | ((with_reducible apply w_loadI); rfl) | ((with_reducible apply w_loadA); rfl; rfl; first | exact Nat.le_refl _ | exact Nat.le_of_ble_eq_true rfl) | ((with_reducible apply a_eqA); rfl; rfl; rfl) | ((with_reducible apply a_loadAI); rfl; first | rfl | simp) | ((with_reducible apply w_new); first | rfl | simp) | ((with_reducible apply a_store); rfl; rfl; rfl; rfl; (first | exact Nat.le_refl _ | simp); (first | rfl | simp); (first | rfl | simp)) | ((with_reducible apply a_lenS); rfl; intro _) | ((with_reducible apply a_len); rfl; (first | rfl | simp); intro _) | ((with_reducible apply a_build); rfl) | ((with_reducible apply a_extr); rfl; rfl) | ((with_reducible apply a_cond); rfl) | ((with_reducible apply a_guard); rfl) | (with_reducible intro _))
        refine ⟨k + 1, by omega, ?_, by omega⟩
        have := loCells_next hb
        rw [lowC_id b (by omega), set_same hc] at this
        rw [← this]
        exact Wk.refl _ _ _ (by simp)
    · have g1 : decide (65 ≤ (b.toNat : Int)) = false := by simpa using h1
      repeat' (first | (refine w_load rfl rfl hc ?_) | (refine idx ?_) | (with_reducible first | apply w_let | apply w_and | refine And.intro True.intro ?_) | ((with_reducible first | apply a_lss | apply a_leq | apply a_gtr | apply a_geq | apply a_eql | apply a_neq); rfl; rfl) | ((with_reducible first | apply a_eqlS | apply a_neqS | apply a_eqlB | apply a_neqB); rfl; rfl) | ((with_reducible apply w_add); rfl; rfl; first | assumption | (unfold inI; omega)) | ((with_reducible apply w_sub); rfl; rfl; first | assumption | (unfold inI; omega)) | ((with_reducible apply a_not); rfl) | ((with_reducible apply w_pick_t); rfl) | ((with_reducible apply w_pick_f); rfl) | ((with_reducible apply a_cond1); rfl; first | rfl | assumption) | ((with_reducible apply a_cond0); rfl; first | rfl | assumption) | ((with_reducible apply a_guard1); rfl; first | rfl | assumption) | ((with_reducible apply a_guard0); rfl; first | rfl | assumption) | ((with_reducible apply w_guard_u); rfl) | ((with_reducible apply a_pick1); rfl; first | rfl | assumption) | ((with_reducible apply a_pick0); rfl; first | rfl | assumption) | ((with_reducible apply a_pickN); rfl) | ((with_reducible apply a_condN); rfl) | ((with_reducible apply a_guardN); rfl) | ((with_reducible apply w_fad); rfl) | ((with_reducible apply a_fadI); rfl) | ((with_reducible apply w_load); rfl; rfl; rfl) | ((with_reducible apply w_loadI); rfl) | ((with_reducible apply w_loadA); rfl; rfl; first | exact Nat.le_refl _ | exact Nat.le_of_ble_eq_true rfl) | ((with_reducible apply a_eqA); rfl; rfl; rfl) | ((with_reducible apply a_loadAI); rfl; first | rfl | simp) | ((with_reducible apply w_new); first | rfl | simp) | ((with_reducible apply a_store); rfl; rfl; rfl; rfl; (first | exact Nat.le_refl _ | simp); (first | rfl | simp); (first | rfl | simp)) | ((with_reducible apply a_lenS); rfl; intro _) | ((with_reducible apply a_len); rfl; (first | rfl | simp); intro _) | ((with_reducible apply a_build); rfl) | ((with_reducible apply a_extr); rfl; rfl) | ((with_reducible apply a_cond); rfl) | ((with_reducible apply a_guard); rfl) | (with_reducible intro _))
      refine ⟨k + 1, by omega, ?_, by omega⟩
      have := loCells_next hb
      rw [lowC_id b (by omega), set_same hc] at this
      rw [← this]
      exact Wk.refl _ _ _ (by simp)
  · obtain rfl : k = s.length := by omega
    refine a_lss rfl rfl ?_
    refine a_cond0 rfl (by simp) ?_
    refine a_ofBytes (id := 0) (b := ⟨5, loCells s s.length, true⟩) (l := smallS s) (by simp [smallS]) rfl (by simp [loCells, smallS]) ?_
    exact .pure (by simp) rfl

set_option maxHeartbeats 4000000 in
theorem con_rSmall (s : Str) : Con Tryd.prog 94 [.str s] (.str (smallS s)) := by
  refine (V94 _).gives (by simp) (by simp) ?_
  unfold W94
  rw [iToBytes_s]
  skip
  refine iLoop_of (α := Nat) (fun k => k ≤ s.length) (fun k => [int k]) (fun k => [.blk ⟨5, loCells s k, true⟩]) (fun k => s.length - k) 0 (by simp) (by simpa [loCells] using Wk.refl _ _ _ (by simp)) ?_
  intro k hk
  rw [iLen_o]; intro hlen
  by_cases q : k < s.length
  · obtain ⟨b, hb⟩ : ∃ b, s[k]? = some b := ⟨s[k], List.getElem?_eq_getElem q⟩
    have hc := loCells_get hb
    have q1 : decide ((k : Int) < s.length) = true := by simpa using q
    have hin : inI ((k : Int) + 1) := by unfold maxLen at hlen; unfold inI; omega
    have idx : ∀ {K : AV → Prop}, K (.op 0 k) → iIdxP 1 (.own 0 0 s.length 1) (nx [int k] 0) K := fun q2 => by
      rw [nx_zero, iIdxP_o]; exact ⟨rfl, ⟨by omega, by omega⟩, by simpa using q2⟩
    by_cases h1 : 65 ≤ (b.toNat : Int)
    · have g1 : decide (65 ≤ (b.toNat : Int)) = true := by simpa using h1
      by_cases h2 : (b.toNat : Int) ≤ 90
      · have g2 : decide ((b.toNat : Int) ≤ 90) = true := by simpa using h2
        repeat' (first | (refine w_load rfl rfl hc ?_) | (refine idx ?_) | ((with_reducible apply a_addU); rfl; rfl) | ((with_reducible apply a_subU); rfl; rfl) | (refine a_store (cs := [byteA (lowC b)]) rfl rfl rfl (by rw [lowC_up2 b h1 h2]; rfl) (by simp [loCells_len]; omega) rfl rfl ?_) | (with_reducible first | apply w_let | apply w_and | refine And.intro True.intro ?_) | ((with_reducible first | apply a_lss | apply a_leq | apply a_gtr | apply a_geq | apply a_eql | apply a_neq); rfl; rfl) | ((with_reducible first | apply a_eqlS | apply a_neqS | apply a_eqlB | apply a_neqB); rfl; rfl) | ((with_reducible apply w_add); rfl; rfl; first | assumption | (unfold inI; omega)) | ((with_reducible apply w_sub); rfl; rfl; first | assumption | (unfold inI; omega)) | ((with_reducible apply a_not); rfl) | ((with_reducible apply w_pick_t); rfl) | ((with_reducible apply w_pick_f); rfl) | ((with_reducible apply a_cond1); rfl; first | rfl | assumption) | ((with_reducible apply a_cond0); rfl; first | rfl | assumption) | ((with_reducible apply a_guard1); rfl; first | rfl | assumption) | ((with_reducible apply a_guard0); rfl; first | rfl | assumption) | ((with_reducible apply w_guard_u); rfl) | ((with_reducible apply a_pick1); rfl; first | rfl | assumption) | ((with_reducible apply a_pick0); rfl; first | rfl | assumption) | ((with_reducible apply a_pickN); rfl) | ((with_reducible apply a_condN); rfl) | ((with_reducible apply a_guardN); rfl) | ((with_reducible apply w_fad); rfl) | ((with_reducible apply a_fadI); rfl) | ((with_reducible apply w_load); rfl; rfl; rfl) | ((with_reducible apply w_loadI); rfl) | ((with_reducible apply w_loadA); rfl; rfl; first | exact Nat.le_refl _ | exact Nat.le_of_ble_eq_true rfl) | ((with_reducible apply a_eqA); rfl; rfl; rfl) | ((with_reducible apply a_loadAI); rfl; first | rfl | simp) | ((with_reducible apply w_new); first | rfl | simp) | ((with_reducible apply a_store); rfl; rfl; rfl; rfl; (first | exact Nat.le_refl _ | simp); (first | rfl | simp); (first | rfl | simp)) | ((with_reducible apply a_lenS); rfl; intro _) | ((with_reducible apply a_len); rfl; (first | rfl | simp); intro _) | ((with_reducible apply a_build); rfl) | ((with_reducible apply a_extr); rfl; rfl) | ((with_reducible apply a_cond); rfl) | ((with_reducible apply a_guard); rfl) | (with_reducible intro _))
        refine ⟨k + 1, by omega, ?_, by omega⟩
        have := loCells_next hb
        rw [show setAll (loCells s k) k [byteA (lowC b)] = loCells s (k + 1) from this]
        exact Wk.refl _ _ _ (by simp)
      · have g2 : decide ((b.toNat : Int) ≤ 90) = false := by simpa using h2
        repeat' (first | (refine w_load rfl rfl hc ?_) | (refine idx ?_) | (with_reducible first | apply w_let | apply w_and | refine And.intro True.intro ?_) | ((with_reducible first | apply a_lss | apply a_leq | apply a_gtr | apply a_geq | apply a_eql | apply a_neq); rfl; rfl) | ((with_reducible first | apply a_eqlS | apply a_neqS | apply a_eqlB | apply a_neqB); rfl; rfl) | ((with_reducible apply w_add); rfl; rfl; first | assumption | (unfold inI; omega)) | ((with_reducible apply w_sub); rfl; rfl; first | assumption | (unfold inI; omega)) | ((with_reducible apply a_not); rfl) | ((with_reducible apply w_pick_t); rfl) | ((with_reducible apply w_pick_f); rfl) | ((with_reducible apply a_cond1); rfl; first | rfl | assumption) | ((with_reducible apply a_cond0); rfl; first | rfl | assumption) | ((with_reducible apply a_guard1); rfl; first | rfl | assumption) | ((with_reducible apply a_guard0); rfl; first | rfl | assumption) | ((with_reducible apply w_guard_u); rfl) | ((with_reducible apply a_pick1); rfl; first | rfl | assumption) | ((with_reducible apply a_pick0); rfl; first | rfl | assumption) | ((with_reducible apply a_pickN); rfl) | ((with_reducible apply a_condN); rfl) | ((with_reducible apply a_guardN); rfl) | ((with_reducible apply w_fad); rfl) | ((with_reducible apply a_fadI); rfl) | ((with_reducible apply w_load); rfl; rfl; rfl) | ((with_reducible apply w_loadI); rfl) | ((with_reducible apply w_loadA); rfl; rfl; first | exact Nat.le_refl _ | exact Nat.le_of_ble_eq_true rfl) | ((with_reducible apply a_eqA); rfl; rfl; rfl) | ((with_reducible apply a_loadAI); rfl; first | rfl | simp) | ((with_reducible apply w_new); first | rfl | simp) | ((with_reducible apply a_store); rfl; rfl; rfl; rfl; (first | exact Nat.le_refl _ | simp); (first | rfl | simp); (first | rfl | simp)) | ((with_reducible apply a_lenS); rfl; intro _) | ((with_reducible apply a_len); rfl; (first | rfl | simp); intro _) | ((with_reducible apply a_build); rfl) | ((with_reducible apply a_extr); rfl; rfl) | ((with_reducible apply a_cond); rfl) | ((with_reducible apply a_guard); rfl) | (with_reducible intro _))
        refine ⟨k + 1, by omega, ?_, by omega⟩
        have := loCells_next hb
        rw [lowC_id b (by omega), set_same hc] at this
        rw [← this]
        exact Wk.refl _ _ _ (by simp)
    · have g1 : decide (65 ≤ (b.toNat : Int)) = false := by simpa using h1
      repeat' (first | (refine w_load rfl rfl hc ?_) | (refine idx ?_) | (with_reducible first | apply w_let | apply w_and | refine And.intro True.intro ?_) | ((with_reducible first | apply a_lss | apply a_leq | apply a_gtr | apply a_geq | apply a_eql | apply a_neq); rfl; rfl) | ((with_reducible first | apply a_eqlS | apply a_neqS | apply a_eqlB | apply a_neqB); rfl; rfl) | ((with_reducible apply w_add); rfl; rfl; first | assumption | (unfold inI; omega)) | ((with_reducible apply w_sub); rfl; rfl; first | assumption | (unfold inI; omega)) | ((with_reducible apply a_not); rfl) | ((with_reducible apply w_pick_t); rfl) | ((with_reducible apply w_pick_f); rfl) | ((with_reducible apply a_cond1); rfl; first | rfl | assumption) | ((with_reducible apply a_cond0); rfl; first | rfl | assumption) | ((with_reducible apply a_guard1); rfl; first | rfl | assumption) | ((with_reducible apply a_guard0); rfl; first | rfl | assumption) | ((with_reducible apply w_guard_u); rfl) | ((with_reducible apply a_pick1); rfl; first | rfl | assumption) | ((with_reducible apply a_pick0); rfl; first | rfl | assumption) | ((with_reducible apply a_pickN); rfl) | ((with_reducible apply a_condN); rfl) | ((with_reducible apply a_guardN); rfl) | ((with_reducible apply w_fad); rfl) | ((with_reducible apply a_fadI); rfl) | ((with_reducible apply w_load); rfl; rfl; rfl) | ((with_reducible apply w_loadI); rfl) | ((with_reducible apply w_loadA); rfl; rfl; first | exact Nat.le_refl _ | exact Nat.le_of_ble_eq_true rfl) | ((with_reducible apply a_eqA); rfl; rfl; rfl) | ((with_reducible apply a_loadAI); rfl; first | rfl | simp) | ((with_reducible apply w_new); first | rfl | simp) | ((with_reducible apply a_store); rfl; rfl; rfl; rfl; (first | exact Nat.le_refl _ | simp); (first | rfl | simp); (first | rfl | simp)) | ((with_reducible apply a_lenS); rfl; intro _) | ((with_reducible apply a_len); rfl; (first | rfl | simp); intro _) | ((with_reducible apply a_build); rfl) | ((with_reducible apply a_extr); rfl; rfl) | ((with_reducible apply a_cond); rfl) | ((with_reducible apply a_guard); rfl) | (with_reducible intro _))
      refine ⟨k + 1, by omega, ?_, by omega⟩
      have := loCells_next hb
      rw [lowC_id b (by omega), set_same hc] at this
      rw [← this]
      exact Wk.refl _ _ _ (by simp)
  · obtain rfl : k = s.length := by omega
    refine a_lss rfl rfl ?_
    refine a_cond0 rfl (by simp) ?_
    refine a_ofBytes (id := 0) (b := ⟨5, loCells s s.length, true⟩) (l := smallS s) (by simp [smallS]) rfl (by simp [loCells, smallS]) ?_
    exact .pure (by simp) rfl
end Go.Proofs.YthblflmjingcfaaDoor
end

section
namespace Go.Proofs.YthblflmjingcfaaDoor
open Go Go.Aw Go.Nst
set_option maxRecDepth 100000
def varS : Str := [118, 97, 114]
mutual
def varV : Vl → Bool
  | .mk k t _ _ _ l => decide (k = 2) && decide (smallS t = varS) || varVs l
def varVs : List Vl → Bool
  | [] => false
  | v :: l => varV v || varVs l
end
theorem varVs_append : ∀ a b : List Vl, varVs (a ++ b) = (varVs a || varVs b)
  | [], b => by simp [varVs]
  | v :: a, b => by rw [List.cons_append, varVs, varVs, varVs_append a b, Bool.or_assoc]
theorem varVs_mem {l : List Vl} {v : Vl} (h : v ∈ l) (hv : varV v = true) : varVs l = true := by
  induction l with
  | nil => cases h
  | cons y l ih =>
    rw [varVs]
    rcases List.mem_cons.1 h with rfl | h
    · rw [hv]; rfl
    · rw [ih h, Bool.or_true]
theorem varVs_take {l : List Vl} {k : Nat} {v : Vl} (h : l[k]? = some v) : varVs (l.take (k + 1)) = (varVs (l.take k) || varV v) := by
  rw [List.take_add_one, h, varVs_append]; simp [varVs]
theorem a_loadAP {n : Nat} {x : AV} {cs ds : List AV} {h : Heap} {K : AV → Prop} (e : x = .ip cs) (hn : n ≤ cs.length) (ht : cs.take n = ds) (q : K (.agg ds)) : iLoad true n x h K := by
  subst e; subst ht
  rw [iLoad_i]
  exact ⟨hn, q⟩
def RvP (n : Nat) : Prop := ∀ (l : List Vl), zVs l ≤ n → Con Tryd.prog 65 [.sl 6 (encVs l)] (bool (varVs l))
set_option maxHeartbeats 4000000 in
theorem rv_step {n : Nat} (hn : n < 2 ^ 39) (hP : ∀ n', n' < n → RvP n') : RvP n := by
  intro l hz
  refine (V65 _).gives (by simp [pureVs]) (by simp) ?_
  unfold W65
  have hlen : (encVs l).length = l.length := by simp [encVs_map]
  have hll := zVs_len l
  refine iLoop_of (α := Nat) (fun k => k ≤ l.length ∧ varVs (l.take k) = false) (fun k => [int k]) (fun _ => []) (fun k => l.length - k) 0 (by simp [varVs]) (Wk.refl _ _ _ (by simp)) ?_
  rintro k ⟨hk, hnot⟩
  refine a_len (n := l.length) rfl hlen fun _ => ?_
  refine a_lss rfl rfl ?_
  rcases Nat.lt_or_ge k l.length with q | q
  · obtain ⟨⟨kd, tx, nu, un', fl, l2⟩, hx⟩ : ∃ x, l[k]? = some x := ⟨l[k], List.getElem?_eq_getElem q⟩
    have hin : inI ((k : Int) + 1) := by unfold inI; omega
    have hzv := zVs_mem (List.mem_of_getElem? hx)
    rw [zV] at hzv
    have q1 : decide ((k : Int) < l.length) = true := by simpa using q
    have hrec : Con Tryd.prog 65 [.sl 6 (encVs l2)] (bool (varVs l2)) := hP (zVs l2) (by omega) l2 (Nat.le_refl _)
    have d1 := varVs_take hx
    have d2 := varVs_mem (List.mem_of_getElem? hx)
    rw [varV] at d1 d2
    rw [hnot] at d1
    have ed := encV_eq (.mk kd tx nu un' fl l2)
    have hm : ∀ {b : Bool}, decide (kd = 2) = b → True := fun _ => trivial
    cases g1 : decide (kd = 2) <;> cases g2 : decide (smallS tx = [118, 97, 114]) <;> cases g3 : varVs l2
    all_goals
      rw [g3] at hrec
      repeat' (first | (refine iCall_con (by kernel_rfl) hrec ?_) | (refine a_loadAP (n := 5) (ds := [u1 kd, .str tx, int nu, .str un', bool fl]) rfl (by first | decide | simp [encV]) (by first | rfl | simp [encV]) ?_) | (refine a_store (cs := [u1 kd, .str tx, int nu, .str un', bool fl]) rfl rfl rfl rfl (Nat.le_refl _) rfl rfl ?_) | (with_reducible first | apply w_let | apply w_and | refine And.intro True.intro ?_) | ((with_reducible first | apply a_lss | apply a_leq | apply a_gtr | apply a_geq | apply a_eql | apply a_neq); rfl; rfl) | ((with_reducible first | apply a_eqlS | apply a_neqS | apply a_eqlB | apply a_neqB); rfl; rfl) | ((with_reducible apply w_add); rfl; rfl; first | assumption | (unfold inI; omega)) | ((with_reducible apply w_sub); rfl; rfl; first | assumption | (unfold inI; omega)) | ((with_reducible apply a_not); rfl) | ((with_reducible apply w_pick_t); rfl) | ((with_reducible apply w_pick_f); rfl) | ((with_reducible apply a_cond1); rfl; first | rfl | assumption) | ((with_reducible apply a_cond0); rfl; first | rfl | assumption) | ((with_reducible apply a_guard1); rfl; first | rfl | assumption) | ((with_reducible apply a_guard0); rfl; first | rfl | assumption) | ((with_reducible apply w_guard_u); rfl) | ((with_reducible apply a_pick1); rfl; first | rfl | assumption) | ((with_reducible apply a_pick0); rfl; first | rfl | assumption) | ((with_reducible apply a_pickN); rfl) | ((with_reducible apply a_condN); rfl) | ((with_reducible apply a_guardN); rfl) | ((with_reducible apply w_fad); rfl) | ((with_reducible apply a_fadI); rfl) | ((with_reducible apply w_load); rfl; rfl; rfl) | ((with_reducible apply w_loadI); rfl) | ((with_reducible apply w_loadA); rfl; rfl; first | exact Nat.le_refl _ | exact Nat.le_of_ble_eq_true rfl) | ((with_reducible apply a_eqA); rfl; rfl; rfl) | ((with_reducible apply a_loadAI); rfl; first | rfl | simp) | ((with_reducible apply w_new); first | rfl | simp) | ((with_reducible apply a_store); rfl; rfl; rfl; rfl; (first | exact Nat.le_refl _ | simp); (first | rfl | simp); (first | rfl | simp)) | ((with_reducible apply a_lenS); rfl; intro _) | ((with_reducible apply a_len); rfl; (first | rfl | simp); intro _) | ((with_reducible apply a_build); rfl) | ((with_reducible apply a_extr); rfl; rfl) | (refine iCall_con (by kernel_rfl) (con_rSmall tx) ?_) | (refine a_idx rfl (encVs_map l) rfl hx ?_) | ((with_reducible apply a_cond); rfl) | ((with_reducible apply a_guard); rfl) | (with_reducible intro _))
    all_goals first
      | (refine .pure (by simp) ?_
         rw [d2 (by rw [g1, show decide (smallS tx = varS) = _ from g2, g3]; rfl)]; done)
      | (refine ⟨k + 1, ⟨q, by rw [d1, g1, show decide (smallS tx = varS) = _ from g2, g3]; rfl⟩, ?_, by omega⟩
         first
           | exact Wk.refl _ _ _ (by simp)
           | exact Wk.back (M := 0) (by simp) (by simp) rfl rfl (by simp [entB]) (by simp [Bd])
           | exact Wk.le (by simp) (by simp))
  · have hk : k = l.length := by omega
    subst hk
    rw [List.take_length] at hnot
    have q1 : decide ((l.length : Int) < l.length) = false := by simp
    repeat' (first | (with_reducible first | apply w_let | apply w_and | refine And.intro True.intro ?_) | ((with_reducible first | apply a_lss | apply a_leq | apply a_gtr | apply a_geq | apply a_eql | apply a_neq); rfl; rfl) | ((with_reducible first | apply a_eqlS | apply a_neqS | apply a_eqlB | apply a_neqB); rfl; rfl) | ((with_reducible apply w_add); rfl; rfl; first | assumption | (unfold inI; omega)) | ((with_reducible apply w_sub); rfl; rfl; first | assumption | (unfold inI; omega)) | ((with_reducible apply a_not); rfl) | ((with_reducible apply w_pick_t); rfl) | ((with_reducible apply w_pick_f); rfl) | ((with_reducible apply a_cond1); rfl; first | rfl | assumption) | ((with_reducible apply a_cond0); rfl; first | rfl | assumption) | ((with_reducible apply a_guard1); rfl; first | rfl | assumption) | ((with_reducible apply a_guard0); rfl; first | rfl | assumption) | ((with_reducible apply w_guard_u); rfl) | ((with_reducible apply a_pick1); rfl; first | rfl | assumption) | ((with_reducible apply a_pick0); rfl; first | rfl | assumption) | ((with_reducible apply a_pickN); rfl) | ((with_reducible apply a_condN); rfl) | ((with_reducible apply a_guardN); rfl) | ((with_reducible apply w_fad); rfl) | ((with_reducible apply a_fadI); rfl) | ((with_reducible apply w_load); rfl; rfl; rfl) | ((with_reducible apply w_loadI); rfl) | ((with_reducible apply w_loadA); rfl; rfl; first | exact Nat.le_refl _ | exact Nat.le_of_ble_eq_true rfl) | ((with_reducible apply a_eqA); rfl; rfl; rfl) | ((with_reducible apply a_loadAI); rfl; first | rfl | simp) | ((with_reducible apply w_new); first | rfl | simp) | ((with_reducible apply a_store); rfl; rfl; rfl; rfl; (first | exact Nat.le_refl _ | simp); (first | rfl | simp); (first | rfl | simp)) | ((with_reducible apply a_lenS); rfl; intro _) | ((with_reducible apply a_len); rfl; (first | rfl | simp); intro _) | ((with_reducible apply a_build); rfl) | ((with_reducible apply a_extr); rfl; rfl) | ((with_reducible apply a_cond); rfl) | ((with_reducible apply a_guard); rfl) | (with_reducible intro _))
    exact .pure (by simp) (by rw [hnot])
theorem con_rVar (l : List Vl) (hz : zVs l < 2 ^ 39) : Con Tryd.prog 65 [.sl 6 (encVs l)] (bool (varVs l)) := by
  have : ∀ n, n < 2 ^ 39 → RvP n := by
    intro n
    induction n using Nat.strongRecOn with
    | _ n ih => exact fun hn => rv_step hn fun n' h => ih n' h (by omega)
  exact this _ hz l (Nat.le_refl _)
/-! ### The program -/
def VpP (n : Nat) : Prop := ∀ (l : List Vl), zVs l ≤ n → Con Tryd.prog 57 [.sl 6 (encVs l)] (bool (varVs l))
set_option maxHeartbeats 4000000 in
theorem con_Var1 (v : Vl) (hrec : Con Tryd.prog 57 [.sl 6 (encVs v.list)] (bool (varVs v.list))) : Con Tryd.prog 83 [.agg (encV v)] (bool (varV v)) := by
  refine (V83 _).gives (by simp [pureV]) (by simp) ?_
  unfold W83
  obtain ⟨kd, tx, nu, un', fl, l2⟩ := v
  rw [encV, varV]
  have hrec : Con Tryd.prog 57 [.sl 6 (encVs l2)] (bool (varVs l2)) := hrec
  cases g1 : decide (kd = 2) <;> cases g2 : decide (smallS tx = [118, 97, 114]) <;> cases g3 : varVs l2
  all_goals
    rw [g3] at hrec
    repeat' (first | (refine iCall_con (by kernel_rfl) hrec ?_) | (with_reducible first | apply w_let | apply w_and | refine And.intro True.intro ?_) | ((with_reducible first | apply a_lss | apply a_leq | apply a_gtr | apply a_geq | apply a_eql | apply a_neq); rfl; rfl) | ((with_reducible first | apply a_eqlS | apply a_neqS | apply a_eqlB | apply a_neqB); rfl; rfl) | ((with_reducible apply w_add); rfl; rfl; first | assumption | (unfold inI; omega)) | ((with_reducible apply w_sub); rfl; rfl; first | assumption | (unfold inI; omega)) | ((with_reducible apply a_not); rfl) | ((with_reducible apply w_pick_t); rfl) | ((with_reducible apply w_pick_f); rfl) | ((with_reducible apply a_cond1); rfl; first | rfl | assumption) | ((with_reducible apply a_cond0); rfl; first | rfl | assumption) | ((with_reducible apply a_guard1); rfl; first | rfl | assumption) | ((with_reducible apply a_guard0); rfl; first | rfl | assumption) | ((with_reducible apply w_guard_u); rfl) | ((with_reducible apply a_pick1); rfl; first | rfl | assumption) | ((with_reducible apply a_pick0); rfl; first | rfl | assumption) | ((with_reducible apply a_pickN); rfl) | ((with_reducible apply a_condN); rfl) | ((with_reducible apply a_guardN); rfl) | ((with_reducible apply w_fad); rfl) | ((with_reducible apply a_fadI); rfl) | ((with_reducible apply w_load); rfl; rfl; rfl) | ((with_reducible apply w_loadI); rfl) | ((with_reducible apply w_loadA); rfl; rfl; first | exact Nat.le_refl _ | exact Nat.le_of_ble_eq_true rfl) | ((with_reducible apply a_eqA); rfl; rfl; rfl) | ((with_reducible apply a_loadAI); rfl; first | rfl | simp) | ((with_reducible apply w_new); first | rfl | simp) | ((with_reducible apply a_store); rfl; rfl; rfl; rfl; (first | exact Nat.le_refl _ | simp); (first | rfl | simp); (first | rfl | simp)) | ((with_reducible apply a_lenS); rfl; intro _) | ((with_reducible apply a_len); rfl; (first | rfl | simp); intro _) | ((with_reducible apply a_build); rfl) | ((with_reducible apply a_extr); rfl; rfl) | (refine iCall_con (by kernel_rfl) (con_small tx) ?_) | ((with_reducible apply a_cond); rfl) | ((with_reducible apply a_guard); rfl) | (with_reducible intro _))
  all_goals exact .pure (by simp) (by rw [show decide (smallS tx = varS) = _ from g2]; rfl)
set_option maxHeartbeats 4000000 in
theorem step_vIndex {l : List Vl} (hl : l.length < 2 ^ 40) (hc : ∀ v ∈ l, Con Tryd.prog 83 [.agg (encV v)] (bool (varV v))) {K : AV → Heap → Prop} (kk : ∀ i : Int, (0 ≤ i ↔ varVs l = true) → K (int i) []) :
    iCall Tryd.prog (.fn (.func 105) [] []) [.sl 6 (encVs l), .fn (.func 83) [] []] [] K := by
  refine ⟨by kernel_rfl, ?_⟩
  simp only [List.nil_append, List.append_nil]
  refine (V105 _ _).acall ?_
  unfold W105
  refine a_len (n := l.length) rfl (by simp [encVs_map]) fun _ => ?_
  refine iLoop_of (α := Nat) (fun k => k ≤ l.length ∧ varVs (l.take k) = false) (fun k => [int k]) (fun _ => []) (fun k => l.length - k) 0 (by simp [varVs]) (Wk.refl _ _ _ (by simp)) ?_
  rintro k ⟨hk, hnot⟩
  refine a_lss rfl rfl ?_
  rcases Nat.lt_or_ge k l.length with q | q
  · obtain ⟨v, hx⟩ : ∃ x, l[k]? = some x := ⟨l[k], List.getElem?_eq_getElem q⟩
    have hcv := hc v (List.mem_of_getElem? hx)
    have d1 := varVs_take hx
    refine a_cond1 rfl (by simpa using q) ?_
    refine a_idx rfl (encVs_map l) rfl hx ?_
    refine a_loadAI rfl (by simp [encV_eq]) ?_
    refine iCall_con (by kernel_rfl) hcv ?_
    refine a_cond rfl (fun hb => ?_) (fun hb => ?_)
    · refine ⟨_, _, Wk.refl _ _ _ (by simp), ?_⟩
      exact kk k ⟨fun _ => varVs_mem (List.mem_of_getElem? hx) hb, fun _ => by omega⟩
    · refine w_add rfl rfl (by unfold inI; omega) ?_
      refine w_and ?_
      exact ⟨k + 1, ⟨by omega, by rw [d1, hnot, hb]; rfl⟩, Wk.refl _ _ _ (by simp), by omega⟩
  · obtain rfl : k = l.length := by omega
    rw [List.take_length] at hnot
    refine a_cond0 rfl (by simp) ?_
    refine ⟨_, _, Wk.refl _ _ _ (by simp), ?_⟩
    exact kk (-1) ⟨fun h => by omega, fun h => by rw [hnot] at h; cases h⟩
theorem vp_step {n : Nat} (hn : n < 2 ^ 39) (hP : ∀ n', n' < n → VpP n') : VpP n := by
  intro l hz
  refine (V57 _).gives (by simp [pureVs]) (by simp) ?_
  unfold W57
  refine ⟨by kernel_rfl, ?_⟩
  simp only [List.nil_append, List.append_nil]
  refine (V82 _ _).acall ?_
  unfold W82
  have hll := zVs_len l
  refine step_vIndex (by omega) (fun v hv => ?_) (fun i hi => ?_)
  · have h1 := zVs_mem hv
    obtain ⟨kd, tx, nu, un', fl, l2⟩ := v
    rw [zV] at h1
    exact con_Var1 _ (hP (zVs l2) (by omega) l2 (Nat.le_refl _))
  · refine a_geq rfl rfl ?_
    refine ⟨_, _, Wk.refl _ _ _ (by simp), ?_⟩
    refine .pure (by simp) ?_
    cases h : varVs l with
    | true => simp [hi.2 h]
    | false =>
      have : ¬ 0 ≤ i := fun q => by rw [hi.1 q] at h; cases h
      simp [this]
theorem con_Var (l : List Vl) (hz : zVs l < 2 ^ 39) : Con Tryd.prog 57 [.sl 6 (encVs l)] (bool (varVs l)) := by
  have : ∀ n, n < 2 ^ 39 → VpP n := by
    intro n
    induction n using Nat.strongRecOn with
    | _ n ih => exact fun hn => vp_step hn fun n' h => ih n' h (by omega)
  exact this _ hz l (Nat.le_refl _)
end Go.Proofs.YthblflmjingcfaaDoor
end

section
namespace Go.Proofs.YthblflmjingcfaaDoor
open Go Go.Aw Go.Nst
set_option maxRecDepth 100000
def cuOk (c : Cu) : Bool := decide (checkV c.value = 0) && !varVs c.value && decide (zVs c.value ≤ 2000)
def custE (l : List Cu) : Int := if l.length ≤ 64 ∧ namedB l = true ∧ l.all cuOk = true then 0 else 8

set_option maxHeartbeats 4000000 in
theorem con_cCheck (l : List Cu) (hl : l.length < 2 ^ 40) (hz : ∀ c ∈ l, zVs c.value < 2 ^ 39) : Con Tryd.prog 41 [.sl 2 (encCus l)] (int (custE l)) := by
  refine (V41 _).gives (by simp [encCus_pure]) (by simp) ?_
  unfold W41
  have hlen : (encCus l).length = l.length := by simp [encCus]
  refine a_len (n := l.length) rfl hlen fun _ => ?_
  by_cases h1 : l.length ≤ 64
  case neg =>
    have g1 : decide ((64 : Int) < l.length) = true := by simp; omega
    repeat' (first | (with_reducible first | apply w_let | apply w_and | refine And.intro True.intro ?_) | ((with_reducible first | apply a_lss | apply a_leq | apply a_gtr | apply a_geq | apply a_eql | apply a_neq); rfl; rfl) | ((with_reducible first | apply a_eqlS | apply a_neqS | apply a_eqlB | apply a_neqB); rfl; rfl) | ((with_reducible apply w_add); rfl; rfl; first | assumption | (unfold inI; omega)) | ((with_reducible apply w_sub); rfl; rfl; first | assumption | (unfold inI; omega)) | ((with_reducible apply a_not); rfl) | ((with_reducible apply w_pick_t); rfl) | ((with_reducible apply w_pick_f); rfl) | ((with_reducible apply a_cond1); rfl; first | rfl | assumption) | ((with_reducible apply a_cond0); rfl; first | rfl | assumption) | ((with_reducible apply a_guard1); rfl; first | rfl | assumption) | ((with_reducible apply a_guard0); rfl; first | rfl | assumption) | ((with_reducible apply w_guard_u); rfl) | ((with_reducible apply a_pick1); rfl; first | rfl | assumption) | ((with_reducible apply a_pick0); rfl; first | rfl | assumption) | ((with_reducible apply a_pickN); rfl) | ((with_reducible apply a_condN); rfl) | ((with_reducible apply a_guardN); rfl) | ((with_reducible apply w_fad); rfl) | ((with_reducible apply a_fadI); rfl) | ((with_reducible apply w_load); rfl; rfl; rfl) | ((with_reducible apply w_loadI); rfl) | ((with_reducible apply w_loadA); rfl; rfl; first | exact Nat.le_refl _ | exact Nat.le_of_ble_eq_true rfl) | ((with_reducible apply a_eqA); rfl; rfl; rfl) | ((with_reducible apply a_loadAI); rfl; first | rfl | simp) | ((with_reducible apply w_new); first | rfl | simp) | ((with_reducible apply a_store); rfl; rfl; rfl; rfl; (first | exact Nat.le_refl _ | simp); (first | rfl | simp); (first | rfl | simp)) | ((with_reducible apply a_lenS); rfl; intro _) | ((with_reducible apply a_len); rfl; (first | rfl | simp); intro _) | ((with_reducible apply a_build); rfl) | ((with_reducible apply a_extr); rfl; rfl) | ((with_reducible apply a_cond); rfl) | ((with_reducible apply a_guard); rfl) | (with_reducible intro _))
    exact .pure (by simp) (by unfold custE; rw [if_neg (by omega)])
  have g1 : decide ((64 : Int) < l.length) = false := by simp; omega
  have hN := con_named l hl
  cases h2 : namedB l with
  | false =>
    rw [h2] at hN
    repeat' (first | (with_reducible first | apply w_let | apply w_and | refine And.intro True.intro ?_) | ((with_reducible first | apply a_lss | apply a_leq | apply a_gtr | apply a_geq | apply a_eql | apply a_neq); rfl; rfl) | ((with_reducible first | apply a_eqlS | apply a_neqS | apply a_eqlB | apply a_neqB); rfl; rfl) | ((with_reducible apply w_add); rfl; rfl; first | assumption | (unfold inI; omega)) | ((with_reducible apply w_sub); rfl; rfl; first | assumption | (unfold inI; omega)) | ((with_reducible apply a_not); rfl) | ((with_reducible apply w_pick_t); rfl) | ((with_reducible apply w_pick_f); rfl) | ((with_reducible apply a_cond1); rfl; first | rfl | assumption) | ((with_reducible apply a_cond0); rfl; first | rfl | assumption) | ((with_reducible apply a_guard1); rfl; first | rfl | assumption) | ((with_reducible apply a_guard0); rfl; first | rfl | assumption) | ((with_reducible apply w_guard_u); rfl) | ((with_reducible apply a_pick1); rfl; first | rfl | assumption) | ((with_reducible apply a_pick0); rfl; first | rfl | assumption) | ((with_reducible apply a_pickN); rfl) | ((with_reducible apply a_condN); rfl) | ((with_reducible apply a_guardN); rfl) | ((with_reducible apply w_fad); rfl) | ((with_reducible apply a_fadI); rfl) | ((with_reducible apply w_load); rfl; rfl; rfl) | ((with_reducible apply w_loadI); rfl) | ((with_reducible apply w_loadA); rfl; rfl; first | exact Nat.le_refl _ | exact Nat.le_of_ble_eq_true rfl) | ((with_reducible apply a_eqA); rfl; rfl; rfl) | ((with_reducible apply a_loadAI); rfl; first | rfl | simp) | ((with_reducible apply w_new); first | rfl | simp) | ((with_reducible apply a_store); rfl; rfl; rfl; rfl; (first | exact Nat.le_refl _ | simp); (first | rfl | simp); (first | rfl | simp)) | ((with_reducible apply a_lenS); rfl; intro _) | ((with_reducible apply a_len); rfl; (first | rfl | simp); intro _) | ((with_reducible apply a_build); rfl) | ((with_reducible apply a_extr); rfl; rfl) | (refine iCall_con (by kernel_rfl) (hN) ?_) | ((with_reducible apply a_cond); rfl) | ((with_reducible apply a_guard); rfl) | (with_reducible intro _))
    exact .pure (by simp) (by unfold custE; rw [if_neg (by simp [h2])])
  | true =>
  rw [h2] at hN
  repeat' (first | (refine a_len (n := l.length) rfl hlen fun _ => ?_) | (with_reducible first | apply w_let | apply w_and | refine And.intro True.intro ?_) | ((with_reducible first | apply a_lss | apply a_leq | apply a_gtr | apply a_geq | apply a_eql | apply a_neq); rfl; rfl) | ((with_reducible first | apply a_eqlS | apply a_neqS | apply a_eqlB | apply a_neqB); rfl; rfl) | ((with_reducible apply w_add); rfl; rfl; first | assumption | (unfold inI; omega)) | ((with_reducible apply w_sub); rfl; rfl; first | assumption | (unfold inI; omega)) | ((with_reducible apply a_not); rfl) | ((with_reducible apply w_pick_t); rfl) | ((with_reducible apply w_pick_f); rfl) | ((with_reducible apply a_cond1); rfl; first | rfl | assumption) | ((with_reducible apply a_cond0); rfl; first | rfl | assumption) | ((with_reducible apply a_guard1); rfl; first | rfl | assumption) | ((with_reducible apply a_guard0); rfl; first | rfl | assumption) | ((with_reducible apply w_guard_u); rfl) | ((with_reducible apply a_pick1); rfl; first | rfl | assumption) | ((with_reducible apply a_pick0); rfl; first | rfl | assumption) | ((with_reducible apply a_pickN); rfl) | ((with_reducible apply a_condN); rfl) | ((with_reducible apply a_guardN); rfl) | ((with_reducible apply w_fad); rfl) | ((with_reducible apply a_fadI); rfl) | ((with_reducible apply w_load); rfl; rfl; rfl) | ((with_reducible apply w_loadI); rfl) | ((with_reducible apply w_loadA); rfl; rfl; first | exact Nat.le_refl _ | exact Nat.le_of_ble_eq_true rfl) | ((with_reducible apply a_eqA); rfl; rfl; rfl) | ((with_reducible apply a_loadAI); rfl; first | rfl | simp) | ((with_reducible apply w_new); first | rfl | simp) | ((with_reducible apply a_store); rfl; rfl; rfl; rfl; (first | exact Nat.le_refl _ | simp); (first | rfl | simp); (first | rfl | simp)) | ((with_reducible apply a_lenS); rfl; intro _) | ((with_reducible apply a_len); rfl; (first | rfl | simp); intro _) | ((with_reducible apply a_build); rfl) | ((with_reducible apply a_extr); rfl; rfl) | (refine iCall_con (by kernel_rfl) (hN) ?_) | ((with_reducible apply a_cond); rfl) | ((with_reducible apply a_guard); rfl) | (with_reducible intro _))
  refine iLoop_of (α := Nat) (fun k => k ≤ l.length ∧ ∀ i c, i < k → l[i]? = some c → cuOk c = true) (fun k => [int k]) (fun _ => []) (fun k => l.length - k) 0 ⟨by omega, fun i c h => by omega⟩ (Wk.refl _ _ _ (by simp)) ?_
  rintro k ⟨hk, hall⟩
  refine a_lss rfl rfl ?_
  rcases Nat.lt_or_ge k l.length with q | q
  · obtain ⟨⟨s, vs⟩, hs⟩ : ∃ x, l[k]? = some x := ⟨l[k], List.getElem?_eq_getElem q⟩
    have q1 : decide ((k : Int) < l.length) = true := by simpa using q
    have hin : inI ((k : Int) + 1) := by unfold inI; omega
    have hzv : zVs vs < 2 ^ 39 := hz _ (List.mem_of_getElem? hs)
    have c1 := con_nCheck vs (by omega)
    have c2 := con_Var vs hzv
    have c3 := con_length vs hzv
    have hb : cuOk ⟨s, vs⟩ = (!(!decide (checkV vs = 0)) && !varVs vs && !decide ((2000 : Int) < (zVs vs : Nat))) := by
      unfold cuOk
      simp only [Bool.not_not]
      congr 1
      by_cases z : zVs vs ≤ 2000
      · simp [z]; omega
      · simp [z]; omega
    have bad : cuOk ⟨s, vs⟩ = false → custE l = 8 := fun e => by
      unfold custE
      rw [if_neg]
      rintro ⟨_, _, h⟩
      rw [List.all_eq_true] at h
      rw [h _ (List.mem_of_getElem? hs)] at e
      cases e
    cases g2 : (!decide (checkV vs = 0)) <;> cases g3 : varVs vs <;> cases g4 : decide ((2000 : Int) < (zVs vs : Nat))
    all_goals
      rw [g2, g3, g4] at hb
      rw [g3] at c2
      repeat' (first | (with_reducible first | apply w_let | apply w_and | refine And.intro True.intro ?_) | ((with_reducible first | apply a_lss | apply a_leq | apply a_gtr | apply a_geq | apply a_eql | apply a_neq); rfl; rfl) | ((with_reducible first | apply a_eqlS | apply a_neqS | apply a_eqlB | apply a_neqB); rfl; rfl) | ((with_reducible apply w_add); rfl; rfl; first | assumption | (unfold inI; omega)) | ((with_reducible apply w_sub); rfl; rfl; first | assumption | (unfold inI; omega)) | ((with_reducible apply a_not); rfl) | ((with_reducible apply w_pick_t); rfl) | ((with_reducible apply w_pick_f); rfl) | ((with_reducible apply a_cond1); rfl; first | rfl | assumption) | ((with_reducible apply a_cond0); rfl; first | rfl | assumption) | ((with_reducible apply a_guard1); rfl; first | rfl | assumption) | ((with_reducible apply a_guard0); rfl; first | rfl | assumption) | ((with_reducible apply w_guard_u); rfl) | ((with_reducible apply a_pick1); rfl; first | rfl | assumption) | ((with_reducible apply a_pick0); rfl; first | rfl | assumption) | ((with_reducible apply a_pickN); rfl) | ((with_reducible apply a_condN); rfl) | ((with_reducible apply a_guardN); rfl) | ((with_reducible apply w_fad); rfl) | ((with_reducible apply a_fadI); rfl) | ((with_reducible apply w_load); rfl; rfl; rfl) | ((with_reducible apply w_loadI); rfl) | ((with_reducible apply w_loadA); rfl; rfl; first | exact Nat.le_refl _ | exact Nat.le_of_ble_eq_true rfl) | ((with_reducible apply a_eqA); rfl; rfl; rfl) | ((with_reducible apply a_loadAI); rfl; first | rfl | simp) | ((with_reducible apply w_new); first | rfl | simp) | ((with_reducible apply a_store); rfl; rfl; rfl; rfl; (first | exact Nat.le_refl _ | simp); (first | rfl | simp); (first | rfl | simp)) | ((with_reducible apply a_lenS); rfl; intro _) | ((with_reducible apply a_len); rfl; (first | rfl | simp); intro _) | ((with_reducible apply a_build); rfl) | ((with_reducible apply a_extr); rfl; rfl) | (refine iCall_con (by kernel_rfl) (c1) ?_) | (refine iCall_con (by kernel_rfl) (c2) ?_) | (refine iCall_con (by kernel_rfl) (c3) ?_) | (refine a_idx (f := encCu) rfl rfl rfl hs ?_) | (refine a_loadAI rfl (by simp [encCu]) ?_) | (refine a_store (cs := [.str s, .sl 6 (encVs vs)]) rfl rfl rfl rfl (Nat.le_refl _) rfl rfl ?_) | ((with_reducible apply a_cond); rfl) | ((with_reducible apply a_guard); rfl) | (with_reducible intro _))
    all_goals first
      | (refine .pure (by simp) ?_
         rw [bad hb]; done)
      | (refine ⟨k + 1, ⟨q, fun i c hi he => ?_⟩, ?_, by omega⟩
         · rcases Nat.lt_or_ge i k with z | z
           · exact hall i c z he
           · obtain rfl : i = k := by omega
             rw [hs] at he
             cases he
             exact hb
         · first
             | exact Wk.refl _ _ _ (by simp)
             | exact Wk.back (M := 0) (by simp) (by simp) rfl rfl (by simp [entB]) (by simp [Bd])
             | exact Wk.le (by simp) (by simp))
  · have hk : k = l.length := by omega
    subst hk
    have q1 : decide ((l.length : Int) < l.length) = false := by simp
    repeat' (first | (with_reducible first | apply w_let | apply w_and | refine And.intro True.intro ?_) | ((with_reducible first | apply a_lss | apply a_leq | apply a_gtr | apply a_geq | apply a_eql | apply a_neq); rfl; rfl) | ((with_reducible first | apply a_eqlS | apply a_neqS | apply a_eqlB | apply a_neqB); rfl; rfl) | ((with_reducible apply w_add); rfl; rfl; first | assumption | (unfold inI; omega)) | ((with_reducible apply w_sub); rfl; rfl; first | assumption | (unfold inI; omega)) | ((with_reducible apply a_not); rfl) | ((with_reducible apply w_pick_t); rfl) | ((with_reducible apply w_pick_f); rfl) | ((with_reducible apply a_cond1); rfl; first | rfl | assumption) | ((with_reducible apply a_cond0); rfl; first | rfl | assumption) | ((with_reducible apply a_guard1); rfl; first | rfl | assumption) | ((with_reducible apply a_guard0); rfl; first | rfl | assumption) | ((with_reducible apply w_guard_u); rfl) | ((with_reducible apply a_pick1); rfl; first | rfl | assumption) | ((with_reducible apply a_pick0); rfl; first | rfl | assumption) | ((with_reducible apply a_pickN); rfl) | ((with_reducible apply a_condN); rfl) | ((with_reducible apply a_guardN); rfl) | ((with_reducible apply w_fad); rfl) | ((with_reducible apply a_fadI); rfl) | ((with_reducible apply w_load); rfl; rfl; rfl) | ((with_reducible apply w_loadI); rfl) | ((with_reducible apply w_loadA); rfl; rfl; first | exact Nat.le_refl _ | exact Nat.le_of_ble_eq_true rfl) | ((with_reducible apply a_eqA); rfl; rfl; rfl) | ((with_reducible apply a_loadAI); rfl; first | rfl | simp) | ((with_reducible apply w_new); first | rfl | simp) | ((with_reducible apply a_store); rfl; rfl; rfl; rfl; (first | exact Nat.le_refl _ | simp); (first | rfl | simp); (first | rfl | simp)) | ((with_reducible apply a_lenS); rfl; intro _) | ((with_reducible apply a_len); rfl; (first | rfl | simp); intro _) | ((with_reducible apply a_build); rfl) | ((with_reducible apply a_extr); rfl; rfl) | ((with_reducible apply a_cond); rfl) | ((with_reducible apply a_guard); rfl) | (with_reducible intro _))
    refine .pure (by simp) ?_
    unfold custE
    rw [if_pos]
    refine ⟨h1, h2, ?_⟩
    rw [List.all_eq_true]
    intro c hc
    obtain ⟨i, hi⟩ := List.getElem?_of_mem hc
    exact hall i c (List.getElem?_eq_some_iff.1 hi).1 hi

set_option maxHeartbeats 4000000 in
theorem con_rcCheck (l : List Cu) (hl : l.length < 2 ^ 40) (hz : ∀ c ∈ l, zVs c.value < 2 ^ 39) : Con Tryd.prog 43 [.sl 2 (encCus l)] (int (custE l)) := by
  refine (V43 _).gives (by simp [encCus_pure]) (by simp) ?_
  unfold W43
  have hlen : (encCus l).length = l.length := by simp [encCus]
  refine a_len (n := l.length) rfl hlen fun _ => ?_
  by_cases h1 : l.length ≤ 64
  case neg =>
    have g1 : decide ((64 : Int) < l.length) = true := by simp; omega
    repeat' (first | (with_reducible first | apply w_let | apply w_and | refine And.intro True.intro ?_) | ((with_reducible first | apply a_lss | apply a_leq | apply a_gtr | apply a_geq | apply a_eql | apply a_neq); rfl; rfl) | ((with_reducible first | apply a_eqlS | apply a_neqS | apply a_eqlB | apply a_neqB); rfl; rfl) | ((with_reducible apply w_add); rfl; rfl; first | assumption | (unfold inI; omega)) | ((with_reducible apply w_sub); rfl; rfl; first | assumption | (unfold inI; omega)) | ((with_reducible apply a_not); rfl) | ((with_reducible apply w_pick_t); rfl) | ((with_reducible apply w_pick_f); rfl) | ((with_reducible apply a_cond1); rfl; first | rfl | assumption) | ((with_reducible apply a_cond0); rfl; first | rfl | assumption) | ((with_reducible apply a_guard1); rfl; first | rfl | assumption) | ((with_reducible apply a_guard0); rfl; first | rfl | assumption) | ((with_reducible apply w_guard_u); rfl) | ((with_reducible apply a_pick1); rfl; first | rfl | assumption) | ((with_reducible apply a_pick0); rfl; first | rfl | assumption) | ((with_reducible apply a_pickN); rfl) | ((with_reducible apply a_condN); rfl) | ((with_reducible apply a_guardN); rfl) | ((with_reducible apply w_fad); rfl) | ((with_reducible apply a_fadI); rfl) | ((with_reducible apply w_load); rfl; rfl; rfl) | ((with_reducible apply w_loadI); rfl) | ((with_reducible apply w_loadA); rfl; rfl; first | exact Nat.le_refl _ | exact Nat.le_of_ble_eq_true rfl) | ((with_reducible apply a_eqA); rfl; rfl; rfl) | ((with_reducible apply a_loadAI); rfl; first | rfl | simp) | ((with_reducible apply w_new); first | rfl | simp) | ((with_reducible apply a_store); rfl; rfl; rfl; rfl; (first | exact Nat.le_refl _ | simp); (first | rfl | simp); (first | rfl | simp)) | ((with_reducible apply a_lenS); rfl; intro _) | ((with_reducible apply a_len); rfl; (first | rfl | simp); intro _) | ((with_reducible apply a_build); rfl) | ((with_reducible apply a_extr); rfl; rfl) | ((with_reducible apply a_cond); rfl) | ((with_reducible apply a_guard); rfl) | (with_reducible intro _))
    exact .pure (by simp) (by unfold custE; rw [if_neg (by omega)])
  have g1 : decide ((64 : Int) < l.length) = false := by simp; omega
  have hN := con_rnamed l hl
  cases h2 : namedB l with
  | false =>
    rw [h2] at hN
    repeat' (first | (with_reducible first | apply w_let | apply w_and | refine And.intro True.intro ?_) | ((with_reducible first | apply a_lss | apply a_leq | apply a_gtr | apply a_geq | apply a_eql | apply a_neq); rfl; rfl) | ((with_reducible first | apply a_eqlS | apply a_neqS | apply a_eqlB | apply a_neqB); rfl; rfl) | ((with_reducible apply w_add); rfl; rfl; first | assumption | (unfold inI; omega)) | ((with_reducible apply w_sub); rfl; rfl; first | assumption | (unfold inI; omega)) | ((with_reducible apply a_not); rfl) | ((with_reducible apply w_pick_t); rfl) | ((with_reducible apply w_pick_f); rfl) | ((with_reducible apply a_cond1); rfl; first | rfl | assumption) | ((with_reducible apply a_cond0); rfl; first | rfl | assumption) | ((with_reducible apply a_guard1); rfl; first | rfl | assumption) | ((with_reducible apply a_guard0); rfl; first | rfl | assumption) | ((with_reducible apply w_guard_u); rfl) | ((with_reducible apply a_pick1); rfl; first | rfl | assumption) | ((with_reducible apply a_pick0); rfl; first | rfl | assumption) | ((with_reducible apply a_pickN); rfl) | ((with_reducible apply a_condN); rfl) | ((with_reducible apply a_guardN); rfl) | ((with_reducible apply w_fad); rfl) | ((with_reducible apply a_fadI); rfl) | ((with_reducible apply w_load); rfl; rfl; rfl) | ((with_reducible apply w_loadI); rfl) | ((with_reducible apply w_loadA); rfl; rfl; first | exact Nat.le_refl _ | exact Nat.le_of_ble_eq_true rfl) | ((with_reducible apply a_eqA); rfl; rfl; rfl) | ((with_reducible apply a_loadAI); rfl; first | rfl | simp) | ((with_reducible apply w_new); first | rfl | simp) | ((with_reducible apply a_store); rfl; rfl; rfl; rfl; (first | exact Nat.le_refl _ | simp); (first | rfl | simp); (first | rfl | simp)) | ((with_reducible apply a_lenS); rfl; intro _) | ((with_reducible apply a_len); rfl; (first | rfl | simp); intro _) | ((with_reducible apply a_build); rfl) | ((with_reducible apply a_extr); rfl; rfl) | (refine iCall_con (by kernel_rfl) (hN) ?_) | ((with_reducible apply a_cond); rfl) | ((with_reducible apply a_guard); rfl) | (with_reducible intro _))
    exact .pure (by simp) (by unfold custE; rw [if_neg (by simp [h2])])
  | true =>
  rw [h2] at hN
  repeat' (first | (refine a_len (n := l.length) rfl hlen fun _ => ?_) | (with_reducible first | apply w_let | apply w_and | refine And.intro True.intro ?_) | ((with_reducible first | apply a_lss | apply a_leq | apply a_gtr | apply a_geq | apply a_eql | apply a_neq); rfl; rfl) | ((with_reducible first | apply a_eqlS | apply a_neqS | apply a_eqlB | apply a_neqB); rfl; rfl) | ((with_reducible apply w_add); rfl; rfl; first | assumption | (unfold inI; omega)) | ((with_reducible apply w_sub); rfl; rfl; first | assumption | (unfold inI; omega)) | ((with_reducible apply a_not); rfl) | ((with_reducible apply w_pick_t); rfl) | ((with_reducible apply w_pick_f); rfl) | ((with_reducible apply a_cond1); rfl; first | rfl | assumption) | ((with_reducible apply a_cond0); rfl; first | rfl | assumption) | ((with_reducible apply a_guard1); rfl; first | rfl | assumption) | ((with_reducible apply a_guard0); rfl; first | rfl | assumption) | ((with_reducible apply w_guard_u); rfl) | ((with_reducible apply a_pick1); rfl; first | rfl | assumption) | ((with_reducible apply a_pick0); rfl; first | rfl | assumption) | ((with_reducible apply a_pickN); rfl) | ((with_reducible apply a_condN); rfl) | ((with_reducible apply a_guardN); rfl) | ((with_reducible apply w_fad); rfl) | ((with_reducible apply a_fadI); rfl) | ((with_reducible apply w_load); rfl; rfl; rfl) | ((with_reducible apply w_loadI); rfl) | ((with_reducible apply w_loadA); rfl; rfl; first | exact Nat.le_refl _ | exact Nat.le_of_ble_eq_true rfl) | ((with_reducible apply a_eqA); rfl; rfl; rfl) | ((with_reducible apply a_loadAI); rfl; first | rfl | simp) | ((with_reducible apply w_new); first | rfl | simp) | ((with_reducible apply a_store); rfl; rfl; rfl; rfl; (first | exact Nat.le_refl _ | simp); (first | rfl | simp); (first | rfl | simp)) | ((with_reducible apply a_lenS); rfl; intro _) | ((with_reducible apply a_len); rfl; (first | rfl | simp); intro _) | ((with_reducible apply a_build); rfl) | ((with_reducible apply a_extr); rfl; rfl) | (refine iCall_con (by kernel_rfl) (hN) ?_) | ((with_reducible apply a_cond); rfl) | ((with_reducible apply a_guard); rfl) | (with_reducible intro _))
  refine iLoop_of (α := Nat) (fun k => k ≤ l.length ∧ ∀ i c, i < k → l[i]? = some c → cuOk c = true) (fun k => [int k]) (fun _ => []) (fun k => l.length - k) 0 ⟨by omega, fun i c h => by omega⟩ (Wk.refl _ _ _ (by simp)) ?_
  rintro k ⟨hk, hall⟩
  refine a_len (n := l.length) rfl hlen fun _ => ?_
  refine a_lss rfl rfl ?_
  rcases Nat.lt_or_ge k l.length with q | q
  · obtain ⟨⟨s, vs⟩, hs⟩ : ∃ x, l[k]? = some x := ⟨l[k], List.getElem?_eq_getElem q⟩
    have q1 : decide ((k : Int) < l.length) = true := by simpa using q
    have hin : inI ((k : Int) + 1) := by unfold inI; omega
    have hzv : zVs vs < 2 ^ 39 := hz _ (List.mem_of_getElem? hs)
    have c1 := con_rnCheck vs (by omega)
    have c2 := con_rVar vs hzv
    have c3 := con_Long vs hzv
    have hb : cuOk ⟨s, vs⟩ = (!(!decide (checkV vs = 0)) && !varVs vs && !decide ((2000 : Int) < (zVs vs : Nat))) := by
      unfold cuOk
      simp only [Bool.not_not]
      congr 1
      by_cases z : zVs vs ≤ 2000
      · simp [z]; omega
      · simp [z]; omega
    have bad : cuOk ⟨s, vs⟩ = false → custE l = 8 := fun e => by
      unfold custE
      rw [if_neg]
      rintro ⟨_, _, h⟩
      rw [List.all_eq_true] at h
      rw [h _ (List.mem_of_getElem? hs)] at e
      cases e
    cases g2 : (!decide (checkV vs = 0)) <;> cases g3 : varVs vs <;> cases g4 : decide ((2000 : Int) < (zVs vs : Nat))
    all_goals
      rw [g2, g3, g4] at hb
      rw [g3] at c2
      repeat' (first | (with_reducible first | apply w_let | apply w_and | refine And.intro True.intro ?_) | ((with_reducible first | apply a_lss | apply a_leq | apply a_gtr | apply a_geq | apply a_eql | apply a_neq); rfl; rfl) | ((with_reducible first | apply a_eqlS | apply a_neqS | apply a_eqlB | apply a_neqB); rfl; rfl) | ((with_reducible apply w_add); rfl; rfl; first | assumption | (unfold inI; omega)) | ((with_reducible apply w_sub); rfl; rfl; first | assumption | (unfold inI; omega)) | ((with_reducible apply a_not); rfl) | ((with_reducible apply w_pick_t); rfl) | ((with_reducible apply w_pick_f); rfl) | ((with_reducible apply a_cond1); rfl; first | rfl | assumption) | ((with_reducible apply a_cond0); rfl; first | rfl | assumption) | ((with_reducible apply a_guard1); rfl; first | rfl | assumption) | ((with_reducible apply a_guard0); rfl; first | rfl | assumption) | ((with_reducible apply w_guard_u); rfl) | ((with_reducible apply a_pick1); rfl; first | rfl | assumption) | ((with_reducible apply a_pick0); rfl; first | rfl | assumption) | ((with_reducible apply a_pickN); rfl) | ((with_reducible apply a_condN); rfl) | ((with_reducible apply a_guardN); rfl) | ((with_reducible apply w_fad); rfl) | ((with_reducible apply a_fadI); rfl) | ((with_reducible apply w_load); rfl; rfl; rfl) | ((with_reducible apply w_loadI); rfl) | ((with_reducible apply w_loadA); rfl; rfl; first | exact Nat.le_refl _ | exact Nat.le_of_ble_eq_true rfl) | ((with_reducible apply a_eqA); rfl; rfl; rfl) | ((with_reducible apply a_loadAI); rfl; first | rfl | simp) | ((with_reducible apply w_new); first | rfl | simp) | ((with_reducible apply a_store); rfl; rfl; rfl; rfl; (first | exact Nat.le_refl _ | simp); (first | rfl | simp); (first | rfl | simp)) | ((with_reducible apply a_lenS); rfl; intro _) | ((with_reducible apply a_len); rfl; (first | rfl | simp); intro _) | ((with_reducible apply a_build); rfl) | ((with_reducible apply a_extr); rfl; rfl) | (refine iCall_con (by kernel_rfl) (c1) ?_) | (refine iCall_con (by kernel_rfl) (c2) ?_) | (refine iCall_con (by kernel_rfl) (c3) ?_) | (refine a_idx (f := encCu) rfl rfl rfl hs ?_) | (refine a_loadAI rfl (by simp [encCu]) ?_) | (refine a_store (cs := [.str s, .sl 6 (encVs vs)]) rfl rfl rfl rfl (Nat.le_refl _) rfl rfl ?_) | ((with_reducible apply a_cond); rfl) | ((with_reducible apply a_guard); rfl) | (with_reducible intro _))
    all_goals first
      | (refine .pure (by simp) ?_
         rw [bad hb]; done)
      | (refine ⟨k + 1, ⟨q, fun i c hi he => ?_⟩, ?_, by omega⟩
         · rcases Nat.lt_or_ge i k with z | z
           · exact hall i c z he
           · obtain rfl : i = k := by omega
             rw [hs] at he
             cases he
             exact hb
         · first
             | exact Wk.refl _ _ _ (by simp)
             | exact Wk.back (M := 0) (by simp) (by simp) rfl rfl (by simp [entB]) (by simp [Bd])
             | exact Wk.le (by simp) (by simp))
  · have hk : k = l.length := by omega
    subst hk
    have q1 : decide ((l.length : Int) < l.length) = false := by simp
    repeat' (first | (with_reducible first | apply w_let | apply w_and | refine And.intro True.intro ?_) | ((with_reducible first | apply a_lss | apply a_leq | apply a_gtr | apply a_geq | apply a_eql | apply a_neq); rfl; rfl) | ((with_reducible first | apply a_eqlS | apply a_neqS | apply a_eqlB | apply a_neqB); rfl; rfl) | ((with_reducible apply w_add); rfl; rfl; first | assumption | (unfold inI; omega)) | ((with_reducible apply w_sub); rfl; rfl; first | assumption | (unfold inI; omega)) | ((with_reducible apply a_not); rfl) | ((with_reducible apply w_pick_t); rfl) | ((with_reducible apply w_pick_f); rfl) | ((with_reducible apply a_cond1); rfl; first | rfl | assumption) | ((with_reducible apply a_cond0); rfl; first | rfl | assumption) | ((with_reducible apply a_guard1); rfl; first | rfl | assumption) | ((with_reducible apply a_guard0); rfl; first | rfl | assumption) | ((with_reducible apply w_guard_u); rfl) | ((with_reducible apply a_pick1); rfl; first | rfl | assumption) | ((with_reducible apply a_pick0); rfl; first | rfl | assumption) | ((with_reducible apply a_pickN); rfl) | ((with_reducible apply a_condN); rfl) | ((with_reducible apply a_guardN); rfl) | ((with_reducible apply w_fad); rfl) | ((with_reducible apply a_fadI); rfl) | ((with_reducible apply w_load); rfl; rfl; rfl) | ((with_reducible apply w_loadI); rfl) | ((with_reducible apply w_loadA); rfl; rfl; first | exact Nat.le_refl _ | exact Nat.le_of_ble_eq_true rfl) | ((with_reducible apply a_eqA); rfl; rfl; rfl) | ((with_reducible apply a_loadAI); rfl; first | rfl | simp) | ((with_reducible apply w_new); first | rfl | simp) | ((with_reducible apply a_store); rfl; rfl; rfl; rfl; (first | exact Nat.le_refl _ | simp); (first | rfl | simp); (first | rfl | simp)) | ((with_reducible apply a_lenS); rfl; intro _) | ((with_reducible apply a_len); rfl; (first | rfl | simp); intro _) | ((with_reducible apply a_build); rfl) | ((with_reducible apply a_extr); rfl; rfl) | ((with_reducible apply a_cond); rfl) | ((with_reducible apply a_guard); rfl) | (with_reducible intro _))
    refine .pure (by simp) ?_
    unfold custE
    rw [if_pos]
    refine ⟨h1, h2, ?_⟩
    rw [List.all_eq_true]
    intro c hc
    obtain ⟨i, hi⟩ := List.getElem?_of_mem hc
    exact hall i c (List.getElem?_eq_some_iff.1 hi).1 hi
end Go.Proofs.YthblflmjingcfaaDoor
end
