/-
  Ranks compared; two declarations: the law.
  No conditions: contracts.
-/
import Derived.Test.YtlapkmobmgffoaaDoorSrtE
set_option linter.unusedVariables false
set_option linter.unusedSimpArgs false
namespace Go.Proofs.YtlapkmobmgffoaaDoor
open Go Go.Aw Go.Nst
set_option maxRecDepth 1000000
/-! ### Comparing -/
def cmpI (a b : Int) : Int := if a < b then -1 else if b < a then 1 else 0
theorem con_nan (n : Int) : Con Tryd.prog 108 [int n] (bool false) := by
  refine (V108 _).gives (by simp) (by simp) ?_
  unfold W108
  simp
  exact .pure (by simp) rfl
theorem con_cmp (a b : Int) : Con Tryd.prog 82 [int a, int b] (int (cmpI a b)) := by
  refine (V82 _ _).gives (by simp) (by simp) ?_
  unfold W82
  refine iCall_con (by kernel_rfl) (con_nan a) (iCall_con (by kernel_rfl) (con_nan b) ?_)
  simp
  exact ⟨fun h => .pure (by simp) (by unfold cmpI; rw [if_pos h]), fun h => ⟨fun h2 => .pure (by simp) (by unfold cmpI; rw [if_neg (by omega), if_pos h2]), fun h2 => .pure (by simp) (by unfold cmpI; rw [if_neg (by omega), if_neg (by omega)])⟩⟩
def lexL : List Int → List Int → Int
  | a :: xs, b :: ys => if cmpI a b = 0 then lexL xs ys else cmpI a b
  | _, _ => 0
theorem lexL_drop {a b : List Int} {k : Nat} {x y : Int} (h1 : a[k]? = some x) (h2 : b[k]? = some y) : lexL (a.drop k) (b.drop k) = if cmpI x y = 0 then lexL (a.drop (k + 1)) (b.drop (k + 1)) else cmpI x y := by
  rw [List.drop_eq_getElem_cons (List.getElem?_eq_some_iff.1 h1).1, List.drop_eq_getElem_cons (List.getElem?_eq_some_iff.1 h2).1, lexL, (List.getElem?_eq_some_iff.1 h1).2, (List.getElem?_eq_some_iff.1 h2).2]
theorem con_lex (a b : List Int) (hl : b.length = a.length) (hn : a.length < 2 ^ 40) : Con Tryd.prog 59 [.sl 1 (rkR a), .sl 1 (rkR b)] (int (lexL a b)) := by
  refine (V59 _ _).gives (by simp [rows_int]) (by simp) ?_
  unfold W59
  refine a_len (n := a.length) rfl (by simp [rkR]) fun _ => ?_
  refine iLoop_of (α := Nat) (fun k => k ≤ a.length ∧ lexL a b = lexL (a.drop k) (b.drop k)) (fun k => [int k]) (fun _ => []) (fun k => a.length - k) 0 (by simp) (Wk.refl _ _ _ (by simp)) ?_
  rintro k ⟨hk, hf⟩
  refine a_lss rfl rfl ?_
  rcases Nat.lt_or_ge k a.length with q | q
  · obtain ⟨x, hx⟩ : ∃ x, a[k]? = some x := ⟨a[k], List.getElem?_eq_getElem q⟩
    obtain ⟨y, hy⟩ : ∃ x, b[k]? = some x := ⟨b[k]'(by omega), List.getElem?_eq_getElem _⟩
    have e := lexL_drop hx hy
    refine a_cond1 rfl (by simpa using q) ?_
    refine a_idx (f := fun n => [int n]) rfl rfl rfl hx ?_
    refine w_loadI rfl ?_
    refine a_len (n := b.length) rfl (by simp [rkR]) fun _ => ?_
    refine a_geq rfl rfl ?_
    refine a_cond0 rfl (by simp; omega) ?_
    refine a_idx (f := fun n => [int n]) rfl rfl rfl hy ?_
    refine w_loadI rfl ?_
    refine w_call rfl (by kernel_rfl) (con_cmp x y) ?_
    refine a_neq rfl rfl ?_
    refine a_cond rfl (fun hc => ?_) (fun hc => ?_)
    · rw [if_neg (by simpa using hc)] at e
      exact .pure (by simp) (by rw [hf, e])
    · rw [if_pos (by simpa using hc)] at e
      refine w_add rfl rfl (by unfold inI; omega) ?_
      refine w_and ?_
      exact ⟨k + 1, ⟨q, by rw [hf, e]⟩, Wk.refl _ _ _ (by simp), by omega⟩
  · have hk : k = a.length := by omega
    subst hk
    rw [List.drop_length] at hf
    have hf : lexL a b = 0 := hf
    refine a_cond0 rfl (by simp) ?_
    refine a_len (n := a.length) rfl (by simp [rkR]) fun _ => ?_
    refine a_len (n := b.length) rfl (by simp [rkR]) fun _ => ?_
    refine a_lss rfl rfl ?_
    refine a_cond0 rfl (by simp [hl]) ?_
    exact .pure (by simp) (by rw [hf])
theorem setAll_mid : ∀ (b p a r : List AV), a.length = b.length → setAll (p ++ (a ++ r)) p.length b = p ++ (b ++ r)
  | [], p, a, r, h => by simp at h; subst h; rfl
  | c :: b, p, x :: a, r, h => by
    rw [setAll]
    have e : (p ++ (x :: a ++ r)).set p.length c = (p ++ [c]) ++ (a ++ r) := by simp
    have := setAll_mid b (p ++ [c]) a r (by simpa using h)
    rw [e, show p.length + 1 = (p ++ [c]).length by simp, this]
    simp
theorem a_mkSl2 {sz : Nat} {z v w : AV} {a b : List AV} {K : AV → Prop} (hv : vcells v = a) (hw : vcells w = b) (la : a.length = sz) (lb : b.length = sz) (hz : (vcells z).length = sz) (sa : a.all scal = true) (sb : b.all scal = true) (q : K (.sl sz [a, b])) : iMkSlP 2 sz z [(0, sz, v), (sz, sz, w)] K := by
  subst hv; subst hw
  have e1 : setAll (vcells z ++ vcells z) 0 (vcells v) = vcells v ++ vcells z := by
    have := setAll_mid (vcells v) [] (vcells z) (vcells z) (by omega)
    simpa using this
  have e2 : setAll (vcells v ++ vcells z) sz (vcells w) = vcells v ++ vcells w := by
    have := setAll_mid (vcells w) (vcells v) (vcells z) [] (by omega)
    rw [la] at this
    simpa using this
  have : bfill (rep0 2 (vcells z)) [(0, sz, v), (sz, sz, w)] = some (vcells v ++ vcells w) := by
    simp only [bfill, rep0, List.append_nil]
    rw [if_pos ⟨la, by rw [List.length_append]; omega, sa⟩, e1, if_pos ⟨lb, by rw [List.length_append]; omega, sb⟩, e2]
  unfold iMkSlP
  rw [this]
  have e3 : chunks sz 2 (vcells v ++ vcells w) = [vcells v, vcells w] := by
    simp only [chunks]
    rw [List.take_append_of_le_length (by omega), List.take_of_length_le (by omega), List.drop_append_of_le_length (by omega), List.drop_of_length_le (by omega), List.nil_append, List.take_of_length_le (by omega)]
  simp only
  rw [e3]
  exact q
theorem con_compare (a b : Dc) (ha : okD a = true) (hb : okD b = true) : Con Tryd.prog 33 [.agg (encD a), .agg (encD b)] (int (lexL (rkL a) (rkL b))) := by
  refine (V33 _ _).gives (by simp [encD_pure]) (by simp) ?_
  unfold W33
  have h1 := con_rank a ha
  have h2 := con_rank b hb
  have h3 := con_lex (rkL a) (rkL b) rfl (by simp [rkL])
  rw [encD] at h1 h2 ⊢
  rw [encD]
  repeat' (first
    | (with_reducible apply w_let)
    | (with_reducible apply w_and)
    | (with_reducible refine And.intro True.intro ?_)
    | ((with_reducible apply a_lss); rfl; rfl)
    | ((with_reducible apply a_leq); rfl; rfl)
    | ((with_reducible apply a_gtr); rfl; rfl)
    | ((with_reducible apply a_geq); rfl; rfl)
    | ((with_reducible apply a_eql); rfl; rfl)
    | ((with_reducible apply a_neq); rfl; rfl)
    | ((with_reducible apply a_eqlS); rfl; rfl)
    | ((with_reducible apply a_neqS); rfl; rfl)
    | ((with_reducible apply a_eqlB); rfl; rfl)
    | ((with_reducible apply a_neqB); rfl; rfl)
    | ((with_reducible apply w_add); rfl; rfl; first | assumption | (unfold inI; omega))
    | ((with_reducible apply w_sub); rfl; rfl; first | assumption | (unfold inI; omega))
    | ((with_reducible apply a_not); rfl)
    | ((with_reducible apply w_pick_t); rfl)
    | ((with_reducible apply w_pick_f); rfl)
    | ((with_reducible apply a_cond1); rfl; first | rfl | assumption)
    | ((with_reducible apply a_cond0); rfl; first | rfl | assumption)
    | ((with_reducible apply a_guard1); rfl; first | rfl | assumption)
    | ((with_reducible apply a_guard0); rfl; first | rfl | assumption)
    | ((with_reducible apply w_guard_u); rfl)
    | ((with_reducible apply a_pick1); rfl; first | rfl | assumption)
    | ((with_reducible apply a_pick0); rfl; first | rfl | assumption)
    | ((with_reducible apply a_pickN); rfl)
    | ((with_reducible apply a_condN); rfl)
    | ((with_reducible apply a_guardN); rfl)
    | ((with_reducible apply w_fad); rfl)
    | ((with_reducible apply a_fadI); rfl)
    | ((with_reducible apply w_load); rfl; rfl; rfl)
    | ((with_reducible apply w_loadI); rfl)
    | ((with_reducible apply w_loadA); rfl; rfl; first | exact Nat.le_refl _ | exact Nat.le_of_ble_eq_true rfl)
    | ((with_reducible apply a_eqA); rfl; rfl; rfl)
    | ((with_reducible apply a_loadAI); rfl; first | rfl | simp)
    | ((with_reducible apply w_new); first | rfl | simp)
    | ((with_reducible apply a_store); rfl; rfl; rfl; rfl; (first | exact Nat.le_refl _ | simp); (first | rfl | simp); (first | rfl | simp))
    | ((with_reducible apply a_lenS); rfl; intro _)
    | ((with_reducible apply a_len); rfl; (first | rfl | simp); intro _)
    | ((with_reducible apply a_build); rfl)
    | ((with_reducible apply a_extr); rfl; rfl)
    | (refine w_callQ rfl (by kernel_rfl) h1 ?_)
    | (refine w_callQ rfl (by kernel_rfl) h2 ?_)
    | (refine w_callQ rfl (by kernel_rfl) h3 ?_)
    | ((with_reducible apply a_cond); rfl)
    | ((with_reducible apply a_guard); rfl)
    | (with_reducible intro _))
  exact .pure (by simp) rfl
/-! ### Lists -/
def smallD (d : Dc) : Prop := zVs d.value < 2 ^ 39 ∧ d.name.length < 2 ^ 39 ∧ d.whole.length < 2 ^ 39
def encDs (l : List Dc) : List (List AV) := l.map encD
theorem encDs_pure : ∀ l, PureR (encDs l)
  | [] => by simp [encDs, PureR]
  | d :: l => by have := encDs_pure l; unfold encDs at this ⊢; simp only [List.map_cons, PureR]; exact ⟨encD_pure d, this⟩
def eL (l : List Dc) : Int := if l.all okD then 0 else 8
theorem eL_bad {l : List Dc} {k : Nat} {d : Dc} (h : l[k]? = some d) (hd : okD d = false) : eL l = 8 := by
  unfold eL
  rw [if_neg]
  intro q
  rw [List.all_eq_true.1 q d (List.mem_of_getElem? h)] at hd
  cases hd
theorem con_check (l : List Dc) (hs : ∀ d ∈ l, smallD d) (hl : l.length < 2 ^ 40) : Con Tryd.prog 32 [.sl 11 (encDs l)] (int (eL l)) := by
  refine (V32 _).gives (by simp [encDs_pure]) (by simp) ?_
  unfold W32
  refine a_len (n := l.length) rfl (by simp [encDs]) fun _ => ?_
  refine iLoop_of (α := Nat) (fun k => k ≤ l.length ∧ (l.take k).all okD = true) (fun k => [int k]) (fun _ => []) (fun k => l.length - k) 0 (by simp) (Wk.refl _ _ _ (by simp)) ?_
  rintro k ⟨hk, hf⟩
  refine a_lss rfl rfl ?_
  rcases Nat.lt_or_ge k l.length with q | q
  · obtain ⟨d, hd⟩ : ∃ x, l[k]? = some x := ⟨l[k], List.getElem?_eq_getElem q⟩
    obtain ⟨z1, z2, z3⟩ := hs d (List.mem_of_getElem? hd)
    have hC := con_dCheck d (by omega) (by omega)
    refine a_cond1 rfl (by simpa using q) ?_
    refine a_idx (f := encD) rfl rfl rfl hd ?_
    refine a_loadAI rfl (by simp [encD]) ?_
    refine w_new rfl ?_
    refine a_store (cs := encD d) rfl rfl rfl rfl (Nat.le_refl _) rfl rfl ?_
    refine w_loadA rfl rfl (Nat.le_refl _) ?_
    refine w_call rfl (by kernel_rfl) hC ?_
    refine a_neq rfl rfl ?_
    cases ho : okD d with
    | true =>
      refine a_cond0 rfl (by simp [errD, ho]) ?_
      refine w_add rfl rfl (by unfold inI; omega) ?_
      refine w_and ?_
      exact ⟨k + 1, ⟨q, by rw [List.take_add_one, hd, List.all_append, hf]; simp [ho]⟩, Wk.back (M := 0) (by simp) (by simp) rfl rfl (by simp) (by simp [Bd]), by omega⟩
    | false =>
      refine a_cond1 rfl (by simp [errD, ho]) ?_
      exact .pure (by simp) (by rw [eL_bad hd ho, errD, ho]; rfl)
  · have hk : k = l.length := by omega
    subst hk
    rw [List.take_length] at hf
    refine a_cond0 rfl (by simp) ?_
    exact .pure (by simp) (by unfold eL; rw [if_pos hf])
theorem con_All (l : List Dc) (hs : ∀ d ∈ l, smallD d) (hl : l.length < 2 ^ 40) : Con Tryd.prog 34 [.sl 11 (encDs l)] (int (eL l)) := by
  refine (V34 _).gives (by simp [encDs_pure]) (by simp) ?_
  unfold W34
  refine iLoop_of (α := Nat) (fun k => k ≤ l.length ∧ (l.take k).all okD = true) (fun k => [int k]) (fun _ => []) (fun k => l.length - k) 0 (by simp) (Wk.refl _ _ _ (by simp)) ?_
  rintro k ⟨hk, hf⟩
  refine a_len (n := l.length) rfl (by simp [encDs]) fun _ => ?_
  refine a_lss rfl rfl ?_
  rcases Nat.lt_or_ge k l.length with q | q
  · obtain ⟨d, hd⟩ : ∃ x, l[k]? = some x := ⟨l[k], List.getElem?_eq_getElem q⟩
    obtain ⟨z1, z2, z3⟩ := hs d (List.mem_of_getElem? hd)
    have hC := con_rdCheck d (by omega) (by omega)
    refine a_cond1 rfl (by simpa using q) ?_
    refine a_idx (f := encD) rfl rfl rfl hd ?_
    refine a_loadAI rfl (by simp [encD]) ?_
    refine w_call rfl (by kernel_rfl) hC ?_
    refine a_neq rfl rfl ?_
    cases ho : okD d with
    | true =>
      refine a_cond0 rfl (by simp [errD, ho]) ?_
      refine w_add rfl rfl (by unfold inI; omega) ?_
      refine w_and ?_
      exact ⟨k + 1, ⟨q, by rw [List.take_add_one, hd, List.all_append, hf]; simp [ho]⟩, Wk.refl _ _ _ (by simp), by omega⟩
    | false =>
      refine a_cond1 rfl (by simp [errD, ho]) ?_
      exact .pure (by simp) (by rw [eL_bad hd ho, errD, ho]; rfl)
  · have hk : k = l.length := by omega
    subst hk
    rw [List.take_length] at hf
    refine a_cond0 rfl (by simp) ?_
    exact .pure (by simp) (by unfold eL; rw [if_pos hf])
/-! ### One before another -/
theorem con_Less (a b : Dc) (ha : okD a = true) (hb : okD b = true) : Con Tryd.prog 35 [.agg (encD a), .agg (encD b)] (bool (decide (lexL (rkL a) (rkL b) < 0))) := by
  refine (V35 _ _).gives (by simp [encD_pure]) (by simp) ?_
  unfold W35
  have h1 := con_Ranked a ha
  have h2 := con_Ranked b hb
  rw [encD] at h1 h2 ⊢
  rw [encD]
  refine w_new rfl ?_
  refine w_new rfl ?_
  refine w_loadA rfl rfl (Nat.le_refl _) ?_
  refine w_callC rfl (by kernel_rfl) h1 ?_
  refine w_loadA rfl rfl (Nat.le_refl _) ?_
  refine w_callC rfl (by kernel_rfl) h2 ?_
  refine n_store (h' := [_, _, _, _, _, _]) (id := 4) (o := 0) (cs := (rkL a).map fun n => int n) rfl rfl rfl rfl (Nat.le_refl _) rfl rfl rfl ?_
  refine n_store (h' := [_, _, _, _, _, _]) (id := 5) (o := 0) (cs := (rkL b).map fun n => int n) rfl rfl rfl rfl (Nat.le_refl _) rfl rfl rfl ?_
  refine iLoop_of (α := Nat) (fun k => k ≤ 7 ∧ lexL (rkL a) (rkL b) = lexL ((rkL a).drop k) ((rkL b).drop k)) (fun k => [int k]) (fun _ => _) (fun k => 7 - k) 0 ⟨by omega, rfl⟩ (Wk.refl _ _ _ (by simp)) ?_
  rintro k ⟨hk, hf⟩
  refine a_lss rfl rfl ?_
  rcases Nat.lt_or_ge k 7 with q | q
  · obtain ⟨x, hx⟩ : ∃ x, (rkL a)[k]? = some x := ⟨(rkL a)[k]'(by simpa [rkL] using q), List.getElem?_eq_getElem _⟩
    obtain ⟨y, hy⟩ : ∃ x, (rkL b)[k]? = some x := ⟨(rkL b)[k]'(by simpa [rkL] using q), List.getElem?_eq_getElem _⟩
    have e := lexL_drop hx hy
    have ex : ((rkL a).map fun n => int n)[0 + k * 1]? = some (int x) := by rw [Nat.zero_add, Nat.mul_one, List.getElem?_map, hx]; rfl
    have ey : ((rkL b).map fun n => int n)[0 + k * 1]? = some (int y) := by rw [Nat.zero_add, Nat.mul_one, List.getElem?_map, hy]; rfl
    refine a_cond1 rfl (by simp; omega) ?_
    refine a_idxQ (id := 4) (o := 0) rfl rfl q ?_
    refine w_load rfl rfl ex ?_
    refine a_idxQ (id := 5) (o := 0) rfl rfl q ?_
    refine w_load rfl rfl ey ?_
    refine a_neq rfl rfl ?_
    refine a_cond rfl (fun hc => ?_) (fun hc => ?_)
    · refine a_idxQ (id := 4) (o := 0) rfl rfl q ?_
      refine w_load rfl rfl ex ?_
      refine a_idxQ (id := 5) (o := 0) rfl rfl q ?_
      refine w_load rfl rfl ey ?_
      refine a_lss rfl rfl ?_
      refine .pure (by simp) ?_
      have hc : x ≠ y := by simpa using hc
      have e0 : cmpI x y ≠ 0 := by unfold cmpI; split <;> (try split) <;> omega
      rw [if_neg e0] at e
      rw [hf, e]
      simp only [AV.v.injEq, Value.bool.injEq, decide_eq_decide]
      unfold cmpI
      split <;> (try split) <;> omega
    · have hc : x = y := by simpa using hc
      subst hc
      rw [if_pos (by simp [cmpI])] at e
      refine w_add rfl rfl (by unfold inI; omega) ?_
      refine w_and ?_
      exact ⟨k + 1, ⟨by omega, by rw [hf, e]⟩, Wk.refl _ _ _ (by simp), by omega⟩
  · obtain rfl : k = 7 := by omega
    have hf : lexL (rkL a) (rkL b) = 0 := hf
    refine a_cond0 rfl (by simp) ?_
    exact .pure (by simp) (by rw [hf]; rfl)
def befV (a b : Dc) : AV := if eL [a, b] = 0 then .tup [bool (decide (lexL (rkL a) (rkL b) < 0)), int 0] else .tup [ff, int 8]
theorem befV_pure (a b : Dc) : Aw.Pure (befV a b) := by unfold befV; split <;> simp
theorem eL_two {a b : Dc} (h : eL [a, b] = 0) : okD a = true ∧ okD b = true := by
  unfold eL at h
  split at h
  · rename_i q; simpa using q
  · cases h
theorem eL_not {l : List Dc} (h : eL l ≠ 0) : eL l = 8 := by
  unfold eL at h ⊢
  split
  · rename_i q; rw [if_pos q] at h; exact absurd rfl h
  · rfl
theorem con_Before (a b : Dc) (ha : smallD a) (hb : smallD b) : Con Tryd.prog 9 [.agg (encD a), .agg (encD b)] (befV a b) := by
  refine (V9 _ _).gives (by simp [encD_pure]) (befV_pure a b) ?_
  unfold W9
  have hc := con_check [a, b] (by simp; exact ⟨ha, hb⟩) (by simp)
  refine w_new rfl ?_
  refine w_new rfl ?_
  refine w_loadA rfl rfl (Nat.le_refl _) ?_
  refine w_loadA rfl rfl (Nat.le_refl _) ?_
  refine a_mkSl2 (a := encD a) (b := encD b) rfl rfl rfl rfl rfl rfl rfl ?_
  refine w_call rfl (by kernel_rfl) hc ?_
  refine a_neq rfl rfl ?_
  unfold befV
  by_cases h0 : eL [a, b] = 0
  · obtain ⟨o1, o2⟩ := eL_two h0
    refine a_cond0 rfl (by simp [h0]) ?_
    refine w_loadA rfl rfl (Nat.le_refl _) ?_
    refine w_loadA rfl rfl (Nat.le_refl _) ?_
    refine w_call rfl (by kernel_rfl) (con_compare a b o1 o2) ?_
    refine a_lss rfl rfl ?_
    exact .pure (by simp) (by rw [if_pos h0])
  · refine a_cond1 rfl (by simp [h0]) ?_
    exact .pure (by simp) (by rw [if_neg h0, eL_not h0])
theorem con_rBefore (a b : Dc) (ha : smallD a) (hb : smallD b) : Con Tryd.prog 10 [.agg (encD a), .agg (encD b)] (befV a b) := by
  refine (V10 _ _).gives (by simp [encD_pure]) (befV_pure a b) ?_
  unfold W10
  have hc := con_All [a, b] (by simp; exact ⟨ha, hb⟩) (by simp)
  refine w_new rfl ?_
  refine w_new rfl ?_
  refine w_loadA rfl rfl (Nat.le_refl _) ?_
  refine w_loadA rfl rfl (Nat.le_refl _) ?_
  refine a_mkSl2 (a := encD a) (b := encD b) rfl rfl rfl rfl rfl rfl rfl ?_
  refine w_call rfl (by kernel_rfl) hc ?_
  refine a_neq rfl rfl ?_
  unfold befV
  by_cases h0 : eL [a, b] = 0
  · obtain ⟨o1, o2⟩ := eL_two h0
    refine a_cond0 rfl (by simp [h0]) ?_
    refine w_loadA rfl rfl (Nat.le_refl _) ?_
    refine w_loadA rfl rfl (Nat.le_refl _) ?_
    refine w_call rfl (by kernel_rfl) (con_Less a b o1 o2) ?_
    exact .pure (by simp) (by rw [if_pos h0])
  · refine a_cond1 rfl (by simp [h0]) ?_
    exact .pure (by simp) (by rw [if_neg h0, eL_not h0])
end Go.Proofs.YtlapkmobmgffoaaDoor
