/-
  What the text of a list of selectors is; how long it is. The reference's text of a simple selector. The reference's text of a list. Count by either way; the reference's Text.
  No conditions.
-/
import Derived.Test.YthblflmjingcfaaGreatDoorH1
import Derived.Test.YthblflmjingcfaaGreatDoorAnbW
import Derived.Test.YthblflmjingcfaaGreatDoorR2
import Derived.Test.YthblflmjingcfaaGreatDoorWWri
set_option linter.unusedVariables false
set_option linter.unusedSimpArgs false
section
namespace Go.Proofs.YthblflmjingcfaaGreatDoor
open Go Go.Aw Go.Sel
set_option maxRecDepth 100000
/-- Texts, each behind what stands ahead of it. -/
def joinK (sep : Nat → Str) (ts : List Str) (k : Nat) : Str := (List.range k).flatMap fun i => sep i ++ ts.getD i []
def joinL (sep : Nat → Str) (ts : List Str) : Str := joinK sep ts ts.length
def sepC (k : Nat) : Str := if k = 0 then [] else [44, 32]
def sepP (cs : List Int) (k : Nat) : Str := if k = 0 then [] else mkL.getD (cs.getD (k - 1) 0).toNat []
def kdL : List Str := [[58, 108, 105, 110, 107], [58, 118, 105, 115, 105, 116, 101, 100], [58, 97, 110, 121, 45, 108, 105, 110, 107], [58, 114, 111, 111, 116], [58, 101, 109, 112, 116, 121], [58, 110, 116, 104, 45, 99, 104, 105, 108, 100, 40], [58, 110, 116, 104, 45, 108, 97, 115, 116, 45, 99, 104, 105, 108, 100, 40], [58, 105, 115, 40], [58, 119, 104, 101, 114, 101, 40], [58, 110, 111, 116, 40], [58, 104, 97, 115, 40]]
def fcL : List Str := [[58, 102, 105, 114, 115, 116, 45, 99, 104, 105, 108, 100], [58, 108, 97, 115, 116, 45, 99, 104, 105, 108, 100]]
/-- What stands ahead of a list: a progression and ' of '. -/
def nthT (k a b : Int) (w : Bool) : Str := if isNth k && okN a && okN b then anbT a b ++ (if w then [32, 111, 102, 32] else []) else []
mutual
def txX : Cx → Str
  | .mk l ps cs => (if 1 < l then (mkL.getD l.toNat []).drop 1 else []) ++ joinL (sepP cs) (txPs ps)
def txPs : List Cp → List Str
  | [] => []
  | p :: l => txP p :: txPs l
def txP : Cp → Str
  | .mk t ss => (if t = [42] then [42] else nmT t) ++ (txSs ss).flatten
def txSs : List Sm → List Str
  | [] => []
  | s :: l => txS s :: txSs l
def txS : Sm → Str
  | .mk k n o v f a b w l => if k = 1 then [35] ++ nmT n else if k = 2 then [46] ++ nmT n else if k = 3 then atT n o v f else if frst k a b w then fcL.getD (k - 9).toNat [] else
      if k ≤ 8 then kdL.getD (k - 4).toNat [] else kdL.getD (k - 4).toNat [] ++ nthT k a b w ++ joinL sepC (txXs l) ++ [41]
def txXs : List Cx → List Str
  | [] => []
  | x :: l => txX x :: txXs l
end
/-- The text of a list. -/
def wrL (l : List Cx) : Str := joinL sepC (txXs l)
mutual
/-- Numbers that stand for a place in a table are not below 0. -/
def gX : Cx → Bool
  | .mk _ ps _ => gPs ps
def gPs : List Cp → Bool
  | [] => true
  | p :: l => gP p && gPs l
def gP : Cp → Bool
  | .mk _ ss => gSs ss
def gSs : List Sm → Bool
  | [] => true
  | s :: l => gS s && gSs l
def gS : Sm → Bool
  | .mk _ _ o _ _ _ _ _ l => decide (0 ≤ o) && gXs l
def gXs : List Cx → Bool
  | [] => true
  | x :: l => gX x && gXs l
end
theorem gPs_all : ∀ l, gPs l = l.all gP
  | [] => by simp [gPs]
  | p :: l => by simp [gPs, gPs_all l]
theorem gSs_all : ∀ l, gSs l = l.all gS
  | [] => by simp [gSs]
  | p :: l => by simp [gSs, gSs_all l]
theorem gXs_all : ∀ l, gXs l = l.all gX
  | [] => by simp [gXs]
  | p :: l => by simp [gXs, gXs_all l]
theorem txPs_map : ∀ l, txPs l = l.map txP
  | [] => by simp [txPs]
  | p :: l => by simp [txPs, txPs_map l]
theorem txSs_map : ∀ l, txSs l = l.map txS
  | [] => by simp [txSs]
  | p :: l => by simp [txSs, txSs_map l]
theorem txXs_map : ∀ l, txXs l = l.map txX
  | [] => by simp [txXs]
  | p :: l => by simp [txXs, txXs_map l]
theorem joinK_next (sep : Nat → Str) (ts : List Str) (k : Nat) : joinK sep ts (k + 1) = joinK sep ts k ++ (sep k ++ ts.getD k []) := by
  unfold joinK; rw [List.range_succ, List.flatMap_append]; simp
def lenS (ts : List Str) : Nat := (ts.map fun t => t.length + 3).sum
theorem lenS_take (ts : List Str) : ∀ k, k ≤ ts.length → lenS (ts.take k) ≤ lenS ts := by
  intro k hk
  have : lenS ts = lenS (ts.take k) + lenS (ts.drop k) := by
    unfold lenS
    rw [← List.sum_append, ← List.map_append, List.take_append_drop]
  omega
theorem joinK_len {sep : Nat → Str} (hs : ∀ i, (sep i).length ≤ 3) (ts : List Str) : ∀ k, k ≤ ts.length → (joinK sep ts k).length ≤ lenS (ts.take k)
  | 0, _ => by simp [joinK]
  | k + 1, hk => by
    have ih := joinK_len hs ts k (by omega)
    have e : ts[k]? = some (ts[k]'(by omega)) := List.getElem?_eq_getElem (by omega)
    have h2 := hs k
    rw [joinK_next, List.take_add_one, e]
    have e2 : ts.getD k [] = ts[k]'(by omega) := by rw [List.getD_eq_getElem?_getD, e]; rfl
    unfold lenS at ih ⊢
    rw [e2, List.map_append, List.sum_append]
    simp only [List.length_append, Option.toList_some, List.map_cons, List.map_nil, List.sum_cons, List.sum_nil]
    omega
theorem joinL_len {sep : Nat → Str} (hs : ∀ i, (sep i).length ≤ 3) (ts : List Str) : (joinL sep ts).length ≤ lenS ts := by
  have := joinK_len hs ts ts.length (Nat.le_refl _)
  rwa [List.take_length] at this
theorem sepC_len (i : Nat) : (sepC i).length ≤ 3 := by unfold sepC; split <;> simp
theorem sepP_len (cs : List Int) (i : Nat) : (sepP cs i).length ≤ 3 := by unfold sepP; split; · simp
                                                                          · exact mkL_len _
theorem flat_len (ts : List Str) : ts.flatten.length ≤ lenS ts := by
  induction ts with
  | nil => simp
  | cons t l ih => unfold lenS at *; simp only [List.flatten_cons, List.length_append, List.map_cons, List.sum_cons]; omega
theorem kdL_len (n : Nat) : (kdL.getD n []).length ≤ 16 := by
  match n with
  | 0 | 1 | 2 | 3 | 4 | 5 | 6 | 7 | 8 | 9 | 10 => decide
  | n + 11 => simp [kdL]
theorem fcL_len (n : Nat) : (fcL.getD n []).length ≤ 16 := by
  match n with
  | 0 | 1 => decide
  | n + 2 => simp [fcL]
theorem anbT_len (a b : Int) (ha : okN a = true) (hb : okN b = true) : (anbT a b).length ≤ 50 := by
  have h1 := itoa_len a ha
  have h2 := itoa_len b hb
  unfold anbT
  split
  · omega
  · (repeat' split) <;> simp <;> omega
theorem nthT_len (k a b : Int) (w : Bool) : (nthT k a b w).length ≤ 54 := by
  unfold nthT
  split
  · rename_i h
    simp only [Bool.and_eq_true] at h
    have := anbT_len a b h.1.2 h.2
    rw [List.length_append]
    split <;> simp <;> omega
  · simp
mutual
theorem txX_len : ∀ x, (txX x).length + 3 ≤ 100 * zX x
  | .mk l ps cs => by
    have h := txPs_len ps
    have h2 := joinL_len (sepP_len cs) (txPs ps)
    have h3 := mkL_len l.toNat
    rw [txX, zX, List.length_append]
    split
    · rw [List.length_drop]; omega
    · simp only [List.length_nil]; omega
theorem txPs_len : ∀ l, lenS (txPs l) ≤ 100 * zPs l
  | [] => by simp [txPs, lenS]
  | p :: l => by
    have h1 := txP_len p
    have h2 := txPs_len l
    rw [txPs, zPs]
    unfold lenS at *
    simp only [List.map_cons, List.sum_cons]; omega
theorem txP_len : ∀ p, (txP p).length + 3 ≤ 100 * zP p
  | .mk t ss => by
    have h1 := txSs_len ss
    have h2 := flat_len (txSs ss)
    have h3 := nmT_len t
    rw [txP, zP, List.length_append]
    split
    · simp only [List.length_cons, List.length_nil]; omega
    · omega
theorem txSs_len : ∀ l, lenS (txSs l) ≤ 100 * zSs l
  | [] => by simp [txSs, lenS]
  | p :: l => by
    have h1 := txS_len p
    have h2 := txSs_len l
    rw [txSs, zSs]
    unfold lenS at *
    simp only [List.map_cons, List.sum_cons]; omega
theorem txS_len : ∀ s, (txS s).length + 3 ≤ 100 * zS s
  | .mk k n o v f a b w l => by
    have h1 := txXs_len l
    have h2 := joinL_len sepC_len (txXs l)
    have h3 := nmT_len n
    have h4 := atT_len n o v f
    have h5 := kdL_len (k - 4).toNat
    have h6 := fcL_len (k - 9).toNat
    have h7 := nthT_len k a b w
    rw [txS, zS]
    (repeat' split)
    all_goals first | omega | (simp only [List.length_append, List.length_cons, List.length_nil]; omega)
theorem txXs_len : ∀ l, lenS (txXs l) ≤ 100 * zXs l
  | [] => by simp [txXs, lenS]
  | p :: l => by
    have h1 := txX_len p
    have h2 := txXs_len l
    rw [txXs, zXs]
    unfold lenS at *
    simp only [List.map_cons, List.sum_cons]; omega
end
theorem wrL_len (l : List Cx) : (wrL l).length ≤ 100 * zXs l := Nat.le_trans (joinL_len sepC_len _) (txXs_len l)
end Go.Proofs.YthblflmjingcfaaGreatDoor
end

section
namespace Go.Proofs.YthblflmjingcfaaGreatDoor
open Go Go.Aw Go.Sel
set_option maxRecDepth 100000
theorem a_mkKd {K : AV → Prop} (q : K (.sl 1 (kdL.map fun s => [.str s]))) : iMkSlP 11 1 (.str []) [(0, 1, (.str [58, 108, 105, 110, 107])), (1, 1, (.str [58, 118, 105, 115, 105, 116, 101, 100])), (2, 1, (.str [58, 97, 110, 121, 45, 108, 105, 110, 107])), (3, 1, (.str [58, 114, 111, 111, 116])), (4, 1, (.str [58, 101, 109, 112, 116, 121])), (5, 1, (.str [58, 110, 116, 104, 45, 99, 104, 105, 108, 100, 40])), (6, 1, (.str [58, 110, 116, 104, 45, 108, 97, 115, 116, 45, 99, 104, 105, 108, 100, 40])), (7, 1, (.str [58, 105, 115, 40])), (8, 1, (.str [58, 119, 104, 101, 114, 101, 40])), (9, 1, (.str [58, 110, 111, 116, 40])), (10, 1, (.str [58, 104, 97, 115, 40]))] K := by
  unfold iMkSlP
  simp [bfill, rep0, vcells, setAll, scal, chunks]
  exact q
theorem a_mkFc {K : AV → Prop} (q : K (.sl 1 (fcL.map fun s => [.str s]))) : iMkSlP 2 1 (.str []) [(0, 1, (.str [58, 102, 105, 114, 115, 116, 45, 99, 104, 105, 108, 100])), (1, 1, (.str [58, 108, 97, 115, 116, 45, 99, 104, 105, 108, 100]))] K := by
  unfold iMkSlP
  simp [bfill, rep0, vcells, setAll, scal, chunks]
  exact q
theorem txS_nth {k : Int} (n : Str) (o : Int) (v : Str) (f : Bool) {a b : Int} (w : Bool) (l : List Cx) (hk : 9 ≤ k) (hf : frst k a b w = false) (hn : isNth k = true) (ha : okN a = true ∧ okN b = true) :
    txS (.mk k n o v f a b w l) = kdL.getD (k - 4).toNat [] ++ (anbT a b ++ if w then [32, 111, 102, 32] else []) ++ wrL l ++ [41] := by
  rw [txS, if_neg (by omega), if_neg (by omega), if_neg (by omega), hf, if_neg (by decide), if_neg (by omega), nthT, hn, ha.1, ha.2]
  rfl
theorem txS_lst {k : Int} (n : Str) (o : Int) (v : Str) (f : Bool) (a b : Int) (w : Bool) (l : List Cx) (hk : 11 ≤ k) : txS (.mk k n o v f a b w l) = kdL.getD (k - 4).toNat [] ++ wrL l ++ [41] := by
  have hn : isNth k = false := by unfold isNth; rw [decide_eq_false (by omega), decide_eq_false (by omega)]; rfl
  rw [txS, if_neg (by omega), if_neg (by omega), if_neg (by omega), frst, hn, Bool.false_and, Bool.false_and, Bool.false_and, if_neg (by decide), if_neg (by omega), nthT, hn]
  simp [wrL]
theorem txS_bare {k : Int} (n : Str) (o : Int) (v : Str) (f : Bool) (a b : Int) (w : Bool) (l : List Cx) (hk : 4 ≤ k) (h8 : k ≤ 8) : txS (.mk k n o v f a b w l) = kdL.getD (k - 4).toNat [] := by
  have hn : isNth k = false := by unfold isNth; rw [decide_eq_false (by omega), decide_eq_false (by omega)]; rfl
  rw [txS, if_neg (by omega), if_neg (by omega), if_neg (by omega), frst, hn, Bool.false_and, Bool.false_and, Bool.false_and, if_neg (by decide), if_pos h8]
theorem txS_frst {k : Int} (n : Str) (o : Int) (v : Str) (f : Bool) {a b : Int} {w : Bool} (l : List Cx) (hk : 9 ≤ k) (hf : frst k a b w = true) : txS (.mk k n o v f a b w l) = fcL.getD (k - 9).toNat [] := by
  rw [txS, if_neg (by omega), if_neg (by omega), if_neg (by omega), if_pos hf]
variable [MaxL]
def RwL (n : Nat) : Prop := ∀ l, zXs l ≤ n → gXs l = true → ∀ d has rel, okXs d has rel l = true → Con Tryz.prog 22 [.sl 3 (encXs l)] (.str (wrL l))
def RwS (n : Nat) : Prop := ∀ s, zS s ≤ n → gS s = true → ∀ d has, okS d has s = true → Con Tryz.prog 38 [.agg (encS s)] (.str (txS s))
theorem rwS_step {n : Nat} (hn : n ≤ 2 ^ 28) (hL : RwL n) : RwS (n + 1) := by
  intro s hz hg d has ok
  obtain ⟨k, na, o, v, f, a, b, w, l⟩ := s
  rw [zS] at hz
  rw [gS, Bool.and_eq_true, decide_eq_true_eq] at hg
  rw [okS, Bool.and_eq_true] at ok
  obtain ⟨ok, okl⟩ := ok
  have pr : PureR (encXs l) := pureXs l
  have hlist : Con Tryz.prog 22 [.sl 3 (encXs l)] (.str (wrL l)) := by
    by_cases h : hasL k w = true
    · rw [if_pos h] at okl
      simp only [Bool.and_eq_true] at okl
      exact hL l (by omega) hg.2 _ _ _ okl.2
    · rw [if_neg h] at okl
      obtain rfl : l = [] := List.isEmpty_iff.1 okl
      exact hL [] (by simp [zXs]) (by simp [gXs]) 0 false false (by simp [okXs])
  have hw := wrL_len l
  have h3 := nmT_len na
  refine (V38 _).gives (by simp [encS, pr]) (by simp) ?_
  unfold W38 encS
  by_cases h1 : k = 1
  · subst h1
    repeat' (first | (with_reducible first | apply w_let | apply w_and | refine And.intro True.intro ?_) | ((with_reducible first | apply a_lss | apply a_leq | apply a_gtr | apply a_geq | apply a_eql | apply a_neq); rfl; rfl) | ((with_reducible first | apply a_eqlS | apply a_neqS | apply a_eqlB | apply a_neqB); rfl; rfl) | ((with_reducible apply w_add); rfl; rfl; first | assumption | (unfold inI; omega)) | ((with_reducible apply w_sub); rfl; rfl; first | assumption | (unfold inI; omega)) | ((with_reducible apply a_not); rfl) | ((with_reducible apply w_pick_t); rfl) | ((with_reducible apply w_pick_f); rfl) | ((with_reducible apply a_cond1); rfl; first | rfl | assumption) | ((with_reducible apply a_cond0); rfl; first | rfl | assumption) | ((with_reducible apply a_guard1); rfl; first | rfl | assumption) | ((with_reducible apply a_guard0); rfl; first | rfl | assumption) | ((with_reducible apply w_guard_u); rfl) | ((with_reducible apply a_pick1); rfl; first | rfl | assumption) | ((with_reducible apply a_pick0); rfl; first | rfl | assumption) | ((with_reducible apply a_pickN); rfl) | ((with_reducible apply a_condN); rfl) | ((with_reducible apply a_guardN); rfl) | ((with_reducible apply w_fad); rfl) | ((with_reducible apply a_fadI); rfl) | ((with_reducible apply w_load); rfl; rfl; rfl) | ((with_reducible apply w_loadI); rfl) | ((with_reducible apply w_loadA); rfl; rfl; first | exact Nat.le_refl _ | exact Nat.le_of_ble_eq_true rfl) | ((with_reducible apply a_eqA); rfl; rfl; rfl) | ((with_reducible apply a_loadAI); rfl; first | rfl | simp) | ((with_reducible apply w_new); first | rfl | simp) | ((with_reducible apply a_store); rfl; rfl; rfl; rfl; (first | exact Nat.le_refl _ | simp); (first | rfl | simp); (first | rfl | simp)) | ((with_reducible apply a_lenS); rfl; intro _) | ((with_reducible apply a_len); rfl; (first | rfl | simp); intro _) | ((with_reducible apply a_build); rfl) | ((with_reducible apply a_extr); rfl; rfl) | (refine iCall_con (by kernel_rfl) (con_rNamed na (by omega)) ?_) | (refine a_addS rfl rfl rfl (by simp only [List.length_append, List.length_cons, List.length_nil]; unfold maxLen; omega) ?_) | ((with_reducible apply a_cond); rfl) | ((with_reducible apply a_guard); rfl) | (with_reducible intro _))
    exact .pure (by simp) (by rw [txS, if_pos rfl])
  by_cases h2 : k = 2
  · subst h2
    repeat' (first | (with_reducible first | apply w_let | apply w_and | refine And.intro True.intro ?_) | ((with_reducible first | apply a_lss | apply a_leq | apply a_gtr | apply a_geq | apply a_eql | apply a_neq); rfl; rfl) | ((with_reducible first | apply a_eqlS | apply a_neqS | apply a_eqlB | apply a_neqB); rfl; rfl) | ((with_reducible apply w_add); rfl; rfl; first | assumption | (unfold inI; omega)) | ((with_reducible apply w_sub); rfl; rfl; first | assumption | (unfold inI; omega)) | ((with_reducible apply a_not); rfl) | ((with_reducible apply w_pick_t); rfl) | ((with_reducible apply w_pick_f); rfl) | ((with_reducible apply a_cond1); rfl; first | rfl | assumption) | ((with_reducible apply a_cond0); rfl; first | rfl | assumption) | ((with_reducible apply a_guard1); rfl; first | rfl | assumption) | ((with_reducible apply a_guard0); rfl; first | rfl | assumption) | ((with_reducible apply w_guard_u); rfl) | ((with_reducible apply a_pick1); rfl; first | rfl | assumption) | ((with_reducible apply a_pick0); rfl; first | rfl | assumption) | ((with_reducible apply a_pickN); rfl) | ((with_reducible apply a_condN); rfl) | ((with_reducible apply a_guardN); rfl) | ((with_reducible apply w_fad); rfl) | ((with_reducible apply a_fadI); rfl) | ((with_reducible apply w_load); rfl; rfl; rfl) | ((with_reducible apply w_loadI); rfl) | ((with_reducible apply w_loadA); rfl; rfl; first | exact Nat.le_refl _ | exact Nat.le_of_ble_eq_true rfl) | ((with_reducible apply a_eqA); rfl; rfl; rfl) | ((with_reducible apply a_loadAI); rfl; first | rfl | simp) | ((with_reducible apply w_new); first | rfl | simp) | ((with_reducible apply a_store); rfl; rfl; rfl; rfl; (first | exact Nat.le_refl _ | simp); (first | rfl | simp); (first | rfl | simp)) | ((with_reducible apply a_lenS); rfl; intro _) | ((with_reducible apply a_len); rfl; (first | rfl | simp); intro _) | ((with_reducible apply a_build); rfl) | ((with_reducible apply a_extr); rfl; rfl) | (refine iCall_con (by kernel_rfl) (con_rNamed na (by omega)) ?_) | (refine a_addS rfl rfl rfl (by simp only [List.length_append, List.length_cons, List.length_nil]; unfold maxLen; omega) ?_) | ((with_reducible apply a_cond); rfl) | ((with_reducible apply a_guard); rfl) | (with_reducible intro _))
    exact .pure (by simp) (by rw [txS, if_neg (by decide), if_pos rfl])
  rw [bareOK, if_neg (by omega)] at ok
  by_cases h4 : k = 3
  · subst h4
    rw [if_pos rfl] at ok
    simp only [Bool.and_eq_true, decide_eq_true_eq] at ok
    obtain ⟨o', rfl⟩ := Int.eq_ofNat_of_zero_le hg.1
    repeat' (first | (with_reducible first | apply w_let | apply w_and | refine And.intro True.intro ?_) | ((with_reducible first | apply a_lss | apply a_leq | apply a_gtr | apply a_geq | apply a_eql | apply a_neq); rfl; rfl) | ((with_reducible first | apply a_eqlS | apply a_neqS | apply a_eqlB | apply a_neqB); rfl; rfl) | ((with_reducible apply w_add); rfl; rfl; first | assumption | (unfold inI; omega)) | ((with_reducible apply w_sub); rfl; rfl; first | assumption | (unfold inI; omega)) | ((with_reducible apply a_not); rfl) | ((with_reducible apply w_pick_t); rfl) | ((with_reducible apply w_pick_f); rfl) | ((with_reducible apply a_cond1); rfl; first | rfl | assumption) | ((with_reducible apply a_cond0); rfl; first | rfl | assumption) | ((with_reducible apply a_guard1); rfl; first | rfl | assumption) | ((with_reducible apply a_guard0); rfl; first | rfl | assumption) | ((with_reducible apply w_guard_u); rfl) | ((with_reducible apply a_pick1); rfl; first | rfl | assumption) | ((with_reducible apply a_pick0); rfl; first | rfl | assumption) | ((with_reducible apply a_pickN); rfl) | ((with_reducible apply a_condN); rfl) | ((with_reducible apply a_guardN); rfl) | ((with_reducible apply w_fad); rfl) | ((with_reducible apply a_fadI); rfl) | ((with_reducible apply w_load); rfl; rfl; rfl) | ((with_reducible apply w_loadI); rfl) | ((with_reducible apply w_loadA); rfl; rfl; first | exact Nat.le_refl _ | exact Nat.le_of_ble_eq_true rfl) | ((with_reducible apply a_eqA); rfl; rfl; rfl) | ((with_reducible apply a_loadAI); rfl; first | rfl | simp) | ((with_reducible apply w_new); first | rfl | simp) | ((with_reducible apply a_store); rfl; rfl; rfl; rfl; (first | exact Nat.le_refl _ | simp); (first | rfl | simp); (first | rfl | simp)) | ((with_reducible apply a_lenS); rfl; intro _) | ((with_reducible apply a_len); rfl; (first | rfl | simp); intro _) | ((with_reducible apply a_build); rfl) | ((with_reducible apply a_extr); rfl; rfl) | (refine iCall_con (by kernel_rfl) (con_rattr 3 na o' v f a b w (encXs l) pr (by omega) (by omega) (by omega)) ?_) | ((with_reducible apply a_cond); rfl) | ((with_reducible apply a_guard); rfl) | (with_reducible intro _))
    exact .pure (by simp) (by rw [txS, if_neg (by decide), if_neg (by decide), if_pos rfl])
  rw [if_neg h4] at ok
  simp only [Bool.and_eq_true, decide_eq_true_eq] at ok
  obtain ⟨⟨⟨⟨⟨rfl, rfl⟩, rfl⟩, hf⟩, hk⟩, ha⟩ := ok
  have okA : isNth k = true → okN a = true ∧ okN b = true := fun e => by
    rw [if_pos e, Bool.and_eq_true] at ha
    rw [okN_is, okN_is]; exact ha
  have hkd : ∀ j : Nat, j ≤ 10 → (kdL.map fun s => [AV.str s])[j]? = some [.str (kdL.getD j [])] := fun j hj => by
    match j, hj with
    | 0, _ | 1, _ | 2, _ | 3, _ | 4, _ | 5, _ | 6, _ | 7, _ | 8, _ | 9, _ | 10, _ => rfl
  have h5 := fun j => kdL_len j
  have h6 : ∀ j : Nat, j ≤ 1 → (fcL.map fun s => [AV.str s])[j]? = some [.str (fcL.getD j [])] := fun j hj => by
    match j, hj with
    | 0, _ | 1, _ => rfl
  rcases (show k = 4 ∨ k = 5 ∨ k = 6 ∨ k = 7 ∨ k = 8 ∨ k = 11 ∨ k = 12 ∨ k = 13 ∨ k = 14 ∨ k = 9 ∨ k = 10 by omega) with rfl | rfl | rfl | rfl | rfl | rfl | rfl | rfl | rfl | rfl | rfl
  · have h7 := h5 0
    repeat' (first | (with_reducible first | apply w_let | apply w_and | refine And.intro True.intro ?_) | ((with_reducible first | apply a_lss | apply a_leq | apply a_gtr | apply a_geq | apply a_eql | apply a_neq); rfl; rfl) | ((with_reducible first | apply a_eqlS | apply a_neqS | apply a_eqlB | apply a_neqB); rfl; rfl) | ((with_reducible apply w_add); rfl; rfl; first | assumption | (unfold inI; omega)) | ((with_reducible apply w_sub); rfl; rfl; first | assumption | (unfold inI; omega)) | ((with_reducible apply a_not); rfl) | ((with_reducible apply w_pick_t); rfl) | ((with_reducible apply w_pick_f); rfl) | ((with_reducible apply a_cond1); rfl; first | rfl | assumption) | ((with_reducible apply a_cond0); rfl; first | rfl | assumption) | ((with_reducible apply a_guard1); rfl; first | rfl | assumption) | ((with_reducible apply a_guard0); rfl; first | rfl | assumption) | ((with_reducible apply w_guard_u); rfl) | ((with_reducible apply a_pick1); rfl; first | rfl | assumption) | ((with_reducible apply a_pick0); rfl; first | rfl | assumption) | ((with_reducible apply a_pickN); rfl) | ((with_reducible apply a_condN); rfl) | ((with_reducible apply a_guardN); rfl) | ((with_reducible apply w_fad); rfl) | ((with_reducible apply a_fadI); rfl) | ((with_reducible apply w_load); rfl; rfl; rfl) | ((with_reducible apply w_loadI); rfl) | ((with_reducible apply w_loadA); rfl; rfl; first | exact Nat.le_refl _ | exact Nat.le_of_ble_eq_true rfl) | ((with_reducible apply a_eqA); rfl; rfl; rfl) | ((with_reducible apply a_loadAI); rfl; first | rfl | simp) | ((with_reducible apply w_new); first | rfl | simp) | ((with_reducible apply a_store); rfl; rfl; rfl; rfl; (first | exact Nat.le_refl _ | simp); (first | rfl | simp); (first | rfl | simp)) | ((with_reducible apply a_lenS); rfl; intro _) | ((with_reducible apply a_len); rfl; (first | rfl | simp); intro _) | ((with_reducible apply a_build); rfl) | ((with_reducible apply a_extr); rfl; rfl) | (refine iCall_con (by kernel_rfl) (con_rFirst 4 [] 0 [] f a b w (encXs l) pr) ?_) | (refine a_mkKd ?_) | (refine a_subU (c := ((0 : Nat) : Int)) (by decide) rfl rfl (by decide) ?_) | (refine a_idxU rfl rfl (hkd 0 (by omega)) ?_) | (refine iCall_con (by kernel_rfl) (hlist) ?_) | (refine a_addS rfl rfl rfl (by simp only [List.length_append, List.length_cons, List.length_nil]; unfold maxLen; omega) ?_) | ((with_reducible apply a_cond); rfl) | ((with_reducible apply a_guard); rfl) | (with_reducible intro _))
    exact .pure (by simp) (by rw [txS_bare _ _ _ _ _ _ _ _ (by decide) (by decide)]; rfl)
  · have h7 := h5 1
    repeat' (first | (with_reducible first | apply w_let | apply w_and | refine And.intro True.intro ?_) | ((with_reducible first | apply a_lss | apply a_leq | apply a_gtr | apply a_geq | apply a_eql | apply a_neq); rfl; rfl) | ((with_reducible first | apply a_eqlS | apply a_neqS | apply a_eqlB | apply a_neqB); rfl; rfl) | ((with_reducible apply w_add); rfl; rfl; first | assumption | (unfold inI; omega)) | ((with_reducible apply w_sub); rfl; rfl; first | assumption | (unfold inI; omega)) | ((with_reducible apply a_not); rfl) | ((with_reducible apply w_pick_t); rfl) | ((with_reducible apply w_pick_f); rfl) | ((with_reducible apply a_cond1); rfl; first | rfl | assumption) | ((with_reducible apply a_cond0); rfl; first | rfl | assumption) | ((with_reducible apply a_guard1); rfl; first | rfl | assumption) | ((with_reducible apply a_guard0); rfl; first | rfl | assumption) | ((with_reducible apply w_guard_u); rfl) | ((with_reducible apply a_pick1); rfl; first | rfl | assumption) | ((with_reducible apply a_pick0); rfl; first | rfl | assumption) | ((with_reducible apply a_pickN); rfl) | ((with_reducible apply a_condN); rfl) | ((with_reducible apply a_guardN); rfl) | ((with_reducible apply w_fad); rfl) | ((with_reducible apply a_fadI); rfl) | ((with_reducible apply w_load); rfl; rfl; rfl) | ((with_reducible apply w_loadI); rfl) | ((with_reducible apply w_loadA); rfl; rfl; first | exact Nat.le_refl _ | exact Nat.le_of_ble_eq_true rfl) | ((with_reducible apply a_eqA); rfl; rfl; rfl) | ((with_reducible apply a_loadAI); rfl; first | rfl | simp) | ((with_reducible apply w_new); first | rfl | simp) | ((with_reducible apply a_store); rfl; rfl; rfl; rfl; (first | exact Nat.le_refl _ | simp); (first | rfl | simp); (first | rfl | simp)) | ((with_reducible apply a_lenS); rfl; intro _) | ((with_reducible apply a_len); rfl; (first | rfl | simp); intro _) | ((with_reducible apply a_build); rfl) | ((with_reducible apply a_extr); rfl; rfl) | (refine iCall_con (by kernel_rfl) (con_rFirst 5 [] 0 [] f a b w (encXs l) pr) ?_) | (refine a_mkKd ?_) | (refine a_subU (c := ((1 : Nat) : Int)) (by decide) rfl rfl (by decide) ?_) | (refine a_idxU rfl rfl (hkd 1 (by omega)) ?_) | (refine iCall_con (by kernel_rfl) (hlist) ?_) | (refine a_addS rfl rfl rfl (by simp only [List.length_append, List.length_cons, List.length_nil]; unfold maxLen; omega) ?_) | ((with_reducible apply a_cond); rfl) | ((with_reducible apply a_guard); rfl) | (with_reducible intro _))
    exact .pure (by simp) (by rw [txS_bare _ _ _ _ _ _ _ _ (by decide) (by decide)]; rfl)
  · have h7 := h5 2
    repeat' (first | (with_reducible first | apply w_let | apply w_and | refine And.intro True.intro ?_) | ((with_reducible first | apply a_lss | apply a_leq | apply a_gtr | apply a_geq | apply a_eql | apply a_neq); rfl; rfl) | ((with_reducible first | apply a_eqlS | apply a_neqS | apply a_eqlB | apply a_neqB); rfl; rfl) | ((with_reducible apply w_add); rfl; rfl; first | assumption | (unfold inI; omega)) | ((with_reducible apply w_sub); rfl; rfl; first | assumption | (unfold inI; omega)) | ((with_reducible apply a_not); rfl) | ((with_reducible apply w_pick_t); rfl) | ((with_reducible apply w_pick_f); rfl) | ((with_reducible apply a_cond1); rfl; first | rfl | assumption) | ((with_reducible apply a_cond0); rfl; first | rfl | assumption) | ((with_reducible apply a_guard1); rfl; first | rfl | assumption) | ((with_reducible apply a_guard0); rfl; first | rfl | assumption) | ((with_reducible apply w_guard_u); rfl) | ((with_reducible apply a_pick1); rfl; first | rfl | assumption) | ((with_reducible apply a_pick0); rfl; first | rfl | assumption) | ((with_reducible apply a_pickN); rfl) | ((with_reducible apply a_condN); rfl) | ((with_reducible apply a_guardN); rfl) | ((with_reducible apply w_fad); rfl) | ((with_reducible apply a_fadI); rfl) | ((with_reducible apply w_load); rfl; rfl; rfl) | ((with_reducible apply w_loadI); rfl) | ((with_reducible apply w_loadA); rfl; rfl; first | exact Nat.le_refl _ | exact Nat.le_of_ble_eq_true rfl) | ((with_reducible apply a_eqA); rfl; rfl; rfl) | ((with_reducible apply a_loadAI); rfl; first | rfl | simp) | ((with_reducible apply w_new); first | rfl | simp) | ((with_reducible apply a_store); rfl; rfl; rfl; rfl; (first | exact Nat.le_refl _ | simp); (first | rfl | simp); (first | rfl | simp)) | ((with_reducible apply a_lenS); rfl; intro _) | ((with_reducible apply a_len); rfl; (first | rfl | simp); intro _) | ((with_reducible apply a_build); rfl) | ((with_reducible apply a_extr); rfl; rfl) | (refine iCall_con (by kernel_rfl) (con_rFirst 6 [] 0 [] f a b w (encXs l) pr) ?_) | (refine a_mkKd ?_) | (refine a_subU (c := ((2 : Nat) : Int)) (by decide) rfl rfl (by decide) ?_) | (refine a_idxU rfl rfl (hkd 2 (by omega)) ?_) | (refine iCall_con (by kernel_rfl) (hlist) ?_) | (refine a_addS rfl rfl rfl (by simp only [List.length_append, List.length_cons, List.length_nil]; unfold maxLen; omega) ?_) | ((with_reducible apply a_cond); rfl) | ((with_reducible apply a_guard); rfl) | (with_reducible intro _))
    exact .pure (by simp) (by rw [txS_bare _ _ _ _ _ _ _ _ (by decide) (by decide)]; rfl)
  · have h7 := h5 3
    repeat' (first | (with_reducible first | apply w_let | apply w_and | refine And.intro True.intro ?_) | ((with_reducible first | apply a_lss | apply a_leq | apply a_gtr | apply a_geq | apply a_eql | apply a_neq); rfl; rfl) | ((with_reducible first | apply a_eqlS | apply a_neqS | apply a_eqlB | apply a_neqB); rfl; rfl) | ((with_reducible apply w_add); rfl; rfl; first | assumption | (unfold inI; omega)) | ((with_reducible apply w_sub); rfl; rfl; first | assumption | (unfold inI; omega)) | ((with_reducible apply a_not); rfl) | ((with_reducible apply w_pick_t); rfl) | ((with_reducible apply w_pick_f); rfl) | ((with_reducible apply a_cond1); rfl; first | rfl | assumption) | ((with_reducible apply a_cond0); rfl; first | rfl | assumption) | ((with_reducible apply a_guard1); rfl; first | rfl | assumption) | ((with_reducible apply a_guard0); rfl; first | rfl | assumption) | ((with_reducible apply w_guard_u); rfl) | ((with_reducible apply a_pick1); rfl; first | rfl | assumption) | ((with_reducible apply a_pick0); rfl; first | rfl | assumption) | ((with_reducible apply a_pickN); rfl) | ((with_reducible apply a_condN); rfl) | ((with_reducible apply a_guardN); rfl) | ((with_reducible apply w_fad); rfl) | ((with_reducible apply a_fadI); rfl) | ((with_reducible apply w_load); rfl; rfl; rfl) | ((with_reducible apply w_loadI); rfl) | ((with_reducible apply w_loadA); rfl; rfl; first | exact Nat.le_refl _ | exact Nat.le_of_ble_eq_true rfl) | ((with_reducible apply a_eqA); rfl; rfl; rfl) | ((with_reducible apply a_loadAI); rfl; first | rfl | simp) | ((with_reducible apply w_new); first | rfl | simp) | ((with_reducible apply a_store); rfl; rfl; rfl; rfl; (first | exact Nat.le_refl _ | simp); (first | rfl | simp); (first | rfl | simp)) | ((with_reducible apply a_lenS); rfl; intro _) | ((with_reducible apply a_len); rfl; (first | rfl | simp); intro _) | ((with_reducible apply a_build); rfl) | ((with_reducible apply a_extr); rfl; rfl) | (refine iCall_con (by kernel_rfl) (con_rFirst 7 [] 0 [] f a b w (encXs l) pr) ?_) | (refine a_mkKd ?_) | (refine a_subU (c := ((3 : Nat) : Int)) (by decide) rfl rfl (by decide) ?_) | (refine a_idxU rfl rfl (hkd 3 (by omega)) ?_) | (refine iCall_con (by kernel_rfl) (hlist) ?_) | (refine a_addS rfl rfl rfl (by simp only [List.length_append, List.length_cons, List.length_nil]; unfold maxLen; omega) ?_) | ((with_reducible apply a_cond); rfl) | ((with_reducible apply a_guard); rfl) | (with_reducible intro _))
    exact .pure (by simp) (by rw [txS_bare _ _ _ _ _ _ _ _ (by decide) (by decide)]; rfl)
  · have h7 := h5 4
    repeat' (first | (with_reducible first | apply w_let | apply w_and | refine And.intro True.intro ?_) | ((with_reducible first | apply a_lss | apply a_leq | apply a_gtr | apply a_geq | apply a_eql | apply a_neq); rfl; rfl) | ((with_reducible first | apply a_eqlS | apply a_neqS | apply a_eqlB | apply a_neqB); rfl; rfl) | ((with_reducible apply w_add); rfl; rfl; first | assumption | (unfold inI; omega)) | ((with_reducible apply w_sub); rfl; rfl; first | assumption | (unfold inI; omega)) | ((with_reducible apply a_not); rfl) | ((with_reducible apply w_pick_t); rfl) | ((with_reducible apply w_pick_f); rfl) | ((with_reducible apply a_cond1); rfl; first | rfl | assumption) | ((with_reducible apply a_cond0); rfl; first | rfl | assumption) | ((with_reducible apply a_guard1); rfl; first | rfl | assumption) | ((with_reducible apply a_guard0); rfl; first | rfl | assumption) | ((with_reducible apply w_guard_u); rfl) | ((with_reducible apply a_pick1); rfl; first | rfl | assumption) | ((with_reducible apply a_pick0); rfl; first | rfl | assumption) | ((with_reducible apply a_pickN); rfl) | ((with_reducible apply a_condN); rfl) | ((with_reducible apply a_guardN); rfl) | ((with_reducible apply w_fad); rfl) | ((with_reducible apply a_fadI); rfl) | ((with_reducible apply w_load); rfl; rfl; rfl) | ((with_reducible apply w_loadI); rfl) | ((with_reducible apply w_loadA); rfl; rfl; first | exact Nat.le_refl _ | exact Nat.le_of_ble_eq_true rfl) | ((with_reducible apply a_eqA); rfl; rfl; rfl) | ((with_reducible apply a_loadAI); rfl; first | rfl | simp) | ((with_reducible apply w_new); first | rfl | simp) | ((with_reducible apply a_store); rfl; rfl; rfl; rfl; (first | exact Nat.le_refl _ | simp); (first | rfl | simp); (first | rfl | simp)) | ((with_reducible apply a_lenS); rfl; intro _) | ((with_reducible apply a_len); rfl; (first | rfl | simp); intro _) | ((with_reducible apply a_build); rfl) | ((with_reducible apply a_extr); rfl; rfl) | (refine iCall_con (by kernel_rfl) (con_rFirst 8 [] 0 [] f a b w (encXs l) pr) ?_) | (refine a_mkKd ?_) | (refine a_subU (c := ((4 : Nat) : Int)) (by decide) rfl rfl (by decide) ?_) | (refine a_idxU rfl rfl (hkd 4 (by omega)) ?_) | (refine iCall_con (by kernel_rfl) (hlist) ?_) | (refine a_addS rfl rfl rfl (by simp only [List.length_append, List.length_cons, List.length_nil]; unfold maxLen; omega) ?_) | ((with_reducible apply a_cond); rfl) | ((with_reducible apply a_guard); rfl) | (with_reducible intro _))
    exact .pure (by simp) (by rw [txS_bare _ _ _ _ _ _ _ _ (by decide) (by decide)]; rfl)
  · have h7 := h5 7
    repeat' (first | (with_reducible first | apply w_let | apply w_and | refine And.intro True.intro ?_) | ((with_reducible first | apply a_lss | apply a_leq | apply a_gtr | apply a_geq | apply a_eql | apply a_neq); rfl; rfl) | ((with_reducible first | apply a_eqlS | apply a_neqS | apply a_eqlB | apply a_neqB); rfl; rfl) | ((with_reducible apply w_add); rfl; rfl; first | assumption | (unfold inI; omega)) | ((with_reducible apply w_sub); rfl; rfl; first | assumption | (unfold inI; omega)) | ((with_reducible apply a_not); rfl) | ((with_reducible apply w_pick_t); rfl) | ((with_reducible apply w_pick_f); rfl) | ((with_reducible apply a_cond1); rfl; first | rfl | assumption) | ((with_reducible apply a_cond0); rfl; first | rfl | assumption) | ((with_reducible apply a_guard1); rfl; first | rfl | assumption) | ((with_reducible apply a_guard0); rfl; first | rfl | assumption) | ((with_reducible apply w_guard_u); rfl) | ((with_reducible apply a_pick1); rfl; first | rfl | assumption) | ((with_reducible apply a_pick0); rfl; first | rfl | assumption) | ((with_reducible apply a_pickN); rfl) | ((with_reducible apply a_condN); rfl) | ((with_reducible apply a_guardN); rfl) | ((with_reducible apply w_fad); rfl) | ((with_reducible apply a_fadI); rfl) | ((with_reducible apply w_load); rfl; rfl; rfl) | ((with_reducible apply w_loadI); rfl) | ((with_reducible apply w_loadA); rfl; rfl; first | exact Nat.le_refl _ | exact Nat.le_of_ble_eq_true rfl) | ((with_reducible apply a_eqA); rfl; rfl; rfl) | ((with_reducible apply a_loadAI); rfl; first | rfl | simp) | ((with_reducible apply w_new); first | rfl | simp) | ((with_reducible apply a_store); rfl; rfl; rfl; rfl; (first | exact Nat.le_refl _ | simp); (first | rfl | simp); (first | rfl | simp)) | ((with_reducible apply a_lenS); rfl; intro _) | ((with_reducible apply a_len); rfl; (first | rfl | simp); intro _) | ((with_reducible apply a_build); rfl) | ((with_reducible apply a_extr); rfl; rfl) | (refine iCall_con (by kernel_rfl) (con_rFirst 11 [] 0 [] f a b w (encXs l) pr) ?_) | (refine a_mkKd ?_) | (refine a_subU (c := ((7 : Nat) : Int)) (by decide) rfl rfl (by decide) ?_) | (refine a_idxU rfl rfl (hkd 7 (by omega)) ?_) | (refine iCall_con (by kernel_rfl) (hlist) ?_) | (refine a_addS rfl rfl rfl (by simp only [List.length_append, List.length_cons, List.length_nil]; unfold maxLen; omega) ?_) | ((with_reducible apply a_cond); rfl) | ((with_reducible apply a_guard); rfl) | (with_reducible intro _))
    exact .pure (by simp) (by rw [txS_lst _ _ _ _ _ _ _ _ (by decide)]; rfl)
  · have h7 := h5 8
    repeat' (first | (with_reducible first | apply w_let | apply w_and | refine And.intro True.intro ?_) | ((with_reducible first | apply a_lss | apply a_leq | apply a_gtr | apply a_geq | apply a_eql | apply a_neq); rfl; rfl) | ((with_reducible first | apply a_eqlS | apply a_neqS | apply a_eqlB | apply a_neqB); rfl; rfl) | ((with_reducible apply w_add); rfl; rfl; first | assumption | (unfold inI; omega)) | ((with_reducible apply w_sub); rfl; rfl; first | assumption | (unfold inI; omega)) | ((with_reducible apply a_not); rfl) | ((with_reducible apply w_pick_t); rfl) | ((with_reducible apply w_pick_f); rfl) | ((with_reducible apply a_cond1); rfl; first | rfl | assumption) | ((with_reducible apply a_cond0); rfl; first | rfl | assumption) | ((with_reducible apply a_guard1); rfl; first | rfl | assumption) | ((with_reducible apply a_guard0); rfl; first | rfl | assumption) | ((with_reducible apply w_guard_u); rfl) | ((with_reducible apply a_pick1); rfl; first | rfl | assumption) | ((with_reducible apply a_pick0); rfl; first | rfl | assumption) | ((with_reducible apply a_pickN); rfl) | ((with_reducible apply a_condN); rfl) | ((with_reducible apply a_guardN); rfl) | ((with_reducible apply w_fad); rfl) | ((with_reducible apply a_fadI); rfl) | ((with_reducible apply w_load); rfl; rfl; rfl) | ((with_reducible apply w_loadI); rfl) | ((with_reducible apply w_loadA); rfl; rfl; first | exact Nat.le_refl _ | exact Nat.le_of_ble_eq_true rfl) | ((with_reducible apply a_eqA); rfl; rfl; rfl) | ((with_reducible apply a_loadAI); rfl; first | rfl | simp) | ((with_reducible apply w_new); first | rfl | simp) | ((with_reducible apply a_store); rfl; rfl; rfl; rfl; (first | exact Nat.le_refl _ | simp); (first | rfl | simp); (first | rfl | simp)) | ((with_reducible apply a_lenS); rfl; intro _) | ((with_reducible apply a_len); rfl; (first | rfl | simp); intro _) | ((with_reducible apply a_build); rfl) | ((with_reducible apply a_extr); rfl; rfl) | (refine iCall_con (by kernel_rfl) (con_rFirst 12 [] 0 [] f a b w (encXs l) pr) ?_) | (refine a_mkKd ?_) | (refine a_subU (c := ((8 : Nat) : Int)) (by decide) rfl rfl (by decide) ?_) | (refine a_idxU rfl rfl (hkd 8 (by omega)) ?_) | (refine iCall_con (by kernel_rfl) (hlist) ?_) | (refine a_addS rfl rfl rfl (by simp only [List.length_append, List.length_cons, List.length_nil]; unfold maxLen; omega) ?_) | ((with_reducible apply a_cond); rfl) | ((with_reducible apply a_guard); rfl) | (with_reducible intro _))
    exact .pure (by simp) (by rw [txS_lst _ _ _ _ _ _ _ _ (by decide)]; rfl)
  · have h7 := h5 9
    repeat' (first | (with_reducible first | apply w_let | apply w_and | refine And.intro True.intro ?_) | ((with_reducible first | apply a_lss | apply a_leq | apply a_gtr | apply a_geq | apply a_eql | apply a_neq); rfl; rfl) | ((with_reducible first | apply a_eqlS | apply a_neqS | apply a_eqlB | apply a_neqB); rfl; rfl) | ((with_reducible apply w_add); rfl; rfl; first | assumption | (unfold inI; omega)) | ((with_reducible apply w_sub); rfl; rfl; first | assumption | (unfold inI; omega)) | ((with_reducible apply a_not); rfl) | ((with_reducible apply w_pick_t); rfl) | ((with_reducible apply w_pick_f); rfl) | ((with_reducible apply a_cond1); rfl; first | rfl | assumption) | ((with_reducible apply a_cond0); rfl; first | rfl | assumption) | ((with_reducible apply a_guard1); rfl; first | rfl | assumption) | ((with_reducible apply a_guard0); rfl; first | rfl | assumption) | ((with_reducible apply w_guard_u); rfl) | ((with_reducible apply a_pick1); rfl; first | rfl | assumption) | ((with_reducible apply a_pick0); rfl; first | rfl | assumption) | ((with_reducible apply a_pickN); rfl) | ((with_reducible apply a_condN); rfl) | ((with_reducible apply a_guardN); rfl) | ((with_reducible apply w_fad); rfl) | ((with_reducible apply a_fadI); rfl) | ((with_reducible apply w_load); rfl; rfl; rfl) | ((with_reducible apply w_loadI); rfl) | ((with_reducible apply w_loadA); rfl; rfl; first | exact Nat.le_refl _ | exact Nat.le_of_ble_eq_true rfl) | ((with_reducible apply a_eqA); rfl; rfl; rfl) | ((with_reducible apply a_loadAI); rfl; first | rfl | simp) | ((with_reducible apply w_new); first | rfl | simp) | ((with_reducible apply a_store); rfl; rfl; rfl; rfl; (first | exact Nat.le_refl _ | simp); (first | rfl | simp); (first | rfl | simp)) | ((with_reducible apply a_lenS); rfl; intro _) | ((with_reducible apply a_len); rfl; (first | rfl | simp); intro _) | ((with_reducible apply a_build); rfl) | ((with_reducible apply a_extr); rfl; rfl) | (refine iCall_con (by kernel_rfl) (con_rFirst 13 [] 0 [] f a b w (encXs l) pr) ?_) | (refine a_mkKd ?_) | (refine a_subU (c := ((9 : Nat) : Int)) (by decide) rfl rfl (by decide) ?_) | (refine a_idxU rfl rfl (hkd 9 (by omega)) ?_) | (refine iCall_con (by kernel_rfl) (hlist) ?_) | (refine a_addS rfl rfl rfl (by simp only [List.length_append, List.length_cons, List.length_nil]; unfold maxLen; omega) ?_) | ((with_reducible apply a_cond); rfl) | ((with_reducible apply a_guard); rfl) | (with_reducible intro _))
    exact .pure (by simp) (by rw [txS_lst _ _ _ _ _ _ _ _ (by decide)]; rfl)
  · have h7 := h5 10
    repeat' (first | (with_reducible first | apply w_let | apply w_and | refine And.intro True.intro ?_) | ((with_reducible first | apply a_lss | apply a_leq | apply a_gtr | apply a_geq | apply a_eql | apply a_neq); rfl; rfl) | ((with_reducible first | apply a_eqlS | apply a_neqS | apply a_eqlB | apply a_neqB); rfl; rfl) | ((with_reducible apply w_add); rfl; rfl; first | assumption | (unfold inI; omega)) | ((with_reducible apply w_sub); rfl; rfl; first | assumption | (unfold inI; omega)) | ((with_reducible apply a_not); rfl) | ((with_reducible apply w_pick_t); rfl) | ((with_reducible apply w_pick_f); rfl) | ((with_reducible apply a_cond1); rfl; first | rfl | assumption) | ((with_reducible apply a_cond0); rfl; first | rfl | assumption) | ((with_reducible apply a_guard1); rfl; first | rfl | assumption) | ((with_reducible apply a_guard0); rfl; first | rfl | assumption) | ((with_reducible apply w_guard_u); rfl) | ((with_reducible apply a_pick1); rfl; first | rfl | assumption) | ((with_reducible apply a_pick0); rfl; first | rfl | assumption) | ((with_reducible apply a_pickN); rfl) | ((with_reducible apply a_condN); rfl) | ((with_reducible apply a_guardN); rfl) | ((with_reducible apply w_fad); rfl) | ((with_reducible apply a_fadI); rfl) | ((with_reducible apply w_load); rfl; rfl; rfl) | ((with_reducible apply w_loadI); rfl) | ((with_reducible apply w_loadA); rfl; rfl; first | exact Nat.le_refl _ | exact Nat.le_of_ble_eq_true rfl) | ((with_reducible apply a_eqA); rfl; rfl; rfl) | ((with_reducible apply a_loadAI); rfl; first | rfl | simp) | ((with_reducible apply w_new); first | rfl | simp) | ((with_reducible apply a_store); rfl; rfl; rfl; rfl; (first | exact Nat.le_refl _ | simp); (first | rfl | simp); (first | rfl | simp)) | ((with_reducible apply a_lenS); rfl; intro _) | ((with_reducible apply a_len); rfl; (first | rfl | simp); intro _) | ((with_reducible apply a_build); rfl) | ((with_reducible apply a_extr); rfl; rfl) | (refine iCall_con (by kernel_rfl) (con_rFirst 14 [] 0 [] f a b w (encXs l) pr) ?_) | (refine a_mkKd ?_) | (refine a_subU (c := ((10 : Nat) : Int)) (by decide) rfl rfl (by decide) ?_) | (refine a_idxU rfl rfl (hkd 10 (by omega)) ?_) | (refine iCall_con (by kernel_rfl) (hlist) ?_) | (refine a_addS rfl rfl rfl (by simp only [List.length_append, List.length_cons, List.length_nil]; unfold maxLen; omega) ?_) | ((with_reducible apply a_cond); rfl) | ((with_reducible apply a_guard); rfl) | (with_reducible intro _))
    exact .pure (by simp) (by rw [txS_lst _ _ _ _ _ _ _ _ (by decide)]; rfl)
  · have h7 := h5 5
    obtain ⟨hA, hB⟩ := okA rfl
    have h8 := anbT_len a b hA hB
    repeat' (first | (with_reducible first | apply w_let | apply w_and | refine And.intro True.intro ?_) | ((with_reducible first | apply a_lss | apply a_leq | apply a_gtr | apply a_geq | apply a_eql | apply a_neq); rfl; rfl) | ((with_reducible first | apply a_eqlS | apply a_neqS | apply a_eqlB | apply a_neqB); rfl; rfl) | ((with_reducible apply w_add); rfl; rfl; first | assumption | (unfold inI; omega)) | ((with_reducible apply w_sub); rfl; rfl; first | assumption | (unfold inI; omega)) | ((with_reducible apply a_not); rfl) | ((with_reducible apply w_pick_t); rfl) | ((with_reducible apply w_pick_f); rfl) | ((with_reducible apply a_cond1); rfl; first | rfl | assumption) | ((with_reducible apply a_cond0); rfl; first | rfl | assumption) | ((with_reducible apply a_guard1); rfl; first | rfl | assumption) | ((with_reducible apply a_guard0); rfl; first | rfl | assumption) | ((with_reducible apply w_guard_u); rfl) | ((with_reducible apply a_pick1); rfl; first | rfl | assumption) | ((with_reducible apply a_pick0); rfl; first | rfl | assumption) | ((with_reducible apply a_pickN); rfl) | ((with_reducible apply a_condN); rfl) | ((with_reducible apply a_guardN); rfl) | ((with_reducible apply w_fad); rfl) | ((with_reducible apply a_fadI); rfl) | ((with_reducible apply w_load); rfl; rfl; rfl) | ((with_reducible apply w_loadI); rfl) | ((with_reducible apply w_loadA); rfl; rfl; first | exact Nat.le_refl _ | exact Nat.le_of_ble_eq_true rfl) | ((with_reducible apply a_eqA); rfl; rfl; rfl) | ((with_reducible apply a_loadAI); rfl; first | rfl | simp) | ((with_reducible apply w_new); first | rfl | simp) | ((with_reducible apply a_store); rfl; rfl; rfl; rfl; (first | exact Nat.le_refl _ | simp); (first | rfl | simp); (first | rfl | simp)) | ((with_reducible apply a_lenS); rfl; intro _) | ((with_reducible apply a_len); rfl; (first | rfl | simp); intro _) | ((with_reducible apply a_build); rfl) | ((with_reducible apply a_extr); rfl; rfl) | (refine iCall_con (by kernel_rfl) (con_rFirst 9 [] 0 [] f a b w (encXs l) pr) ?_) | (refine a_mkKd ?_) | (refine a_mkFc ?_) | (refine a_subU (c := ((5 : Nat) : Int)) (by decide) rfl rfl (by decide) ?_) | (refine a_subU (c := ((0 : Nat) : Int)) (by decide) rfl rfl (by decide) ?_) | (refine a_idxU rfl rfl (hkd 5 (by omega)) ?_) | (refine a_idxU rfl rfl (h6 0 (by omega)) ?_) | (refine iCall_con (by kernel_rfl) (con_written a b hA hB) ?_) | (refine iCall_con (by kernel_rfl) (hlist) ?_) | (refine a_addS rfl rfl rfl (by simp only [List.length_append, List.length_cons, List.length_nil]; unfold maxLen; omega) ?_) | ((with_reducible apply a_cond); rfl) | ((with_reducible apply a_guard); rfl) | (with_reducible intro _))
    · rename_i e
      exact .pure (by simp) (by rw [txS_frst _ _ _ _ _ (by decide) e]; rfl)
    · rename_i e1 e2
      subst e2
      exact .pure (by simp) (by rw [txS_nth _ _ _ _ _ _ (by decide) e1 rfl ⟨hA, hB⟩]; simp)
    · rename_i e1 e2
      subst e2
      exact .pure (by simp) (by rw [txS_nth _ _ _ _ _ _ (by decide) e1 rfl ⟨hA, hB⟩]; simp)
  · have h7 := h5 6
    obtain ⟨hA, hB⟩ := okA rfl
    have h8 := anbT_len a b hA hB
    repeat' (first | (with_reducible first | apply w_let | apply w_and | refine And.intro True.intro ?_) | ((with_reducible first | apply a_lss | apply a_leq | apply a_gtr | apply a_geq | apply a_eql | apply a_neq); rfl; rfl) | ((with_reducible first | apply a_eqlS | apply a_neqS | apply a_eqlB | apply a_neqB); rfl; rfl) | ((with_reducible apply w_add); rfl; rfl; first | assumption | (unfold inI; omega)) | ((with_reducible apply w_sub); rfl; rfl; first | assumption | (unfold inI; omega)) | ((with_reducible apply a_not); rfl) | ((with_reducible apply w_pick_t); rfl) | ((with_reducible apply w_pick_f); rfl) | ((with_reducible apply a_cond1); rfl; first | rfl | assumption) | ((with_reducible apply a_cond0); rfl; first | rfl | assumption) | ((with_reducible apply a_guard1); rfl; first | rfl | assumption) | ((with_reducible apply a_guard0); rfl; first | rfl | assumption) | ((with_reducible apply w_guard_u); rfl) | ((with_reducible apply a_pick1); rfl; first | rfl | assumption) | ((with_reducible apply a_pick0); rfl; first | rfl | assumption) | ((with_reducible apply a_pickN); rfl) | ((with_reducible apply a_condN); rfl) | ((with_reducible apply a_guardN); rfl) | ((with_reducible apply w_fad); rfl) | ((with_reducible apply a_fadI); rfl) | ((with_reducible apply w_load); rfl; rfl; rfl) | ((with_reducible apply w_loadI); rfl) | ((with_reducible apply w_loadA); rfl; rfl; first | exact Nat.le_refl _ | exact Nat.le_of_ble_eq_true rfl) | ((with_reducible apply a_eqA); rfl; rfl; rfl) | ((with_reducible apply a_loadAI); rfl; first | rfl | simp) | ((with_reducible apply w_new); first | rfl | simp) | ((with_reducible apply a_store); rfl; rfl; rfl; rfl; (first | exact Nat.le_refl _ | simp); (first | rfl | simp); (first | rfl | simp)) | ((with_reducible apply a_lenS); rfl; intro _) | ((with_reducible apply a_len); rfl; (first | rfl | simp); intro _) | ((with_reducible apply a_build); rfl) | ((with_reducible apply a_extr); rfl; rfl) | (refine iCall_con (by kernel_rfl) (con_rFirst 10 [] 0 [] f a b w (encXs l) pr) ?_) | (refine a_mkKd ?_) | (refine a_mkFc ?_) | (refine a_subU (c := ((6 : Nat) : Int)) (by decide) rfl rfl (by decide) ?_) | (refine a_subU (c := ((1 : Nat) : Int)) (by decide) rfl rfl (by decide) ?_) | (refine a_idxU rfl rfl (hkd 6 (by omega)) ?_) | (refine a_idxU rfl rfl (h6 1 (by omega)) ?_) | (refine iCall_con (by kernel_rfl) (con_written a b hA hB) ?_) | (refine iCall_con (by kernel_rfl) (hlist) ?_) | (refine a_addS rfl rfl rfl (by simp only [List.length_append, List.length_cons, List.length_nil]; unfold maxLen; omega) ?_) | ((with_reducible apply a_cond); rfl) | ((with_reducible apply a_guard); rfl) | (with_reducible intro _))
    · rename_i e
      exact .pure (by simp) (by rw [txS_frst _ _ _ _ _ (by decide) e]; rfl)
    · rename_i e1 e2
      subst e2
      exact .pure (by simp) (by rw [txS_nth _ _ _ _ _ _ (by decide) e1 rfl ⟨hA, hB⟩]; simp)
    · rename_i e1 e2
      subst e2
      exact .pure (by simp) (by rw [txS_nth _ _ _ _ _ _ (by decide) e1 rfl ⟨hA, hB⟩]; simp)
end Go.Proofs.YthblflmjingcfaaGreatDoor
end

section
namespace Go.Proofs.YthblflmjingcfaaGreatDoor
open Go Go.Aw Go.Sel
set_option maxRecDepth 100000
theorem a_idxN {α : Type} {m : Nat} {x i : AV} {l : List α} {rows : List (List AV)} {f : α → List AV} {k : IntKind} {j : Int} {n : Nat} {a : α} {K : AV → Prop} (e : x = .sl m rows) (hr : rows = l.map f) (ei : i = .v (.int k j)) (hj : j = n) (ha : l[n]? = some a) (q : K (.ip (f a))) : iIdxP m x i K := by
  subst hj; subst hr
  exact a_idxU e ei (by rw [List.getElem?_map, ha]; rfl) q
theorem zX_mem {l : List Cx} {i : Nat} {x : Cx} (h : l[i]? = some x) : zX x ≤ zXs l := by
  induction l generalizing i with
  | nil => simp at h
  | cons a l ih =>
    rw [zXs]
    cases i with
    | zero => simp at h; subst h; omega
    | succ i => have := ih (i := i) (by simpa using h); omega
theorem zP_mem {l : List Cp} {i : Nat} {x : Cp} (h : l[i]? = some x) : zP x ≤ zPs l := by
  induction l generalizing i with
  | nil => simp at h
  | cons a l ih =>
    rw [zPs]
    cases i with
    | zero => simp at h; subst h; omega
    | succ i => have := ih (i := i) (by simpa using h); omega
theorem zS_mem {l : List Sm} {i : Nat} {x : Sm} (h : l[i]? = some x) : zS x ≤ zSs l := by
  induction l generalizing i with
  | nil => simp at h
  | cons a l ih =>
    rw [zSs]
    cases i with
    | zero => simp at h; subst h; omega
    | succ i => have := ih (i := i) (by simpa using h); omega
theorem all_at {α : Type} {p : α → Bool} {l : List α} {i : Nat} {x : α} (h : l.all p = true) (hx : l[i]? = some x) : p x = true :=
  List.all_eq_true.1 h x (List.mem_of_getElem? hx)
theorem lenS_mono (ts : List Str) (k : Nat) : lenS (ts.take k) ≤ lenS ts := by
  by_cases h : k ≤ ts.length
  · exact lenS_take ts k h
  · rw [List.take_of_length_le (by omega)]; exact Nat.le_refl _
theorem flat_take (ts : List Str) (k : Nat) : (ts.take k).flatten.length ≤ lenS ts := Nat.le_trans (flat_len _) (lenS_mono ts k)
variable [MaxL]
theorem rwL_of {n : Nat} (hn : n ≤ 2 ^ 28) (hS : RwS n) : RwL n := by
  intro l hz hg d has rel ok
  rw [gXs_all] at hg
  rw [okXs_all] at ok
  have hxs := txXs_len l
  have hlen : (txXs l).length = l.length := by rw [txXs_map, List.length_map]
  have hJ : ∀ i, i ≤ l.length → (joinK sepC (txXs l) i).length ≤ 100 * n := fun i hi => by
    have h1 := joinK_len sepC_len (txXs l) i (by omega)
    have h2 := lenS_mono (txXs l) i
    omega
  refine (V22 _).gives (by simp [pureXs]) (by simp) ?_
  unfold W22
  refine iLoop_of (α := Nat) (fun i => i ≤ l.length) (fun i => [.str (joinK sepC (txXs l) i), int i]) (fun _ => []) (fun i => l.length - i) 0 (by simp) (by simpa [joinK] using Wk.refl 0 [AV.str [], int 0] [] (Nat.zero_le _)) ?_
  intro i hi
  refine a_len (n := l.length) rfl (by simp [encXs_map]) fun hml => ?_
  have hji := hJ i hi
  by_cases q : i < l.length
  · obtain ⟨x, hx⟩ : ∃ x, l[i]? = some x := ⟨l[i], List.getElem?_eq_getElem q⟩
    obtain ⟨ld, ps, cs⟩ := x
    have okx := all_at ok hx
    have gx := all_at hg hx
    have zx := zX_mem hx
    rw [okX] at okx
    rw [gX, gPs_all] at gx
    rw [zX] at zx
    simp only [Bool.and_eq_true, decide_eq_true_eq] at okx
    obtain ⟨⟨⟨⟨⟨_, okl⟩, okc⟩, okp⟩, okcs⟩, okps⟩ := okx
    rw [okPs_all] at okps
    have hps := txPs_len ps
    have hpl : (txPs ps).length = ps.length := by rw [txPs_map, List.length_map]
    have hs3 := sepC_len i
    have hin : inI ((i : Int) + 1) := by unfold inI maxLen at *; omega
    refine a_lss rfl rfl ?_
    refine a_cond1 rfl (decide_eq_true (by omega)) ?_
    refine w_join [.str (joinK sepC (txXs l) i ++ sepC i)] [] ?_ (fun F hF => ?_)
    rotate_left
    · refine a_gtr rfl rfl ?_
      refine a_cond rfl (fun e => ?_) fun e => ?_
      · have e : i ≠ 0 := by have := of_decide_eq_true e; omega
        refine a_addS rfl rfl rfl (by simp only [List.length_append, List.length_cons, List.length_nil]; unfold maxLen; omega) ?_
        refine w_and ?_
        rw [sepC, if_neg e] at hF
        exact hF
      · have e : i = 0 := by have := of_decide_eq_false e; omega
        refine w_and ?_
        rw [sepC, if_pos e, List.append_nil] at hF
        exact hF
    have hld := mkL_len ld.toNat
    refine w_join [.str (joinK sepC (txXs l) i ++ sepC i ++ (if 1 < ld then (mkL.getD ld.toNat []).drop 1 else []))] [] ?_ (fun F hF => ?_)
    rotate_left
    · refine a_idxN rfl (encXs_map l) rfl rfl hx ?_
      refine a_fadI rfl ?_
      refine w_loadI rfl ?_
      refine a_gtr rfl rfl ?_
      refine a_cond rfl (fun e => ?_) fun e => ?_
      · have e : 1 < ld := by simpa using e
        obtain ⟨c, rfl⟩ := Int.eq_ofNat_of_zero_le (show 0 ≤ ld by omega)
        refine a_idxN rfl (encXs_map l) rfl rfl hx ?_
        refine a_fadI rfl ?_
        refine w_loadI rfl ?_
        refine iCall_con (by kernel_rfl) (con_rmark c (by omega)) ?_
        have hmk : 1 ≤ (mkL.getD c []).length := by
          match c, e, okl with
          | 2, _, _ | 3, _, _ | 4, _, _ => decide
          | 0, h, _ | 1, h, _ => exact absurd h (by decide)
          | c + 5, _, h => exact absurd h (by omega)
        refine a_slS (a := 1) (b := (mkL.getD c []).length) rfl rfl rfl hmk (Nat.le_refl _) (by rw [List.take_length]) ?_
        refine a_addS rfl rfl rfl (by simp only [List.length_append, List.length_drop, List.length_cons, List.length_nil, Int.toNat_natCast] at *; unfold maxLen; omega) ?_
        refine w_and ?_
        rw [if_pos e] at hF
        exact hF
      · have e : ¬ 1 < ld := by simpa using e
        refine w_and ?_
        rw [if_neg e, List.append_nil] at hF
        exact hF
    have hA : (joinK sepC (txXs l) i ++ sepC i ++ (if 1 < ld then (mkL.getD ld.toNat []).drop 1 else [])).length ≤ 100 * n + 6 := by
      rw [List.length_append, List.length_append]
      split
      · rw [List.length_drop]; omega
      · simp only [List.length_nil]; omega
    have hfin : joinK sepC (txXs l) (i + 1) = (joinK sepC (txXs l) i ++ sepC i ++ (if 1 < ld then (mkL.getD ld.toNat []).drop 1 else [])) ++ joinL (sepP cs) (txPs ps) := by
      have : (txXs l).getD i [] = txX (.mk ld ps cs) := by rw [txXs_map, List.getD_eq_getElem?_getD, List.getElem?_map, hx]; rfl
      rw [joinK_next, this, txX]
      simp only [List.append_assoc]
    generalize hAe : joinK sepC (txXs l) i ++ sepC i ++ (if 1 < ld then (mkL.getD ld.toNat []).drop 1 else []) = A at hA hfin
    have hJ2 : ∀ k, k ≤ ps.length → (joinK (sepP cs) (txPs ps) k).length ≤ 100 * n := fun k hk => by
      have h1 := joinK_len (sepP_len cs) (txPs ps) k (by omega)
      have h2 := lenS_mono (txPs ps) k
      omega
    refine iLoop_of (α := Nat) (fun k => k ≤ ps.length) (fun k => [.str (A ++ joinK (sepP cs) (txPs ps) k), int k]) (fun _ => []) (fun k => ps.length - k) 0 (by simp) (by simpa [joinK] using Wk.refl 0 [AV.str A, int 0] [] (Nat.zero_le _)) ?_
    intro k hk
    have hjk := hJ2 k hk
    refine a_idxN rfl (encXs_map l) rfl rfl hx ?_
    refine a_fadI rfl ?_
    refine w_loadI rfl ?_
    refine a_len (n := ps.length) rfl (by simp [encPs_map]) fun hpm => ?_
    refine a_lss rfl rfl ?_
    by_cases q2 : k < ps.length
    · obtain ⟨p, hp⟩ : ∃ p, ps[k]? = some p := ⟨ps[k], List.getElem?_eq_getElem q2⟩
      obtain ⟨t, ss⟩ := p
      have okp2 := all_at okps hp
      have gp := all_at gx hp
      have zp := zP_mem hp
      rw [okP] at okp2
      rw [gP, gSs_all] at gp
      rw [zP] at zp
      simp only [Bool.and_eq_true] at okp2
      have okss := okp2.2
      rw [okSs_all] at okss
      have hss := txSs_len ss
      have hsl : (txSs ss).length = ss.length := by rw [txSs_map, List.length_map]
      have hin2 : inI ((k : Int) + 1) := by unfold inI maxLen at *; omega
      have hin3 : inI ((k : Int) - 1) := by unfold inI maxLen at *; omega
      have hsp := sepP_len cs k
      have hnm := nmT_len t
      refine a_cond1 rfl (decide_eq_true (by omega)) ?_
      refine w_join [.str (A ++ joinK (sepP cs) (txPs ps) k ++ sepP cs k)] [] ?_ (fun F hF => ?_)
      rotate_left
      · refine a_gtr rfl rfl ?_
        refine a_cond rfl (fun e => ?_) fun e => ?_
        · have e : k ≠ 0 := by have := of_decide_eq_true e; omega
          obtain ⟨c, hc⟩ : ∃ c, cs[k - 1]? = some c := ⟨cs[k - 1]'(by omega), List.getElem?_eq_getElem (by omega)⟩
          have hc14 := all_at okcs hc
          simp only [decide_eq_true_eq] at hc14
          obtain ⟨c', rfl⟩ := Int.eq_ofNat_of_zero_le (show 0 ≤ c by omega)
          refine a_idxN rfl (encXs_map l) rfl rfl hx ?_
          refine a_fadI rfl ?_
          refine w_loadI rfl ?_
          refine w_sub rfl rfl hin3 ?_
          refine a_idxN (n := k - 1) rfl rfl rfl (by omega) hc ?_
          refine w_loadI rfl ?_
          refine iCall_con (by kernel_rfl) (con_rmark c' (by omega)) ?_
          have es : sepP cs k = mkL.getD c' [] := by
            have : cs.getD (k - 1) 0 = ((c' : Nat) : Int) := by rw [List.getD_eq_getElem?_getD, hc]; rfl
            rw [sepP, if_neg e, this]; rfl
          rw [es] at hF hsp
          refine a_addS rfl rfl rfl (by rw [List.length_append, List.length_append]; unfold maxLen; omega) ?_
          refine w_and ?_
          exact hF
        · have e : k = 0 := by have := of_decide_eq_false e; omega
          refine w_and ?_
          rw [sepP, if_pos e, List.append_nil] at hF
          exact hF
      refine a_idxN rfl (encXs_map l) rfl rfl hx ?_
      refine a_fadI rfl ?_
      refine w_loadI rfl ?_
      refine a_idxN rfl (encPs_map ps) rfl rfl hp ?_
      refine a_loadAI rfl rfl ?_
      refine n_new (h' := [.blk ⟨49, [.str [], .v (.slice none 0 0)], true⟩]) (n := 0) (cs := [.str [], .v (.slice none 0 0)]) rfl rfl rfl rfl ?_
      refine n_store (b := ⟨49, [.str [], .v (.slice none 0 0)], true⟩) (cs := [.str t, .sl 9 (encSs ss)]) (h' := [.blk ⟨49, [.str t, .sl 9 (encSs ss)], true⟩]) rfl rfl rfl rfl (by simp) rfl rfl rfl ?_
      refine w_join [.str (A ++ joinK (sepP cs) (txPs ps) k ++ sepP cs k ++ (if t = [42] then [42] else nmT t))] [.blk ⟨49, [.str t, .sl 9 (encSs ss)], true⟩] ?_ (fun F hF => ?_)
      rotate_left
      · refine w_fad rfl ?_
        refine w_load rfl rfl rfl ?_
        refine a_eqlS rfl rfl ?_
        refine a_cond rfl (fun e => ?_) fun e => ?_
        · rw [if_pos (of_decide_eq_true e)] at hF
          refine a_addS rfl rfl rfl (by rw [List.length_append, List.length_append, List.length_append]; unfold maxLen; simp only [List.length_cons, List.length_nil]; omega) ?_
          refine w_and ?_
          exact hF
        · rw [if_neg (of_decide_eq_false e)] at hF
          refine w_fad rfl ?_
          refine w_load rfl rfl rfl ?_
          refine iCall_con (by kernel_rfl) (con_rNamed t (by omega)) ?_
          refine a_addS rfl rfl rfl (by rw [List.length_append, List.length_append, List.length_append]; unfold maxLen; omega) ?_
          refine w_and ?_
          exact hF
      have hB : (A ++ joinK (sepP cs) (txPs ps) k ++ sepP cs k ++ (if t = [42] then [42] else nmT t)).length ≤ 300 * n + 20 := by
        rw [List.length_append, List.length_append, List.length_append]
        split
        · simp only [List.length_cons, List.length_nil]; omega
        · omega
      have hfin2 : A ++ joinK (sepP cs) (txPs ps) (k + 1) = (A ++ joinK (sepP cs) (txPs ps) k ++ sepP cs k ++ (if t = [42] then [42] else nmT t)) ++ (txSs ss).flatten := by
        have : (txPs ps).getD k [] = txP (.mk t ss) := by rw [txPs_map, List.getD_eq_getElem?_getD, List.getElem?_map, hp]; rfl
        rw [joinK_next, this, txP]
        simp only [List.append_assoc]
      generalize A ++ joinK (sepP cs) (txPs ps) k ++ sepP cs k ++ (if t = [42] then [42] else nmT t) = B at hB hfin2
      refine iLoop_of (α := Nat) (fun m => m ≤ ss.length) (fun m => [.str (B ++ ((txSs ss).take m).flatten), int m]) (fun _ => [.blk ⟨49, [.str t, .sl 9 (encSs ss)], true⟩]) (fun m => ss.length - m) 0 (by simp) (by simpa using Wk.refl 1 [AV.str B, int 0] [.blk ⟨49, [.str t, .sl 9 (encSs ss)], true⟩] (Nat.le_refl _)) ?_
      intro m hm
      have hfm := flat_take (txSs ss) m
      refine w_fad rfl ?_
      refine w_load rfl rfl rfl ?_
      refine a_len (n := ss.length) rfl (by simp [encSs_map]) fun hsm => ?_
      refine a_lss rfl rfl ?_
      by_cases q3 : m < ss.length
      · obtain ⟨y, hy⟩ : ∃ y, ss[m]? = some y := ⟨ss[m], List.getElem?_eq_getElem q3⟩
        have oky := all_at okss hy
        have gy := all_at gp hy
        have zy := zS_mem hy
        have hyl := txS_len y
        have hin4 : inI ((m : Int) + 1) := by unfold inI maxLen at *; omega
        refine a_cond1 rfl (decide_eq_true (by omega)) ?_
        refine w_fad rfl ?_
        refine w_load rfl rfl rfl ?_
        refine a_idxN rfl (encSs_map ss) rfl rfl hy ?_
        refine a_loadAI rfl (by cases y; rfl) ?_
        refine iCall_con (by kernel_rfl) (hS y (by omega) gy d has oky) ?_
        refine a_addS rfl rfl rfl (by rw [List.length_append, List.length_append]; unfold maxLen; omega) ?_
        refine w_add rfl rfl hin4 ?_
        refine w_and ?_
        refine ⟨m + 1, by omega, ?_, by omega⟩
        have ey : (txSs ss)[m]? = some (txS y) := by rw [txSs_map, List.getElem?_map, hy]; rfl
        rw [List.take_add_one, ey, List.flatten_append]
        simp only [Option.toList_some, List.flatten_cons, List.flatten_nil, List.append_nil, ← List.append_assoc]
        exact Wk.refl _ _ _ (Nat.le_refl _)
      · obtain rfl : m = ss.length := by omega
        refine a_cond0 rfl (decide_eq_false (by omega)) ?_
        refine w_add rfl rfl hin2 ?_
        refine w_and ?_
        refine ⟨k + 1, by omega, ?_, by omega⟩
        rw [hfin2]
        have e3 : (txSs ss).take ss.length = txSs ss := by rw [← hsl, List.take_length]
        refine Wk.back (M := 0) (Nat.le_refl _) (Nat.zero_le _) rfl (by simp only [nx_zero]; rw [e3]; rfl) (by simp) (by simp [Bd])
    · obtain rfl : k = ps.length := by omega
      refine a_cond0 rfl (decide_eq_false (by omega)) ?_
      refine w_add rfl rfl hin ?_
      refine w_and ?_
      refine ⟨i + 1, by omega, ?_, by omega⟩
      rw [hfin, joinL, hpl]
      exact Wk.refl _ _ _ (Nat.le_refl _)
  · obtain rfl : i = l.length := by omega
    refine a_lss rfl rfl ?_
    refine a_cond0 rfl (decide_eq_false (by omega)) ?_
    exact .pure (by simp) (by simp only [nx_zero]; rw [wrL, joinL, hlen])
theorem rw_all : ∀ n, n ≤ 2 ^ 28 → RwS n ∧ RwL n
  | 0, _ => by
    have h0 : RwS 0 := fun s hz => by
      obtain ⟨k, na, o, v, f, a, b, w, l⟩ := s
      rw [zS] at hz; omega
    exact ⟨h0, rwL_of (by decide) h0⟩
  | n + 1, h => by
    have ih := (rw_all n (by omega)).2
    have hs := rwS_step (by omega) ih
    exact ⟨hs, rwL_of h hs⟩
theorem con_rWritten (l : List Cx) (hz : zXs l ≤ 2 ^ 28) (hg : gXs l = true) (d : Nat) (has rel : Bool) (ok : okXs d has rel l = true) : Con Tryz.prog 22 [.sl 3 (encXs l)] (.str (wrL l)) :=
  (rw_all (2 ^ 28) (Nat.le_refl _)).2 l hz hg d has rel ok
/-- What Text hands back. -/
def textA (l : List Cx) : AV := if checkL l = 0 then (if (wrL l).length ≤ 4000 then .tup [.str (wrL l), int 0] else .tup [.str [], int 28]) else .tup [.str [], int (checkL l)]
omit [MaxL] in
theorem check_ok {l : List Cx} (h : checkL l = 0) : okXs 0 false false l = true := by
  unfold checkL at h
  split at h
  · rename_i e; simp only [Bool.and_eq_true] at e; exact e.2
  · exact absurd h (by decide)
omit [MaxL] in
theorem textA_pure (l : List Cx) : Aw.Pure (textA l) := by unfold textA; (repeat' split) <;> simp
end Go.Proofs.YthblflmjingcfaaGreatDoor
end

section
namespace Go.Proofs.YthblflmjingcfaaGreatDoor
open Go Go.Aw Go.Sel
set_option maxRecDepth 100000
variable [MaxL]
def countA (l : List Cx) : AV := if checkL l = 0 then .tup [int (number l), int 0] else .tup [int 0, int (checkL l)]
theorem con_rCount (l : List Cx) (hz : zXs l < 2 ^ 59) : Con Tryz.prog 7 [.sl 3 (encXs l)] (countA l) := by
  refine (V7 _).gives (by simp [pureXs]) (by unfold countA; split <;> simp) ?_
  unfold W7
  refine iCall_con (by kernel_rfl) (con_rCheck l hz) ?_
  refine a_neq rfl rfl ?_
  refine a_cond rfl (fun e => ?_) fun e => ?_
  · have e : ¬ checkL l = 0 := by simpa using e
    exact .pure (by simp) (by rw [countA, if_neg e])
  · have e : checkL l = 0 := by simpa using e
    refine iCall_con (by kernel_rfl) (con_Number l hz) ?_
    exact .pure (by simp) (by rw [countA, if_pos e])
theorem con_Count (l : List Cx) (hz : zXs l < 2 ^ 59) : Con Tryz.prog 6 [.sl 3 (encXs l)] (countA l) := by
  refine (V6 _).gives (by simp [pureXs]) (by unfold countA; split <;> simp) ?_
  unfold W6
  refine iCall_con (by kernel_rfl) (con_Check l hz) ?_
  refine a_neq rfl rfl ?_
  refine a_cond rfl (fun e => ?_) fun e => ?_
  · have e : ¬ checkL l = 0 := by simpa using e
    exact .pure (by simp) (by rw [countA, if_neg e])
  · have e : checkL l = 0 := by simpa using e
    refine iCall_con (by kernel_rfl) (con_count l hz) ?_
    exact .pure (by simp) (by rw [countA, if_pos e])
theorem con_rTextL (l : List Cx) (hz : zXs l ≤ 2 ^ 28) (hg : gXs l = true) : Con Tryz.prog 9 [.sl 3 (encXs l)] (textA l) := by
  refine (V9 _).gives (by simp [pureXs]) (textA_pure l) ?_
  unfold W9
  refine iCall_con (by kernel_rfl) (con_rCheck l (by omega)) ?_
  refine a_neq rfl rfl ?_
  refine a_cond rfl (fun e => ?_) fun e => ?_
  · have e : ¬ checkL l = 0 := by simpa using e
    exact .pure (by simp) (by rw [textA, if_neg e])
  · have e : checkL l = 0 := by simpa using e
    refine iCall_con (by kernel_rfl) (con_rWritten l hz hg 0 false false (check_ok e)) ?_
    refine a_lenS rfl fun _ => ?_
    refine a_leq rfl rfl ?_
    refine a_cond rfl (fun e2 => ?_) fun e2 => ?_
    · have e2 : (wrL l).length ≤ 4000 := by have := of_decide_eq_true e2; omega
      exact .pure (by simp) (by rw [textA, if_pos e, if_pos e2])
    · have e2 : ¬ (wrL l).length ≤ 4000 := by have := of_decide_eq_false e2; omega
      exact .pure (by simp) (by rw [textA, if_pos e, if_neg e2])
end Go.Proofs.YthblflmjingcfaaGreatDoor
end
