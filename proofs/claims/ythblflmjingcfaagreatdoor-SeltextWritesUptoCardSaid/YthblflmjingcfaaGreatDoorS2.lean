/-
  The program's check of selectors: compounds and simple selectors. The program's check of selectors: simple selectors, and all by how great they are. The program's check of lists, and how many selectors there are.
  No conditions.
-/
import Derived.Test.YthblflmjingcfaaGreatDoorS1
set_option linter.unusedVariables false
set_option linter.unusedSimpArgs false
section
namespace Go.Proofs.YthblflmjingcfaaGreatDoor
open Go Go.Aw Go.Sel
set_option maxRecDepth 100000
variable [Laid]
theorem ckP_step {n : Nat} (hn : n < 2 ^ 60) (hS : CkS n) : CkP (n + 1) := by
  rintro ⟨t, ss⟩ hz d has hd
  rw [zP] at hz
  refine (V42 _ _).gives (by simp [pureP]) (by simp) ?_
  unfold W42
  rw [encP]
  have hlen : (encSs ss).length = ss.length := by simp [encSs_map]
  have hsl := zSs_len ss
  repeat' (first | (with_reducible apply w_let) | (with_reducible apply w_and) | ((with_reducible first | apply a_lss | apply a_leq | apply a_gtr | apply a_geq | apply a_eql | apply a_neq); rfl; rfl) | ((with_reducible first | apply a_eqlS | apply a_neqS | apply a_eqlB | apply a_neqB); rfl; rfl) | ((with_reducible apply w_add); rfl; rfl; first | assumption | (unfold inI; omega)) | ((with_reducible apply w_sub); rfl; rfl; first | assumption | (unfold inI; omega)) | ((with_reducible apply a_not); rfl) | ((with_reducible apply w_pick_t); rfl) | ((with_reducible apply w_pick_f); rfl) | ((with_reducible apply a_cond1); rfl; first | rfl | assumption) | ((with_reducible apply a_cond0); rfl; first | rfl | assumption) | ((with_reducible apply a_guard1); rfl; first | rfl | assumption) | ((with_reducible apply a_guard0); rfl; first | rfl | assumption) | ((with_reducible apply w_guard_u); rfl) | ((with_reducible apply a_condN); rfl) | ((with_reducible apply a_guardN); rfl) | ((with_reducible apply w_fad); rfl) | ((with_reducible apply a_fadI); rfl) | ((with_reducible apply w_load); rfl; rfl; rfl) | ((with_reducible apply w_loadI); rfl) | ((with_reducible apply w_loadA); rfl; rfl; first | exact Nat.le_refl _ | exact Nat.le_of_ble_eq_true rfl) | ((with_reducible apply a_eqA); rfl; rfl; rfl) | ((with_reducible apply a_loadAI); rfl; first | rfl | simp) | ((with_reducible apply w_new); first | rfl | simp) | ((with_reducible apply a_store); rfl; rfl; rfl; rfl; (first | exact Nat.le_refl _ | simp); (first | rfl | simp); (first | rfl | simp)) | ((with_reducible apply a_lenS); rfl; intro _) | ((with_reducible apply a_len); rfl; (first | rfl | simp); intro _) | ((with_reducible apply a_build); rfl) | ((with_reducible apply a_extr); rfl; rfl) | (refine iCall_con (by kernel_rfl) (con_small _) ?_) | ((with_reducible apply a_cond); rfl) | ((with_reducible apply a_guard); rfl) | (with_reducible intro _))
  all_goals first
    | (refine .pure (by simp) ?_
       have : okP d has (.mk t ss) = false := by rw [okP]; grind
       rw [this])
    | (have b1 : (decide (t = []) || decide (t = [42]) || small t) = true := by grind
       have b2 : ss.length ≤ 64 := by grind
       refine iLoop_of (α := Nat) (fun k => k ≤ ss.length ∧ (ss.take k).all (okS d has) = true) (fun k => [int k]) (fun _ => [.blk ⟨49, [.str t, .sl 9 (encSs ss)], true⟩, .blk ⟨69, [int d, bool has], true⟩]) (fun k => ss.length - k) 0 (by simp) (Wk.refl _ _ _ (by simp)) ?_
       rintro k ⟨hk, hI⟩
       rcases Nat.lt_or_ge k ss.length with q | q
       · obtain ⟨s, hx⟩ : ∃ s, ss[k]? = some s := ⟨ss[k], List.getElem?_eq_getElem q⟩
         have hin : inI ((k : Int) + 1) := by unfold inI; omega
         have nxt : (ss.take (k + 1)).all (okS d has) = okS d has s := by
           rw [List.take_add_one, hx, List.all_append, hI]; simp
         have bad : okS d has s = false → okP d has (.mk t ss) = false := by
           intro hb
           rw [okP, okSs_all]
           have : ss.all (okS d has) = false := by
             rw [List.all_eq_false]
             exact ⟨s, List.mem_of_getElem? hx, by simp [hb]⟩
           rw [this]; simp
         have hzs : zS s ≤ n := by have := zSs_mem (List.mem_of_getElem? hx); omega
         refine a_lss rfl rfl ?_
         refine a_cond1 rfl (by rw [hlen]; simpa using q) ?_
         refine a_idx rfl (encSs_map ss) rfl hx ?_
         refine a_loadAI rfl (by simp [encS_eq]) ?_
         refine w_new rfl ?_
         refine a_store (cs := encS s) rfl rfl rfl rfl (by simp [encS_eq]) (by simp [encS_eq]) (by simp [encS_eq]) ?_
         have hset : setAll (vcells (.agg [(u8 0), (.str []), (u8 0), (.str []), ff, (int 0), (int 0), ff, (.v (.slice none 0 0))])) 0 (encS s) = encS s := by rw [encS_eq]; rfl
         rw [hset]
         refine w_loadA rfl rfl (by simp [encS_eq]) ?_
         refine w_loadA rfl rfl (Nat.le_refl _) ?_
         refine w_call (by simp [encS_eq]) (by kernel_rfl) (hS s hzs d has hd) ?_
         repeat' (first | (with_reducible apply w_let) | (with_reducible apply w_and) | ((with_reducible first | apply a_lss | apply a_leq | apply a_gtr | apply a_geq | apply a_eql | apply a_neq); rfl; rfl) | ((with_reducible first | apply a_eqlS | apply a_neqS | apply a_eqlB | apply a_neqB); rfl; rfl) | ((with_reducible apply w_add); rfl; rfl; first | assumption | (unfold inI; omega)) | ((with_reducible apply w_sub); rfl; rfl; first | assumption | (unfold inI; omega)) | ((with_reducible apply a_not); rfl) | ((with_reducible apply w_pick_t); rfl) | ((with_reducible apply w_pick_f); rfl) | ((with_reducible apply a_cond1); rfl; first | rfl | assumption) | ((with_reducible apply a_cond0); rfl; first | rfl | assumption) | ((with_reducible apply a_guard1); rfl; first | rfl | assumption) | ((with_reducible apply a_guard0); rfl; first | rfl | assumption) | ((with_reducible apply w_guard_u); rfl) | ((with_reducible apply a_condN); rfl) | ((with_reducible apply a_guardN); rfl) | ((with_reducible apply w_fad); rfl) | ((with_reducible apply a_fadI); rfl) | ((with_reducible apply w_load); rfl; rfl; rfl) | ((with_reducible apply w_loadI); rfl) | ((with_reducible apply w_loadA); rfl; rfl; first | exact Nat.le_refl _ | exact Nat.le_of_ble_eq_true rfl) | ((with_reducible apply a_eqA); rfl; rfl; rfl) | ((with_reducible apply a_loadAI); rfl; first | rfl | simp) | ((with_reducible apply w_new); first | rfl | simp) | ((with_reducible apply a_store); rfl; rfl; rfl; rfl; (first | exact Nat.le_refl _ | simp); (first | rfl | simp); (first | rfl | simp)) | ((with_reducible apply a_lenS); rfl; intro _) | ((with_reducible apply a_len); rfl; (first | rfl | simp); intro _) | ((with_reducible apply a_build); rfl) | ((with_reducible apply a_extr); rfl; rfl) | ((with_reducible apply a_cond); rfl) | ((with_reducible apply a_guard); rfl) | (with_reducible intro _))
         all_goals first
           | exact .pure (by simp) (by rw [bad (by simp_all)])
           | exact ⟨k + 1, ⟨q, by rw [nxt]; simp_all⟩, Wk.back (M := 2) (by simp) (by simp) rfl (by simp) (by simp [entB]; exact ⟨BdL_pure _ _ (by simp [pureSs]), BdL_pure _ _ (by simp)⟩) (by simp [Bd]), by omega⟩
       · have hk : k = ss.length := by omega
         subst hk
         rw [List.take_length] at hI
         refine a_lss rfl rfl ?_
         refine a_cond0 rfl (by rw [hlen]; simp) ?_
         repeat' (first | (with_reducible apply w_let) | (with_reducible apply w_and) | ((with_reducible first | apply a_lss | apply a_leq | apply a_gtr | apply a_geq | apply a_eql | apply a_neq); rfl; rfl) | ((with_reducible first | apply a_eqlS | apply a_neqS | apply a_eqlB | apply a_neqB); rfl; rfl) | ((with_reducible apply w_add); rfl; rfl; first | assumption | (unfold inI; omega)) | ((with_reducible apply w_sub); rfl; rfl; first | assumption | (unfold inI; omega)) | ((with_reducible apply a_not); rfl) | ((with_reducible apply w_pick_t); rfl) | ((with_reducible apply w_pick_f); rfl) | ((with_reducible apply a_cond1); rfl; first | rfl | assumption) | ((with_reducible apply a_cond0); rfl; first | rfl | assumption) | ((with_reducible apply a_guard1); rfl; first | rfl | assumption) | ((with_reducible apply a_guard0); rfl; first | rfl | assumption) | ((with_reducible apply w_guard_u); rfl) | ((with_reducible apply a_condN); rfl) | ((with_reducible apply a_guardN); rfl) | ((with_reducible apply w_fad); rfl) | ((with_reducible apply a_fadI); rfl) | ((with_reducible apply w_load); rfl; rfl; rfl) | ((with_reducible apply w_loadI); rfl) | ((with_reducible apply w_loadA); rfl; rfl; first | exact Nat.le_refl _ | exact Nat.le_of_ble_eq_true rfl) | ((with_reducible apply a_eqA); rfl; rfl; rfl) | ((with_reducible apply a_loadAI); rfl; first | rfl | simp) | ((with_reducible apply w_new); first | rfl | simp) | ((with_reducible apply a_store); rfl; rfl; rfl; rfl; (first | exact Nat.le_refl _ | simp); (first | rfl | simp); (first | rfl | simp)) | ((with_reducible apply a_lenS); rfl; intro _) | ((with_reducible apply a_len); rfl; (first | rfl | simp); intro _) | ((with_reducible apply a_build); rfl) | ((with_reducible apply a_extr); rfl; rfl) | ((with_reducible apply a_cond); rfl) | ((with_reducible apply a_guard); rfl) | (with_reducible intro _))
         all_goals refine .pure (by simp) ?_
         all_goals rw [okP, okSs_all, hI, b1]
         all_goals cases ss <;> simp_all [encSs])
end Go.Proofs.YthblflmjingcfaaGreatDoor
end

section
namespace Go.Proofs.YthblflmjingcfaaGreatDoor
open Go Go.Aw Go.Sel
set_option maxRecDepth 100000
variable [Laid]
theorem con_in1 (d : Nat) (has : Bool) (k : Int) (hd : d ≤ 3) (hq : inOK d has k = true) : Con Tryz.prog 82 [.agg [int d, bool has], u1 k] (.tup [.agg [int (d + 1), bool (has || decide (k = 14))], tt]) := by
  have := con_in d has k hd
  rw [hq] at this
  simpa using this
theorem con_in0 (d : Nat) (has : Bool) (k : Int) (hd : d ≤ 3) (hq : inOK d has k = false) : Con Tryz.prog 82 [.agg [int d, bool has], u1 k] (.tup [.agg [int 0, ff], ff]) := by
  have := con_in d has k hd
  rw [hq] at this
  simpa using this
theorem con_simple1 {n : Nat} (hX : CkX n) (x : Cx) (hz : zX x ≤ n) (d : Nat) (has : Bool) (hd : d ≤ 3) (k : Int) (r : List AV) (pr : PureL r) : Con Tryz.prog 83 [.agg (encX x), .ip [int d, bool has], .ip (u1 k :: r)] (bool (!okX d has (decide (k = 14)) x)) := by
  refine (V83 _ _ _).gives (by simp [pureX, pr]) (by simp) ?_
  unfold W83
  refine w_new (by rw [encX_eq]; rfl) ?_
  refine w_loadA rfl rfl (by simp [encX_eq]) ?_
  refine a_loadAI rfl rfl ?_
  refine a_fadI rfl ?_
  refine w_loadI rfl ?_
  refine a_eql rfl rfl ?_
  refine w_call (by simp [encX_eq]) (by kernel_rfl) (hX x hz d has (decide (k = 14)) hd) ?_
  refine a_not rfl ?_
  exact .pure (by simp) rfl
theorem con_simples {n : Nat} (hX : CkX n) (l : List Cx) (hz : zXs l ≤ n) (d : Nat) (has : Bool) (hd : d ≤ 3) (k : Int) (r : List AV) (pr : PureL r) : Con Tryz.prog 23 [.sl 3 (encXs l), .fn (.func 83) [] [.ip [int d, bool has], .ip (u1 k :: r)]] (bool (!okXs d has (decide (k = 14)) l)) := by
  have := con_containsX l 83 [.ip [int d, bool has], .ip (u1 k :: r)] (fun x => !okX d has (decide (k = 14)) x) (by simp [PureL, Aw.Pure, pr]) (by kernel_rfl) (fun x hx => con_simple1 hX x (by have := zXs_mem hx; omega) d has hd k r pr)
  rw [okXs_all, show (!l.all (okX d has (decide (k = 14)))) = l.any (fun x => !okX d has (decide (k = 14)) x) by simp [List.any_eq_not_all_not]]
  exact this
omit [Laid] in
theorem okS_eq (d : Nat) (has : Bool) (k : Int) (n : Str) (o : Int) (v : Str) (f : Bool) (a b : Int) (w : Bool) (l : List Cx) : okS d has (.mk k n o v f a b w l) = (bareOK k n o v f a b w && (if hasL k w then inOK d has k && (freeL k || !decide (l.length = 0)) && okXs (d + 1) (has || decide (k = 14)) (decide (k = 14)) l else decide (l.length = 0))) := by
  rw [okS]
  have : l.isEmpty = decide (l.length = 0) := by cases l <;> simp
  rw [this]
  unfold inOK
  grind
set_option maxHeartbeats 4000000 in
theorem ckS_step {n : Nat} (hX : CkX n) : CkS (n + 1) := by
  rintro ⟨k, na, o, v, f, a, b, w, l⟩ hz d has hd
  rw [zS] at hz
  refine (V62 _ _).gives (by simp [pureS]) (by simp) ?_
  unfold W62
  rw [encS, okS_eq]
  have hlen : (encXs l).length = l.length := by simp [encXs_map]
  have pX := pureXs l
  cases hq : inOK d has k
  · repeat' (first | (with_reducible apply w_let) | (with_reducible apply w_and) | ((with_reducible first | apply a_lss | apply a_leq | apply a_gtr | apply a_geq | apply a_eql | apply a_neq); rfl; rfl) | ((with_reducible first | apply a_eqlS | apply a_neqS | apply a_eqlB | apply a_neqB); rfl; rfl) | ((with_reducible apply w_add); rfl; rfl; first | assumption | (unfold inI; omega)) | ((with_reducible apply w_sub); rfl; rfl; first | assumption | (unfold inI; omega)) | ((with_reducible apply a_not); rfl) | ((with_reducible apply w_pick_t); rfl) | ((with_reducible apply w_pick_f); rfl) | ((with_reducible apply a_cond1); rfl; first | rfl | assumption) | ((with_reducible apply a_cond0); rfl; first | rfl | assumption) | ((with_reducible apply a_guard1); rfl; first | rfl | assumption) | ((with_reducible apply a_guard0); rfl; first | rfl | assumption) | ((with_reducible apply w_guard_u); rfl) | ((with_reducible apply a_condN); rfl) | ((with_reducible apply a_guardN); rfl) | ((with_reducible apply w_fad); rfl) | ((with_reducible apply a_fadI); rfl) | ((with_reducible apply w_load); rfl; rfl; rfl) | ((with_reducible apply w_loadI); rfl) | ((with_reducible apply w_loadA); rfl; rfl; first | exact Nat.le_refl _ | exact Nat.le_of_ble_eq_true rfl) | ((with_reducible apply a_eqA); rfl; rfl; rfl) | ((with_reducible apply a_loadAI); rfl; first | rfl | simp) | ((with_reducible apply w_new); first | rfl | simp) | ((with_reducible apply a_store); rfl; rfl; rfl; rfl; (first | exact Nat.le_refl _ | simp); (first | rfl | simp); (first | rfl | simp)) | ((with_reducible apply a_lenS); rfl; intro _) | ((with_reducible apply a_len); rfl; (first | rfl | simp); intro _) | ((with_reducible apply a_build); rfl) | ((with_reducible apply a_extr); rfl; rfl) | (refine iCall_con (by kernel_rfl) (con_lists k na o v f a b w (encXs l) pX) ?_) | (refine iCall_con (by kernel_rfl) (con_in0 d has k hd hq) ?_) | (refine iCall_con (by kernel_rfl) (con_named _) ?_) | (refine iCall_con (by kernel_rfl) (con_small _) ?_) | (refine iCall_con (by kernel_rfl) (con_zero _ _) ?_) | (refine iCall_con (by kernel_rfl) (con_anbCheck _ _) ?_) | ((with_reducible apply a_cond); rfl) | ((with_reducible apply a_guard); rfl) | (with_reducible intro _))
    all_goals refine .pure (by simp) ?_
    all_goals simp only [nx_zero, nx_one, AV.v.injEq, Value.bool.injEq, Value.int.injEq, true_and, hlen] at *
    all_goals grind [hasL, emptyL, isNth, bareOK, freeL, eqK]
  · have hd' : d + 1 ≤ 3 := by unfold inOK at hq; grind
    repeat' (first | (with_reducible apply w_let) | (with_reducible apply w_and) | ((with_reducible first | apply a_lss | apply a_leq | apply a_gtr | apply a_geq | apply a_eql | apply a_neq); rfl; rfl) | ((with_reducible first | apply a_eqlS | apply a_neqS | apply a_eqlB | apply a_neqB); rfl; rfl) | ((with_reducible apply w_add); rfl; rfl; first | assumption | (unfold inI; omega)) | ((with_reducible apply w_sub); rfl; rfl; first | assumption | (unfold inI; omega)) | ((with_reducible apply a_not); rfl) | ((with_reducible apply w_pick_t); rfl) | ((with_reducible apply w_pick_f); rfl) | ((with_reducible apply a_cond1); rfl; first | rfl | assumption) | ((with_reducible apply a_cond0); rfl; first | rfl | assumption) | ((with_reducible apply a_guard1); rfl; first | rfl | assumption) | ((with_reducible apply a_guard0); rfl; first | rfl | assumption) | ((with_reducible apply w_guard_u); rfl) | ((with_reducible apply a_condN); rfl) | ((with_reducible apply a_guardN); rfl) | ((with_reducible apply w_fad); rfl) | ((with_reducible apply a_fadI); rfl) | ((with_reducible apply w_load); rfl; rfl; rfl) | ((with_reducible apply w_loadI); rfl) | ((with_reducible apply w_loadA); rfl; rfl; first | exact Nat.le_refl _ | exact Nat.le_of_ble_eq_true rfl) | ((with_reducible apply a_eqA); rfl; rfl; rfl) | ((with_reducible apply a_loadAI); rfl; first | rfl | simp) | ((with_reducible apply w_new); first | rfl | simp) | ((with_reducible apply a_store); rfl; rfl; rfl; rfl; (first | exact Nat.le_refl _ | simp); (first | rfl | simp); (first | rfl | simp)) | ((with_reducible apply a_lenS); rfl; intro _) | ((with_reducible apply a_len); rfl; (first | rfl | simp); intro _) | ((with_reducible apply a_build); rfl) | ((with_reducible apply a_extr); rfl; rfl) | (refine iCall_con (by kernel_rfl) (con_lists k na o v f a b w (encXs l) pX) ?_) | (refine iCall_con (by kernel_rfl) (con_in1 d has k hd hq) ?_) | (refine iCall_borrow (by kernel_rfl) (con_simples hX l (by omega) (d + 1) (has || decide (k = 14)) hd' k [.str na, u1 o, .str v, bool f, int a, int b, bool w, .sl 3 (encXs l)] (by simp [pX])) (by simp only [List.map_cons, List.map_nil, LeL]; exact ⟨by rw [tl_pure _ _ _ _ (by simp [pX])]; exact Le.refl _, by simp [tl, tlA, tlL, tlR_pure _ _ _ _ pX], trivial⟩) (by simp) ?_) | (refine iCall_con (by kernel_rfl) (con_named _) ?_) | (refine iCall_con (by kernel_rfl) (con_small _) ?_) | (refine iCall_con (by kernel_rfl) (con_zero _ _) ?_) | (refine iCall_con (by kernel_rfl) (con_anbCheck _ _) ?_) | ((with_reducible apply a_cond); rfl) | ((with_reducible apply a_guard); rfl) | (with_reducible intro _))
    all_goals refine .pure (by simp) ?_
    all_goals simp only [nx_zero, nx_one, AV.v.injEq, Value.bool.injEq, Value.int.injEq, true_and, hlen] at *
    all_goals grind [hasL, emptyL, isNth, bareOK, freeL, eqK]
end Go.Proofs.YthblflmjingcfaaGreatDoor
end

section
namespace Go.Sel
open Go Go.Aw
mutual
theorem nX_le : ∀ x : Cx, nX x + 1 ≤ zX x
  | .mk _ ps _ => by rw [nX, zX]; have := nPs_le ps; omega
theorem nPs_le : ∀ l : List Cp, nPs l ≤ zPs l
  | [] => by simp [nPs]
  | p :: l => by rw [nPs, zPs]; have := nP_le p; have := nPs_le l; omega
theorem nP_le : ∀ p : Cp, nP p ≤ zP p
  | .mk _ ss => by rw [nP, zP]; have := nSs_le ss; omega
theorem nSs_le : ∀ l : List Sm, nSs l ≤ zSs l
  | [] => by simp [nSs]
  | s :: l => by rw [nSs, zSs]; have := nS_le s; have := nSs_le l; omega
theorem nS_le : ∀ s : Sm, nS s ≤ zS s
  | .mk _ _ _ _ _ _ _ _ l => by rw [nS, zS]; have := nXs_le l; omega
theorem nXs_le : ∀ l : List Cx, l.length + nXs l ≤ zXs l
  | [] => by simp [nXs]
  | x :: l => by rw [nXs, zXs]; have := nX_le x; have := nXs_le l; simp; omega
end
theorem nXs_take {l : List Cx} {k : Nat} {x : Cx} (h : l[k]? = some x) : nXs (l.take (k + 1)) = nXs (l.take k) + nX x := by
  induction l generalizing k with
  | nil => simp at h
  | cons y l ih =>
    cases k with
    | zero => simp at h; subst h; simp [nXs]
    | succ k => simp at h; rw [List.take_succ_cons, nXs, ih h, List.take_succ_cons, nXs]; omega
theorem nPs_take {l : List Cp} {k : Nat} {x : Cp} (h : l[k]? = some x) : nPs (l.take (k + 1)) = nPs (l.take k) + nP x := by
  induction l generalizing k with
  | nil => simp at h
  | cons y l ih =>
    cases k with
    | zero => simp at h; subst h; simp [nPs]
    | succ k => simp at h; rw [List.take_succ_cons, nPs, ih h, List.take_succ_cons, nPs]; omega
theorem nSs_take {l : List Sm} {k : Nat} {x : Sm} (h : l[k]? = some x) : nSs (l.take (k + 1)) = nSs (l.take k) + nS x := by
  induction l generalizing k with
  | nil => simp at h
  | cons y l ih =>
    cases k with
    | zero => simp at h; subst h; simp [nSs]
    | succ k => simp at h; rw [List.take_succ_cons, nSs, ih h, List.take_succ_cons, nSs]; omega
theorem nXs_take_le (l : List Cx) (k : Nat) : nXs (l.take k) ≤ nXs l := by
  induction l generalizing k with
  | nil => simp
  | cons y l ih => cases k with
    | zero => simp [nXs]
    | succ k => rw [List.take_succ_cons, nXs, nXs]; have := ih k; omega
theorem nPs_take_le (l : List Cp) (k : Nat) : nPs (l.take k) ≤ nPs l := by
  induction l generalizing k with
  | nil => simp
  | cons y l ih => cases k with
    | zero => simp [nPs]
    | succ k => rw [List.take_succ_cons, nPs, nPs]; have := ih k; omega
theorem nSs_take_le (l : List Sm) (k : Nat) : nSs (l.take k) ≤ nSs l := by
  induction l generalizing k with
  | nil => simp
  | cons y l ih => cases k with
    | zero => simp [nSs]
    | succ k => rw [List.take_succ_cons, nSs, nSs]; have := ih k; omega
end Go.Sel
namespace Go.Proofs.YthblflmjingcfaaGreatDoor
open Go Go.Aw Go.Sel
set_option maxRecDepth 100000
variable [Laid]
theorem ck_all : ∀ n, n < 2 ^ 60 → CkX n ∧ CkP n ∧ CkS n
  | 0, _ => ⟨fun x hz => by have := zX_pos x; omega, fun x hz => by have := zP_pos x; omega, fun x hz => by have := zS_pos x; omega⟩
  | n + 1, hn => by
    obtain ⟨hX, hP, hS⟩ := ck_all n (by omega)
    exact ⟨ckX_step (by omega) hP, ckP_step (by omega) hS, ckS_step hX⟩
theorem con_whole (x : Cx) (hz : zX x < 2 ^ 60) (d : Nat) (has rel : Bool) (hd : d ≤ 3) : Con Tryz.prog 25 [.agg (encX x), .agg [int d, bool has], bool rel] (bool (okX d has rel x)) :=
  (ck_all (zX x) hz).1 x (Nat.le_refl _) d has rel hd
def CtX (n : Nat) : Prop := ∀ l : List Cx, zXs l < n → Con Tryz.prog 18 [.sl 3 (encXs l)] (int (number l))
set_option maxHeartbeats 1000000 in
theorem ct_step {n : Nat} (hn : n < 2 ^ 60) (hC : CtX n) : CtX (n + 1) := by
  intro l hz
  refine (V18 _).gives (by simp [pureXs]) (by simp) ?_
  unfold W18
  have hl := nXs_le l
  refine a_len (n := l.length) rfl (by simp [encXs_map]) fun _ => ?_
  refine a_len (n := l.length) rfl (by simp [encXs_map]) fun _ => ?_
  refine iLoop_of (α := Nat) (fun k => k ≤ l.length) (fun k => [int ((l.length + nXs (l.take k) : Nat) : Int), int k]) (fun _ => []) (fun k => l.length - k) 0 (by simp) (by simpa [nXs] using Wk.refl _ _ _ (by simp)) ?_
  intro k hk
  rcases Nat.lt_or_ge k l.length with q | q
  · obtain ⟨⟨le, ps, cs⟩, hx⟩ : ∃ x, l[k]? = some x := ⟨l[k], List.getElem?_eq_getElem q⟩
    have hin : inI ((k : Int) + 1) := by unfold inI; omega
    have hzx := zXs_mem (List.mem_of_getElem? hx)
    rw [zX] at hzx
    have hnx := nXs_take hx
    rw [nX] at hnx
    have hle := nXs_take_le l (k + 1)
    refine a_lss rfl rfl ?_
    refine a_cond1 rfl (by simpa using q) ?_
    refine a_idx rfl (encXs_map l) rfl hx ?_
    refine a_loadAI rfl (by simp [encX_eq]) ?_
    refine w_new rfl ?_
    rw [encX]
    refine a_store (cs := [u1 le, .sl 2 (encPs ps), .sl 1 (cs.map fun c => [u1 c])]) rfl rfl rfl rfl (Nat.le_refl _) rfl rfl ?_
    refine w_fad rfl ?_
    refine w_load rfl rfl rfl ?_
    refine a_len (n := ps.length) rfl (by simp [encPs_map]) fun _ => ?_
    refine iLoop_of (α := Nat) (fun i => i ≤ ps.length) (fun i => [int ((l.length + nXs (l.take k) + nPs (ps.take i) : Nat) : Int), int i]) (fun _ => [.blk ⟨42, [u1 le, .sl 2 (encPs ps), .sl 1 (cs.map fun c => [u1 c])], true⟩]) (fun i => ps.length - i) 0 (by simp) (by simpa [nPs] using Wk.refl _ _ _ (by simp)) ?_
    intro i hi
    rcases Nat.lt_or_ge i ps.length with q2 | q2
    · obtain ⟨⟨t, ss⟩, hp⟩ : ∃ x, ps[i]? = some x := ⟨ps[i], List.getElem?_eq_getElem q2⟩
      have hin2 : inI ((i : Int) + 1) := by have := zPs_len ps; unfold inI; omega
      have hzp := zPs_mem (List.mem_of_getElem? hp)
      rw [zP] at hzp
      have hnp := nPs_take hp
      rw [nP] at hnp
      have hle2 := nPs_take_le ps (i + 1)
      refine a_lss rfl rfl ?_
      refine a_cond1 rfl (by simpa using q2) ?_
      refine a_idx rfl (encPs_map ps) rfl hp ?_
      refine a_loadAI rfl (by simp [encP_eq]) ?_
      refine w_new rfl ?_
      rw [encP]
      refine a_store (cs := [.str t, .sl 9 (encSs ss)]) rfl rfl rfl rfl (Nat.le_refl _) rfl rfl ?_
      refine w_fad rfl ?_
      refine w_load rfl rfl rfl ?_
      refine a_len (n := ss.length) rfl (by simp [encSs_map]) fun _ => ?_
      refine iLoop_of (α := Nat) (fun j => j ≤ ss.length) (fun j => [int ((l.length + nXs (l.take k) + nPs (ps.take i) + nSs (ss.take j) : Nat) : Int), int j]) (fun _ => [.blk ⟨42, [u1 le, .sl 2 (encPs ps), .sl 1 (cs.map fun c => [u1 c])], true⟩, .blk ⟨49, [.str t, .sl 9 (encSs ss)], true⟩]) (fun j => ss.length - j) 0 (by simp) (by simpa [nSs] using Wk.refl _ _ _ (by simp)) ?_
      intro j hj
      rcases Nat.lt_or_ge j ss.length with q3 | q3
      · obtain ⟨⟨kd, na, o, v, f, a, b, w, l2⟩, hs⟩ : ∃ x, ss[j]? = some x := ⟨ss[j], List.getElem?_eq_getElem q3⟩
        have hin3 : inI ((j : Int) + 1) := by have := zSs_len ss; unfold inI; omega
        have hzs := zSs_mem (List.mem_of_getElem? hs)
        rw [zS] at hzs
        have hns := nSs_take hs
        rw [nS] at hns
        have hle3 := nSs_take_le ss (j + 1)
        have hin4 : inI (((l.length + nXs (l.take k) + nPs (ps.take i) + nSs (ss.take j) : Nat) : Int) + (number l2 : Int)) := by unfold number inI; omega
        refine a_lss rfl rfl ?_
        refine a_cond1 rfl (by simpa using q3) ?_
        refine a_idx rfl (encSs_map ss) rfl hs ?_
        refine a_loadAI rfl (by simp [encS_eq]) ?_
        refine w_new rfl ?_
        rw [encS]
        refine a_store (cs := [u1 kd, .str na, u1 o, .str v, bool f, int a, int b, bool w, .sl 3 (encXs l2)]) rfl rfl rfl rfl (Nat.le_refl _) rfl rfl ?_
        refine w_fad rfl ?_
        refine w_load rfl rfl rfl ?_
        refine iCall_con (by kernel_rfl) (hC l2 (by omega)) ?_
        refine w_add rfl rfl hin4 ?_
        refine w_add rfl rfl hin3 ?_
        refine w_and ?_
        refine ⟨j + 1, q3, ?_, by omega⟩
        have e : ((l.length + nXs (l.take k) + nPs (ps.take i) + nSs (ss.take j) : Nat) : Int) + (number l2 : Int) = ((l.length + nXs (l.take k) + nPs (ps.take i) + nSs (ss.take (j + 1)) : Nat) : Int) := by rw [hns]; unfold number; omega
        rw [e]
        exact Wk.back (M := 2) (by simp) (by simp) rfl (by simp) (by simp [entB]; exact ⟨BdL_pure _ _ (by simp [purePs, pureC]), BdL_pure _ _ (by simp [pureSs])⟩) (by simp [Bd])
      · have hj : j = ss.length := by omega
        subst hj
        rw [List.take_length]
        refine a_lss rfl rfl ?_
        refine a_cond0 rfl (by simp) ?_
        refine w_add rfl rfl hin2 ?_
        refine w_and ?_
        refine ⟨i + 1, q2, ?_, by omega⟩
        rw [hnp]
        exact Wk.back (M := 1) (by simp) (by simp) rfl (by simp [Nat.add_assoc]) (by simp [entB]; exact BdL_pure _ _ (by simp [purePs, pureC])) (by simp [Bd])
    · have hi : i = ps.length := by omega
      subst hi
      rw [List.take_length]
      refine a_lss rfl rfl ?_
      refine a_cond0 rfl (by simp) ?_
      refine w_add rfl rfl hin ?_
      refine w_and ?_
      refine ⟨k + 1, q, ?_, by omega⟩
      rw [hnx]
      exact Wk.back (M := 0) (by simp) (by simp) rfl (by simp [Nat.add_assoc]) (by simp) (by simp [Bd])
  · have hk : k = l.length := by omega
    subst hk
    rw [List.take_length]
    refine a_lss rfl rfl ?_
    refine a_cond0 rfl (by simp) ?_
    exact .pure (by simp) rfl
theorem ct_all : ∀ n, n < 2 ^ 60 → CtX n
  | 0, _ => fun l hz => by omega
  | n + 1, hn => ct_step (by omega) (ct_all n (by omega))
theorem con_count (l : List Cx) (hz : zXs l < 2 ^ 59) : Con Tryz.prog 18 [.sl 3 (encXs l)] (int (number l)) :=
  ct_all (zXs l + 1) (by omega) l (by omega)
theorem con_check1 (x : Cx) (hz : zX x < 2 ^ 60) : Con Tryz.prog 24 [.agg (encX x)] (bool (!okX 0 false false x)) := by
  refine (V24 _).gives (by simp [pureX]) (by simp) ?_
  unfold W24
  refine w_new (by rw [encX_eq]; rfl) ?_
  refine w_loadA rfl rfl (by simp [encX_eq]) ?_
  refine a_build rfl ?_
  refine w_call (by simp [encX_eq]) (by kernel_rfl) (con_whole x hz 0 false false (by omega)) ?_
  refine a_not rfl ?_
  exact .pure (by simp) rfl
theorem con_Check (l : List Cx) (hz : zXs l < 2 ^ 59) : Con Tryz.prog 10 [.sl 3 (encXs l)] (int (checkL l)) := by
  refine (V10 _).gives (by simp [pureXs]) (by simp) ?_
  unfold W10
  have hlen : (encXs l).length = l.length := by simp [encXs_map]
  have hany := con_containsX l 24 [] (fun x => !okX 0 false false x) (by simp [PureL]) (by kernel_rfl) (fun x hx => con_check1 x (by have := zXs_mem hx; omega))
  have he : l.isEmpty = decide (l.length = 0) := by cases l <;> simp
  rw [show l.any (fun x => !okX 0 false false x) = !okXs 0 false false l by rw [okXs_all]; simp [List.any_eq_not_all_not]] at hany
  repeat' (first | (with_reducible apply w_let) | (with_reducible apply w_and) | ((with_reducible first | apply a_lss | apply a_leq | apply a_gtr | apply a_geq | apply a_eql | apply a_neq); rfl; rfl) | ((with_reducible first | apply a_eqlS | apply a_neqS | apply a_eqlB | apply a_neqB); rfl; rfl) | ((with_reducible apply w_add); rfl; rfl; first | assumption | (unfold inI; omega)) | ((with_reducible apply w_sub); rfl; rfl; first | assumption | (unfold inI; omega)) | ((with_reducible apply a_not); rfl) | ((with_reducible apply w_pick_t); rfl) | ((with_reducible apply w_pick_f); rfl) | ((with_reducible apply a_cond1); rfl; first | rfl | assumption) | ((with_reducible apply a_cond0); rfl; first | rfl | assumption) | ((with_reducible apply a_guard1); rfl; first | rfl | assumption) | ((with_reducible apply a_guard0); rfl; first | rfl | assumption) | ((with_reducible apply w_guard_u); rfl) | ((with_reducible apply a_condN); rfl) | ((with_reducible apply a_guardN); rfl) | ((with_reducible apply w_fad); rfl) | ((with_reducible apply a_fadI); rfl) | ((with_reducible apply w_load); rfl; rfl; rfl) | ((with_reducible apply w_loadI); rfl) | ((with_reducible apply w_loadA); rfl; rfl; first | exact Nat.le_refl _ | exact Nat.le_of_ble_eq_true rfl) | ((with_reducible apply a_eqA); rfl; rfl; rfl) | ((with_reducible apply a_loadAI); rfl; first | rfl | simp) | ((with_reducible apply w_new); first | rfl | simp) | ((with_reducible apply a_store); rfl; rfl; rfl; rfl; (first | exact Nat.le_refl _ | simp); (first | rfl | simp); (first | rfl | simp)) | ((with_reducible apply a_lenS); rfl; intro _) | ((with_reducible apply a_len); rfl; (first | rfl | simp); intro _) | ((with_reducible apply a_build); rfl) | ((with_reducible apply a_extr); rfl; rfl) | (refine iCall_con (by kernel_rfl) (hany) ?_) | (refine iCall_con (by kernel_rfl) (con_count l hz) ?_) | ((with_reducible apply a_cond); rfl) | ((with_reducible apply a_guard); rfl) | (with_reducible intro _))
  all_goals refine .pure (by simp) ?_
  all_goals simp only [nx_zero, nx_one, AV.v.injEq, Value.bool.injEq, Value.int.injEq, true_and, hlen, he, checkL] at *
  all_goals grind
end Go.Proofs.YthblflmjingcfaaGreatDoor
end
