/-
  The reference's check of selectors: simple selectors. The reference's check of selectors: all by how great they are; whole lists. How great a list is, by the reference.
  No conditions.
-/
import Derived.Test.YthblflmjingcfaaGreatDoorR1
import Derived.Test.YthblflmjingcfaaGreatDoorS2
set_option linter.unusedVariables false
set_option linter.unusedSimpArgs false
section
namespace Go.Proofs.YthblflmjingcfaaGreatDoor
open Go Go.Aw Go.Sel
set_option maxRecDepth 100000
variable [Laid]
theorem con_bareOf' (k : Int) (na : Str) (o : Int) (v : Str) (f : Bool) (a b : Int) (w : Bool) (l : List Cx) : Con Tryz.prog 112 [.agg [u1 k, .str na, u1 o, .str v, bool f, int a, int b, bool w, .sl 3 (encXs l)]] (.agg [u1 k, .str na, u1 o, .str v, bool f, int a, int b, bool w]) := by
  have := con_bareOf (.mk k na o v f a b w l)
  rw [encS] at this
  exact this
set_option maxHeartbeats 4000000 in
theorem rkS_step {n : Nat} (hn : n < 2 ^ 60) (hX : RkX n) : RkS (n + 1) := by
  rintro ⟨k, na, o, v, f, a, b, w, l⟩ hz d has hd
  rw [zS] at hz
  refine (V86 _ _).gives (by simp [pureS]) (by simp) ?_
  unfold W86
  rw [encS, okS_eq]
  have hlen : (encXs l).length = l.length := by simp [encXs_map]
  have pX := pureXs l
  repeat' (first | (with_reducible apply w_let) | (with_reducible apply w_and) | ((with_reducible first | apply a_lss | apply a_leq | apply a_gtr | apply a_geq | apply a_eql | apply a_neq); rfl; rfl) | ((with_reducible first | apply a_eqlS | apply a_neqS | apply a_eqlB | apply a_neqB); rfl; rfl) | ((with_reducible apply w_add); rfl; rfl; first | assumption | (unfold inI; omega)) | ((with_reducible apply w_sub); rfl; rfl; first | assumption | (unfold inI; omega)) | ((with_reducible apply a_not); rfl) | ((with_reducible apply w_pick_t); rfl) | ((with_reducible apply w_pick_f); rfl) | ((with_reducible apply a_cond1); rfl; first | rfl | assumption) | ((with_reducible apply a_cond0); rfl; first | rfl | assumption) | ((with_reducible apply a_guard1); rfl; first | rfl | assumption) | ((with_reducible apply a_guard0); rfl; first | rfl | assumption) | ((with_reducible apply w_guard_u); rfl) | ((with_reducible apply a_pick1); rfl; first | rfl | assumption) | ((with_reducible apply a_pick0); rfl; first | rfl | assumption) | ((with_reducible apply a_pickN); rfl) | ((with_reducible apply a_condN); rfl) | ((with_reducible apply a_guardN); rfl) | ((with_reducible apply w_fad); rfl) | ((with_reducible apply a_fadI); rfl) | ((with_reducible apply w_load); rfl; rfl; rfl) | ((with_reducible apply w_loadI); rfl) | ((with_reducible apply w_loadA); rfl; rfl; first | exact Nat.le_refl _ | exact Nat.le_of_ble_eq_true rfl) | ((with_reducible apply a_eqA); rfl; rfl; rfl) | ((with_reducible apply a_loadAI); rfl; first | rfl | simp) | ((with_reducible apply w_new); first | rfl | simp) | ((with_reducible apply a_store); rfl; rfl; rfl; rfl; (first | exact Nat.le_refl _ | simp); (first | rfl | simp); (first | rfl | simp)) | ((with_reducible apply a_lenS); rfl; intro _) | ((with_reducible apply a_len); rfl; (first | rfl | simp); intro _) | ((with_reducible apply a_build); rfl) | ((with_reducible apply a_extr); rfl; rfl) | (refine iCall_con (by kernel_rfl) (con_bareOf' k na o v f a b w l) ?_) | (refine iCall_con (by kernel_rfl) (con_listed hn hX l (by omega) d has hd k) ?_) | (refine iCall_con (by kernel_rfl) (con_rnamed _) ?_) | (refine iCall_con (by kernel_rfl) (con_rsmall _) ?_) | (refine iCall_con (by kernel_rfl) (con_rbytes _ _) ?_) | (refine iCall_con (by kernel_rfl) (con_rvalid _ _) ?_) | ((with_reducible apply a_cond); rfl) | ((with_reducible apply a_guard); rfl) | (with_reducible intro _))
  all_goals refine .pure (by simp) ?_
  all_goals simp only [nx_zero, nx_one, AV.v.injEq, Value.bool.injEq, Value.int.injEq, true_and, hlen] at *
  all_goals grind [hasL, isNth, bareOK, freeL]
end Go.Proofs.YthblflmjingcfaaGreatDoor
end

section
namespace Go.Proofs.YthblflmjingcfaaGreatDoor
open Go Go.Aw Go.Sel
set_option maxRecDepth 100000
variable [Laid]
theorem rk_all : ∀ n, n < 2 ^ 60 → RkX n ∧ RkP n ∧ RkS n
  | 0, _ => ⟨fun x hz => by have := zX_pos x; omega, fun x hz => by have := zP_pos x; omega, fun x hz => by have := zS_pos x; omega⟩
  | n + 1, hn => by
    obtain ⟨hX, hP, hS⟩ := rk_all n (by omega)
    exact ⟨rkX_step (by omega) hP, rkP_step (by omega) hS, rkS_step (by omega) hX⟩
theorem con_rwhole (x : Cx) (hz : zX x < 2 ^ 60) (d : Nat) (has rel : Bool) (hd : d ≤ 3) : Con Tryz.prog 43 [.agg (encX x), .agg [int d, bool has], bool rel] (bool (okX d has rel x)) :=
  (rk_all (zX x) hz).1 x (Nat.le_refl _) d has rel hd
theorem con_Fine (l : List Cx) (hz : zXs l < 2 ^ 59) : Con Tryz.prog 26 [.sl 3 (encXs l)] (bool (!l.isEmpty && okXs 0 false false l)) := by
  refine (V26 _).gives (by simp [pureXs]) (by simp) ?_
  unfold W26
  have hlen : (encXs l).length = l.length := by simp [encXs_map]
  have hxl := zXs_len l
  have he : l.isEmpty = decide (l.length = 0) := by cases l <;> simp
  rw [okXs_all, he]
  refine iLoop_of (α := Nat) (fun i => i ≤ l.length ∧ (l.take i).all (okX 0 false false) = true) (fun i => [int i]) (fun _ => []) (fun i => l.length - i) 0 (by simp) (Wk.refl _ _ _ (by simp)) ?_
  rintro i ⟨hk, hI⟩
  refine a_len (n := l.length) rfl hlen fun _ => ?_
  refine a_lss rfl rfl ?_
  rcases Nat.lt_or_ge i l.length with q | q
  · obtain ⟨x, hx⟩ : ∃ s, l[i]? = some s := ⟨l[i], List.getElem?_eq_getElem q⟩
    have hin : inI ((i : Int) + 1) := by unfold inI; omega
    have nxt : (l.take (i + 1)).all (okX 0 false false) = okX 0 false false x := by
      rw [List.take_add_one, hx, List.all_append, hI]; simp
    have bad : okX 0 false false x = false → l.all (okX 0 false false) = false := by
      intro hb
      rw [List.all_eq_false]
      exact ⟨x, List.mem_of_getElem? hx, by simp [hb]⟩
    have hzs : zX x < 2 ^ 60 := by have := zXs_mem (List.mem_of_getElem? hx); omega
    refine a_cond1 rfl (by simpa using q) ?_
    refine a_idx rfl (encXs_map l) rfl hx ?_
    refine a_loadAI rfl (by simp [encX_eq]) ?_
    refine a_build rfl ?_
    refine w_call (by simp [encX_eq]) (by kernel_rfl) (con_rwhole x hzs 0 false false (by omega)) ?_
    repeat' (first | (with_reducible apply w_let) | (with_reducible apply w_and) | ((with_reducible first | apply a_lss | apply a_leq | apply a_gtr | apply a_geq | apply a_eql | apply a_neq); rfl; rfl) | ((with_reducible first | apply a_eqlS | apply a_neqS | apply a_eqlB | apply a_neqB); rfl; rfl) | ((with_reducible apply w_add); rfl; rfl; first | assumption | (unfold inI; omega)) | ((with_reducible apply w_sub); rfl; rfl; first | assumption | (unfold inI; omega)) | ((with_reducible apply a_not); rfl) | ((with_reducible apply w_pick_t); rfl) | ((with_reducible apply w_pick_f); rfl) | ((with_reducible apply a_cond1); rfl; first | rfl | assumption) | ((with_reducible apply a_cond0); rfl; first | rfl | assumption) | ((with_reducible apply a_guard1); rfl; first | rfl | assumption) | ((with_reducible apply a_guard0); rfl; first | rfl | assumption) | ((with_reducible apply w_guard_u); rfl) | ((with_reducible apply a_pick1); rfl; first | rfl | assumption) | ((with_reducible apply a_pick0); rfl; first | rfl | assumption) | ((with_reducible apply a_pickN); rfl) | ((with_reducible apply a_condN); rfl) | ((with_reducible apply a_guardN); rfl) | ((with_reducible apply w_fad); rfl) | ((with_reducible apply a_fadI); rfl) | ((with_reducible apply w_load); rfl; rfl; rfl) | ((with_reducible apply w_loadI); rfl) | ((with_reducible apply w_loadA); rfl; rfl; first | exact Nat.le_refl _ | exact Nat.le_of_ble_eq_true rfl) | ((with_reducible apply a_eqA); rfl; rfl; rfl) | ((with_reducible apply a_loadAI); rfl; first | rfl | simp) | ((with_reducible apply w_new); first | rfl | simp) | ((with_reducible apply a_store); rfl; rfl; rfl; rfl; (first | exact Nat.le_refl _ | simp); (first | rfl | simp); (first | rfl | simp)) | ((with_reducible apply a_lenS); rfl; intro _) | ((with_reducible apply a_len); rfl; (first | rfl | simp); intro _) | ((with_reducible apply a_build); rfl) | ((with_reducible apply a_extr); rfl; rfl) | ((with_reducible apply a_cond); rfl) | ((with_reducible apply a_guard); rfl) | (with_reducible intro _))
    all_goals first
      | exact .pure (by simp) (by rw [bad (by grind)]; simp)
      | exact ⟨i + 1, ⟨q, by rw [nxt]; grind⟩, Wk.refl _ _ _ (by simp), by omega⟩
  · have hk : i = l.length := by omega
    subst hk
    rw [List.take_length] at hI
    refine a_cond0 rfl (by simp) ?_
    refine a_len (n := l.length) rfl hlen fun _ => ?_
    refine a_gtr rfl rfl ?_
    refine .pure (by simp) ?_
    rw [hI]
    simp only [AV.v.injEq, Value.bool.injEq]
    grind
def NmX (n : Nat) : Prop := ∀ l : List Cx, zXs l < n → Con Tryz.prog 12 [.sl 3 (encXs l)] (int (number l))
set_option maxHeartbeats 1000000 in
theorem nm_step {n : Nat} (hn : n < 2 ^ 60) (hC : NmX n) : NmX (n + 1) := by
  intro l hz
  refine (V12 _).gives (by simp [pureXs]) (by simp) ?_
  unfold W12
  have hl := nXs_le l
  have hlen : (encXs l).length = l.length := by simp [encXs_map]
  refine a_len (n := l.length) rfl hlen fun _ => ?_
  refine iLoop_of (α := Nat) (fun k => k ≤ l.length) (fun k => [int ((l.length + nXs (l.take k) : Nat) : Int), int k]) (fun _ => []) (fun k => l.length - k) 0 (by simp) (by simpa [nXs] using Wk.refl _ _ _ (by simp)) ?_
  intro k hk
  refine a_len (n := l.length) rfl hlen fun _ => ?_
  refine a_lss rfl rfl ?_
  rcases Nat.lt_or_ge k l.length with q | q
  · obtain ⟨⟨le, ps, cs⟩, hx⟩ : ∃ x, l[k]? = some x := ⟨l[k], List.getElem?_eq_getElem q⟩
    have hin : inI ((k : Int) + 1) := by unfold inI; omega
    have hzx := zXs_mem (List.mem_of_getElem? hx)
    rw [zX] at hzx
    have hnx := nXs_take hx
    rw [nX] at hnx
    have hle := nXs_take_le l (k + 1)
    have hpl : (encPs ps).length = ps.length := by simp [encPs_map]
    refine a_cond1 rfl (by simpa using q) ?_
    refine iLoop_of (α := Nat) (fun i => i ≤ ps.length) (fun i => [int ((l.length + nXs (l.take k) + nPs (ps.take i) : Nat) : Int), int i]) (fun _ => []) (fun i => ps.length - i) 0 (by simp) (by simpa [nPs] using Wk.refl _ _ _ (by simp)) ?_
    intro i hi
    refine a_idx rfl (encXs_map l) rfl hx ?_
    rw [encX]
    refine a_fadI rfl ?_
    refine w_loadI rfl ?_
    refine a_len (n := ps.length) rfl hpl fun _ => ?_
    refine a_lss rfl rfl ?_
    rcases Nat.lt_or_ge i ps.length with q2 | q2
    · obtain ⟨⟨t, ss⟩, hp⟩ : ∃ x, ps[i]? = some x := ⟨ps[i], List.getElem?_eq_getElem q2⟩
      have hin2 : inI ((i : Int) + 1) := by have := zPs_len ps; unfold inI; omega
      have hzp := zPs_mem (List.mem_of_getElem? hp)
      rw [zP] at hzp
      have hnp := nPs_take hp
      rw [nP] at hnp
      have hle2 := nPs_take_le ps (i + 1)
      have hsl : (encSs ss).length = ss.length := by simp [encSs_map]
      refine a_cond1 rfl (by simpa using q2) ?_
      refine a_idx rfl (encXs_map l) rfl hx ?_
      rw [encX]
      refine a_fadI rfl ?_
      refine w_loadI rfl ?_
      refine a_idx rfl (encPs_map ps) rfl hp ?_
      rw [encP]
      refine a_fadI rfl ?_
      refine w_loadI rfl ?_
      refine iLoop_of (α := Nat) (fun j => j ≤ ss.length) (fun j => [int ((l.length + nXs (l.take k) + nPs (ps.take i) + nSs (ss.take j) : Nat) : Int), int j]) (fun _ => []) (fun j => ss.length - j) 0 (by simp) (by simpa [nSs] using Wk.refl _ _ _ (by simp)) ?_
      intro j hj
      refine a_len (n := ss.length) rfl hsl fun _ => ?_
      refine a_lss rfl rfl ?_
      rcases Nat.lt_or_ge j ss.length with q3 | q3
      · obtain ⟨⟨kd, na, o, v, f, a, b, w, l2⟩, hs⟩ : ∃ x, ss[j]? = some x := ⟨ss[j], List.getElem?_eq_getElem q3⟩
        have hin3 : inI ((j : Int) + 1) := by have := zSs_len ss; unfold inI; omega
        have hzs := zSs_mem (List.mem_of_getElem? hs)
        rw [zS] at hzs
        have hns := nSs_take hs
        rw [nS] at hns
        have hle3 := nSs_take_le ss (j + 1)
        have hin4 : inI (((l.length + nXs (l.take k) + nPs (ps.take i) + nSs (ss.take j) : Nat) : Int) + (number l2 : Int)) := by unfold number inI; omega
        refine a_cond1 rfl (by simpa using q3) ?_
        refine a_idx rfl (encSs_map ss) rfl hs ?_
        rw [encS]
        refine a_fadI rfl ?_
        refine w_loadI rfl ?_
        refine iCall_con (by kernel_rfl) (hC l2 (by omega)) ?_
        refine w_add rfl rfl hin4 ?_
        refine w_add rfl rfl hin3 ?_
        refine w_and ?_
        refine ⟨j + 1, q3, ?_, by omega⟩
        have e : ((l.length + nXs (l.take k) + nPs (ps.take i) + nSs (ss.take j) : Nat) : Int) + (number l2 : Int) = ((l.length + nXs (l.take k) + nPs (ps.take i) + nSs (ss.take (j + 1)) : Nat) : Int) := by rw [hns]; unfold number; omega
        rw [e]
        exact Wk.refl _ _ _ (by simp)
      · have hj : j = ss.length := by omega
        subst hj
        rw [List.take_length]
        refine a_cond0 rfl (by simp) ?_
        refine w_add rfl rfl hin2 ?_
        refine w_and ?_
        refine ⟨i + 1, q2, ?_, by omega⟩
        rw [hnp]
        simpa [Nat.add_assoc] using Wk.refl _ _ _ (by simp)
    · have hi : i = ps.length := by omega
      subst hi
      rw [List.take_length]
      refine a_cond0 rfl (by simp) ?_
      refine w_add rfl rfl hin ?_
      refine w_and ?_
      refine ⟨k + 1, q, ?_, by omega⟩
      rw [hnx]
      simpa [Nat.add_assoc] using Wk.refl _ _ _ (by simp)
  · have hk : k = l.length := by omega
    subst hk
    rw [List.take_length]
    refine a_cond0 rfl (by simp) ?_
    exact .pure (by simp) rfl
theorem nm_all : ∀ n, n < 2 ^ 60 → NmX n
  | 0, _ => fun l hz => by omega
  | n + 1, hn => nm_step (by omega) (nm_all n (by omega))
theorem con_Number (l : List Cx) (hz : zXs l < 2 ^ 59) : Con Tryz.prog 12 [.sl 3 (encXs l)] (int (number l)) :=
  nm_all (zXs l + 1) (by omega) l (by omega)
theorem con_rCheck (l : List Cx) (hz : zXs l < 2 ^ 59) : Con Tryz.prog 11 [.sl 3 (encXs l)] (int (checkL l)) := by
  refine (V11 _).gives (by simp [pureXs]) (by simp) ?_
  unfold W11
  repeat' (first | (with_reducible apply w_let) | (with_reducible apply w_and) | ((with_reducible first | apply a_lss | apply a_leq | apply a_gtr | apply a_geq | apply a_eql | apply a_neq); rfl; rfl) | ((with_reducible first | apply a_eqlS | apply a_neqS | apply a_eqlB | apply a_neqB); rfl; rfl) | ((with_reducible apply w_add); rfl; rfl; first | assumption | (unfold inI; omega)) | ((with_reducible apply w_sub); rfl; rfl; first | assumption | (unfold inI; omega)) | ((with_reducible apply a_not); rfl) | ((with_reducible apply w_pick_t); rfl) | ((with_reducible apply w_pick_f); rfl) | ((with_reducible apply a_cond1); rfl; first | rfl | assumption) | ((with_reducible apply a_cond0); rfl; first | rfl | assumption) | ((with_reducible apply a_guard1); rfl; first | rfl | assumption) | ((with_reducible apply a_guard0); rfl; first | rfl | assumption) | ((with_reducible apply w_guard_u); rfl) | ((with_reducible apply a_pick1); rfl; first | rfl | assumption) | ((with_reducible apply a_pick0); rfl; first | rfl | assumption) | ((with_reducible apply a_pickN); rfl) | ((with_reducible apply a_condN); rfl) | ((with_reducible apply a_guardN); rfl) | ((with_reducible apply w_fad); rfl) | ((with_reducible apply a_fadI); rfl) | ((with_reducible apply w_load); rfl; rfl; rfl) | ((with_reducible apply w_loadI); rfl) | ((with_reducible apply w_loadA); rfl; rfl; first | exact Nat.le_refl _ | exact Nat.le_of_ble_eq_true rfl) | ((with_reducible apply a_eqA); rfl; rfl; rfl) | ((with_reducible apply a_loadAI); rfl; first | rfl | simp) | ((with_reducible apply w_new); first | rfl | simp) | ((with_reducible apply a_store); rfl; rfl; rfl; rfl; (first | exact Nat.le_refl _ | simp); (first | rfl | simp); (first | rfl | simp)) | ((with_reducible apply a_lenS); rfl; intro _) | ((with_reducible apply a_len); rfl; (first | rfl | simp); intro _) | ((with_reducible apply a_build); rfl) | ((with_reducible apply a_extr); rfl; rfl) | (refine iCall_con (by kernel_rfl) (con_Fine l hz) ?_) | (refine iCall_con (by kernel_rfl) (con_Number l hz) ?_) | ((with_reducible apply a_cond); rfl) | ((with_reducible apply a_guard); rfl) | (with_reducible intro _))
  all_goals refine .pure (by simp) ?_
  all_goals simp only [nx_zero, nx_one, AV.v.injEq, Value.bool.injEq, Value.int.injEq, true_and, checkL] at *
  all_goals grind
end Go.Proofs.YthblflmjingcfaaGreatDoor
end

section
namespace Go.Sel
open Go Go.Aw
mutual
def szXs (lim n : Nat) : List Cx → Nat
  | [] => n
  | x :: l => if n ≤ lim then szXs lim (szX lim n x) l else n
def szX (lim n : Nat) : Cx → Nat
  | .mk _ ps cs => szPs lim (n + (1 + cs.length)) ps
def szPs (lim n : Nat) : List Cp → Nat
  | [] => n
  | p :: l => if n ≤ lim then szPs lim (szP lim n p) l else n
def szP (lim n : Nat) : Cp → Nat
  | .mk t ss => szSs lim (n + (1 + t.length)) ss
def szSs (lim n : Nat) : List Sm → Nat
  | [] => n
  | s :: l => if n ≤ lim then szSs lim (szS lim n s) l else n
def szS (lim n : Nat) : Sm → Nat
  | .mk _ na _ v _ _ _ _ l => n + (1 + na.length + v.length + szXs (lim - n) 0 l)
end
mutual
theorem szXs_le (lim n : Nat) : ∀ l, szXs lim n l ≤ n + zXs l ∧ (szXs lim n l ≤ lim → szXs lim n l = n + zXs l) ∧ n ≤ szXs lim n l
  | [] => by rw [szXs, zXs]; omega
  | x :: l => by
    have h1 := szX_le lim n x
    have h2 := szXs_le lim (szX lim n x) l
    rw [szXs, zXs]
    split <;> omega
theorem szX_le (lim n : Nat) : ∀ x, szX lim n x ≤ n + zX x ∧ (szX lim n x ≤ lim → szX lim n x = n + zX x) ∧ n ≤ szX lim n x
  | .mk _ ps cs => by
    have := szPs_le lim (n + (1 + cs.length)) ps
    rw [szX, zX]; omega
theorem szPs_le (lim n : Nat) : ∀ l, szPs lim n l ≤ n + zPs l ∧ (szPs lim n l ≤ lim → szPs lim n l = n + zPs l) ∧ n ≤ szPs lim n l
  | [] => by rw [szPs, zPs]; omega
  | x :: l => by
    have h1 := szP_le lim n x
    have h2 := szPs_le lim (szP lim n x) l
    rw [szPs, zPs]
    split <;> omega
theorem szP_le (lim n : Nat) : ∀ x, szP lim n x ≤ n + zP x ∧ (szP lim n x ≤ lim → szP lim n x = n + zP x) ∧ n ≤ szP lim n x
  | .mk t ss => by
    have := szSs_le lim (n + (1 + t.length)) ss
    rw [szP, zP]; omega
theorem szSs_le (lim n : Nat) : ∀ l, szSs lim n l ≤ n + zSs l ∧ (szSs lim n l ≤ lim → szSs lim n l = n + zSs l) ∧ n ≤ szSs lim n l
  | [] => by rw [szSs, zSs]; omega
  | x :: l => by
    have h1 := szS_le lim n x
    have h2 := szSs_le lim (szS lim n x) l
    rw [szSs, zSs]
    split <;> omega
theorem szS_le (lim n : Nat) : ∀ x, szS lim n x ≤ n + zS x ∧ (szS lim n x ≤ lim → szS lim n x = n + zS x) ∧ n ≤ szS lim n x
  | .mk _ na _ v _ _ _ _ l => by
    have := szXs_le (lim - n) 0 l
    rw [szS, zS]; omega
end
theorem drop_cons {α : Type} {l : List α} {k : Nat} {x : α} (h : l[k]? = some x) : l.drop k = x :: l.drop (k + 1) := by
  obtain ⟨hk, rfl⟩ := List.getElem?_eq_some_iff.1 h
  exact List.drop_eq_getElem_cons hk
end Go.Sel
namespace Go.Proofs.YthblflmjingcfaaGreatDoor
open Go Go.Aw Go.Sel
set_option maxRecDepth 100000
theorem a_lenSQ {x : AV} {l : List UInt8} {K : AV → Prop} (e : x = .str l) (q : K (int l.length)) : iLenSQ x K := by subst e; exact q
variable [Laid]
def ZzX (m : Nat) : Prop := ∀ l : List Cx, zXs l < m → ∀ lim : Nat, lim < 2 ^ 60 → Con Tryz.prog 17 [.sl 3 (encXs l), int lim] (int (szXs lim 0 l))
set_option maxHeartbeats 2000000 in
theorem zz_step {m : Nat} (hm : m < 2 ^ 60) (hC : ZzX m) : ZzX (m + 1) := by
  intro l hz lim hlim
  refine (V17 _ _).gives (by simp [pureXs]) (by simp) ?_
  unfold W17
  have hlen : (encXs l).length = l.length := by simp [encXs_map]
  have hxl := zXs_len l
  refine iLoop_of (α := Nat × Nat) (fun p => p.2 ≤ l.length ∧ szXs lim p.1 (l.drop p.2) = szXs lim 0 l ∧ p.1 + zXs (l.drop p.2) ≤ zXs l) (fun p => [int p.1, int p.2]) (fun _ => []) (fun p => l.length - p.2) (0, 0) (by simp) (Wk.refl _ _ _ (by simp)) ?_
  rintro ⟨n, k⟩ ⟨hk, hI, hB⟩
  simp only at hk hI hB ⊢
  rcases Nat.lt_or_ge k l.length with q | q
  · obtain ⟨⟨le, ps, cs⟩, hx⟩ : ∃ x, l[k]? = some x := ⟨l[k], List.getElem?_eq_getElem q⟩
    have hd := drop_cons hx
    have q' : decide ((k : Int) < ((encXs l).length : Int)) = true := by rw [hlen]; simpa using q
    rw [hd, szXs] at hI
    rw [hd, zXs, zX] at hB
    by_cases c : n ≤ lim
    · have c' : decide ((n : Int) ≤ (lim : Int)) = true := by simpa using c
      rw [if_pos c, szX] at hI
      have h1 : inI (1 + ((cs.map fun c => [u1 c]).length : Int)) := by rw [List.length_map]; unfold inI; omega
      have h2 : inI ((n : Int) + (1 + ((cs.map fun c => [u1 c]).length : Int))) := by rw [List.length_map]; unfold inI; omega
      have h3 : inI ((k : Int) + 1) := by unfold inI; omega
      repeat' (first | (with_reducible first | apply w_let | apply w_and | refine And.intro True.intro ?_) | ((with_reducible first | apply a_lss | apply a_leq | apply a_gtr | apply a_geq | apply a_eql | apply a_neq); rfl; rfl) | ((with_reducible first | apply a_eqlS | apply a_neqS | apply a_eqlB | apply a_neqB); rfl; rfl) | ((with_reducible apply w_add); rfl; rfl; first | assumption | (unfold inI; omega)) | ((with_reducible apply w_sub); rfl; rfl; first | assumption | (unfold inI; omega)) | ((with_reducible apply a_not); rfl) | ((with_reducible apply w_pick_t); rfl) | ((with_reducible apply w_pick_f); rfl) | ((with_reducible apply a_cond1); rfl; first | rfl | assumption) | ((with_reducible apply a_cond0); rfl; first | rfl | assumption) | ((with_reducible apply a_guard1); rfl; first | rfl | assumption) | ((with_reducible apply a_guard0); rfl; first | rfl | assumption) | ((with_reducible apply w_guard_u); rfl) | ((with_reducible apply a_pick1); rfl; first | rfl | assumption) | ((with_reducible apply a_pick0); rfl; first | rfl | assumption) | ((with_reducible apply a_pickN); rfl) | ((with_reducible apply a_condN); rfl) | ((with_reducible apply a_guardN); rfl) | ((with_reducible apply w_fad); rfl) | ((with_reducible apply a_fadI); rfl) | ((with_reducible apply w_load); rfl; rfl; rfl) | ((with_reducible apply w_loadI); rfl) | ((with_reducible apply w_loadA); rfl; rfl; first | exact Nat.le_refl _ | exact Nat.le_of_ble_eq_true rfl) | ((with_reducible apply a_eqA); rfl; rfl; rfl) | ((with_reducible apply a_loadAI); rfl; first | rfl | simp) | ((with_reducible apply w_new); first | rfl | simp) | ((with_reducible apply a_store); rfl; rfl; rfl; rfl; (first | exact Nat.le_refl _ | simp); (first | rfl | simp); (first | rfl | simp)) | ((with_reducible apply a_lenS); rfl; intro _) | ((with_reducible apply a_len); rfl; (first | rfl | simp); intro _) | ((with_reducible apply a_build); rfl) | ((with_reducible apply a_extr); rfl; rfl) | (refine a_idx rfl (encXs_map l) rfl hx ?_) | (rw [encX]) | ((with_reducible apply a_cond); rfl) | ((with_reducible apply a_guard); rfl) | (with_reducible intro _))
      have hpl : (encPs ps).length = ps.length := by simp [encPs_map]
      have hpl2 := zPs_len ps
      refine iLoop_of (α := Nat × Nat) (fun p => p.2 ≤ ps.length ∧ szPs lim p.1 (ps.drop p.2) = szPs lim (n + (1 + cs.length)) ps ∧ p.1 + zPs (ps.drop p.2) ≤ n + (1 + cs.length) + zPs ps) (fun p => [int p.1, int p.2]) (fun _ => []) (fun p => ps.length - p.2) (n + (1 + cs.length), 0) (by simp) (by simpa using Wk.refl _ _ _ (by simp)) ?_
      rintro ⟨n2, k2⟩ ⟨hk2, hI2, hB2⟩
      simp only at hk2 hI2 hB2 ⊢
      rcases Nat.lt_or_ge k2 ps.length with q2 | q2
      · obtain ⟨⟨t, ss⟩, hx2⟩ : ∃ x, ps[k2]? = some x := ⟨ps[k2], List.getElem?_eq_getElem q2⟩
        have hd2 := drop_cons hx2
        have q2' : decide ((k2 : Int) < ((encPs ps).length : Int)) = true := by rw [hpl]; simpa using q2
        rw [hd2, szPs] at hI2
        rw [hd2, zPs, zP] at hB2
        by_cases c2 : n2 ≤ lim
        · have c2' : decide ((n2 : Int) ≤ (lim : Int)) = true := by simpa using c2
          rw [if_pos c2, szP] at hI2
          have h4 : inI (1 + (t.length : Int)) := by unfold inI; omega
          have h5 : inI ((n2 : Int) + (1 + (t.length : Int))) := by unfold inI; omega
          have h6 : inI ((k2 : Int) + 1) := by unfold inI; omega
          repeat' (first | (with_reducible first | apply w_let | apply w_and | refine And.intro True.intro ?_) | ((with_reducible first | apply a_lss | apply a_leq | apply a_gtr | apply a_geq | apply a_eql | apply a_neq); rfl; rfl) | ((with_reducible first | apply a_eqlS | apply a_neqS | apply a_eqlB | apply a_neqB); rfl; rfl) | ((with_reducible apply w_add); rfl; rfl; first | assumption | (unfold inI; omega)) | ((with_reducible apply w_sub); rfl; rfl; first | assumption | (unfold inI; omega)) | ((with_reducible apply a_not); rfl) | ((with_reducible apply w_pick_t); rfl) | ((with_reducible apply w_pick_f); rfl) | ((with_reducible apply a_cond1); rfl; first | rfl | assumption) | ((with_reducible apply a_cond0); rfl; first | rfl | assumption) | ((with_reducible apply a_guard1); rfl; first | rfl | assumption) | ((with_reducible apply a_guard0); rfl; first | rfl | assumption) | ((with_reducible apply w_guard_u); rfl) | ((with_reducible apply a_pick1); rfl; first | rfl | assumption) | ((with_reducible apply a_pick0); rfl; first | rfl | assumption) | ((with_reducible apply a_pickN); rfl) | ((with_reducible apply a_condN); rfl) | ((with_reducible apply a_guardN); rfl) | ((with_reducible apply w_fad); rfl) | ((with_reducible apply a_fadI); rfl) | ((with_reducible apply w_load); rfl; rfl; rfl) | ((with_reducible apply w_loadI); rfl) | ((with_reducible apply w_loadA); rfl; rfl; first | exact Nat.le_refl _ | exact Nat.le_of_ble_eq_true rfl) | ((with_reducible apply a_eqA); rfl; rfl; rfl) | ((with_reducible apply a_loadAI); rfl; first | rfl | simp) | ((with_reducible apply w_new); first | rfl | simp) | ((with_reducible apply a_store); rfl; rfl; rfl; rfl; (first | exact Nat.le_refl _ | simp); (first | rfl | simp); (first | rfl | simp)) | ((with_reducible apply a_lenS); rfl; intro _) | ((with_reducible apply a_len); rfl; (first | rfl | simp); intro _) | ((with_reducible apply a_build); rfl) | ((with_reducible apply a_extr); rfl; rfl) | (refine a_idx rfl (encXs_map l) rfl hx ?_) | (refine a_idx rfl (encPs_map ps) rfl hx2 ?_) | (rw [encX]) | (rw [encP]) | ((with_reducible apply a_cond); rfl) | ((with_reducible apply a_guard); rfl) | (with_reducible intro _))
          have hsl : (encSs ss).length = ss.length := by simp [encSs_map]
          have hsl2 := zSs_len ss
          refine iLoop_of (α := Nat × Nat) (fun p => p.2 ≤ ss.length ∧ szSs lim p.1 (ss.drop p.2) = szSs lim (n2 + (1 + t.length)) ss ∧ p.1 + zSs (ss.drop p.2) ≤ n2 + (1 + t.length) + zSs ss) (fun p => [int p.1, int p.2]) (fun _ => []) (fun p => ss.length - p.2) (n2 + (1 + t.length), 0) (by simp) (by simpa using Wk.refl _ _ _ (by simp)) ?_
          rintro ⟨n3, k3⟩ ⟨hk3, hI3, hB3⟩
          simp only at hk3 hI3 hB3 ⊢
          rcases Nat.lt_or_ge k3 ss.length with q3 | q3
          · obtain ⟨⟨kd, na, o, v, f, a, b, w, l2⟩, hx3⟩ : ∃ x, ss[k3]? = some x := ⟨ss[k3], List.getElem?_eq_getElem q3⟩
            have hd3 := drop_cons hx3
            have q3' : decide ((k3 : Int) < ((encSs ss).length : Int)) = true := by rw [hsl]; simpa using q3
            rw [hd3, szSs] at hI3
            rw [hd3, zSs, zS] at hB3
            by_cases c3 : n3 ≤ lim
            · have c3' : decide ((n3 : Int) ≤ (lim : Int)) = true := by simpa using c3
              rw [if_pos c3, szS] at hI3
              have hle := szXs_le (lim - n3) 0 l2
              have h7 : inI (1 + (na.length : Int)) := by unfold inI; omega
              have h8 : inI (1 + (na.length : Int) + (v.length : Int)) := by unfold inI; omega
              have h9 : inI ((lim : Int) - (n3 : Int)) := by unfold inI; omega
              have h10 : inI (1 + (na.length : Int) + (v.length : Int) + ((szXs (lim - n3) 0 l2 : Nat) : Int)) := by unfold inI; omega
              have h11 : inI ((n3 : Int) + (1 + (na.length : Int) + (v.length : Int) + ((szXs (lim - n3) 0 l2 : Nat) : Int))) := by unfold inI; omega
              have h12 : inI ((k3 : Int) + 1) := by unfold inI; omega
              have hs : int ((lim : Int) - (n3 : Int)) = int ((lim - n3 : Nat) : Int) := by rw [show ((lim : Int) - (n3 : Int)) = ((lim - n3 : Nat) : Int) by omega]
              have hcon := hC l2 (by omega) (lim - n3) (by omega)
              repeat' (first | (with_reducible first | apply w_let | apply w_and | refine And.intro True.intro ?_) | ((with_reducible first | apply a_lss | apply a_leq | apply a_gtr | apply a_geq | apply a_eql | apply a_neq); rfl; rfl) | ((with_reducible first | apply a_eqlS | apply a_neqS | apply a_eqlB | apply a_neqB); rfl; rfl) | ((with_reducible apply w_add); rfl; rfl; first | assumption | (unfold inI; omega)) | ((with_reducible apply w_sub); rfl; rfl; first | assumption | (unfold inI; omega)) | ((with_reducible apply a_not); rfl) | ((with_reducible apply w_pick_t); rfl) | ((with_reducible apply w_pick_f); rfl) | ((with_reducible apply a_cond1); rfl; first | rfl | assumption) | ((with_reducible apply a_cond0); rfl; first | rfl | assumption) | ((with_reducible apply a_guard1); rfl; first | rfl | assumption) | ((with_reducible apply a_guard0); rfl; first | rfl | assumption) | ((with_reducible apply w_guard_u); rfl) | ((with_reducible apply a_pick1); rfl; first | rfl | assumption) | ((with_reducible apply a_pick0); rfl; first | rfl | assumption) | ((with_reducible apply a_pickN); rfl) | ((with_reducible apply a_condN); rfl) | ((with_reducible apply a_guardN); rfl) | ((with_reducible apply w_fad); rfl) | ((with_reducible apply a_fadI); rfl) | ((with_reducible apply w_load); rfl; rfl; rfl) | ((with_reducible apply w_loadI); rfl) | ((with_reducible apply w_loadA); rfl; rfl; first | exact Nat.le_refl _ | exact Nat.le_of_ble_eq_true rfl) | ((with_reducible apply a_eqA); rfl; rfl; rfl) | ((with_reducible apply a_loadAI); rfl; first | rfl | simp) | ((with_reducible apply w_new); first | rfl | simp) | ((with_reducible apply a_store); rfl; rfl; rfl; rfl; (first | exact Nat.le_refl _ | simp); (first | rfl | simp); (first | rfl | simp)) | ((with_reducible apply a_lenS); rfl; intro _) | ((with_reducible apply a_len); rfl; (first | rfl | simp); intro _) | ((with_reducible apply a_build); rfl) | ((with_reducible apply a_extr); rfl; rfl) | (refine a_idx rfl (encSs_map ss) rfl hx3 ?_) | (rw [encS]) | ((with_reducible apply a_lenSQ); rfl) | (refine w_callQ (by rw [hs]) (by kernel_rfl) hcon ?_) | ((with_reducible apply a_cond); rfl) | ((with_reducible apply a_guard); rfl) | (with_reducible intro _))
              refine ⟨(n3 + (1 + na.length + v.length + szXs (lim - n3) 0 l2), k3 + 1), ⟨by simp; omega, hI3, by simp; omega⟩, by simpa using Wk.refl _ _ _ (by simp), by simp; omega⟩
            · have c3' : decide ((n3 : Int) ≤ (lim : Int)) = false := by simpa using c3
              rw [if_neg c3] at hI3
              have h6 : inI ((k2 : Int) + 1) := by unfold inI; omega
              repeat' (first | (with_reducible first | apply w_let | apply w_and | refine And.intro True.intro ?_) | ((with_reducible first | apply a_lss | apply a_leq | apply a_gtr | apply a_geq | apply a_eql | apply a_neq); rfl; rfl) | ((with_reducible first | apply a_eqlS | apply a_neqS | apply a_eqlB | apply a_neqB); rfl; rfl) | ((with_reducible apply w_add); rfl; rfl; first | assumption | (unfold inI; omega)) | ((with_reducible apply w_sub); rfl; rfl; first | assumption | (unfold inI; omega)) | ((with_reducible apply a_not); rfl) | ((with_reducible apply w_pick_t); rfl) | ((with_reducible apply w_pick_f); rfl) | ((with_reducible apply a_cond1); rfl; first | rfl | assumption) | ((with_reducible apply a_cond0); rfl; first | rfl | assumption) | ((with_reducible apply a_guard1); rfl; first | rfl | assumption) | ((with_reducible apply a_guard0); rfl; first | rfl | assumption) | ((with_reducible apply w_guard_u); rfl) | ((with_reducible apply a_pick1); rfl; first | rfl | assumption) | ((with_reducible apply a_pick0); rfl; first | rfl | assumption) | ((with_reducible apply a_pickN); rfl) | ((with_reducible apply a_condN); rfl) | ((with_reducible apply a_guardN); rfl) | ((with_reducible apply w_fad); rfl) | ((with_reducible apply a_fadI); rfl) | ((with_reducible apply w_load); rfl; rfl; rfl) | ((with_reducible apply w_loadI); rfl) | ((with_reducible apply w_loadA); rfl; rfl; first | exact Nat.le_refl _ | exact Nat.le_of_ble_eq_true rfl) | ((with_reducible apply a_eqA); rfl; rfl; rfl) | ((with_reducible apply a_loadAI); rfl; first | rfl | simp) | ((with_reducible apply w_new); first | rfl | simp) | ((with_reducible apply a_store); rfl; rfl; rfl; rfl; (first | exact Nat.le_refl _ | simp); (first | rfl | simp); (first | rfl | simp)) | ((with_reducible apply a_lenS); rfl; intro _) | ((with_reducible apply a_len); rfl; (first | rfl | simp); intro _) | ((with_reducible apply a_build); rfl) | ((with_reducible apply a_extr); rfl; rfl) | ((with_reducible apply a_cond); rfl) | ((with_reducible apply a_guard); rfl) | (with_reducible intro _))
              refine ⟨(n3, k2 + 1), ⟨by simp; omega, by simp only; rw [hI3]; exact hI2, by simp; omega⟩, by simpa using Wk.refl _ _ _ (by simp), by simp; omega⟩
          · have hk : k3 = ss.length := by omega
            subst hk
            have q3' : decide ((ss.length : Int) < ((encSs ss).length : Int)) = false := by rw [hsl]; simp
            rw [List.drop_length, szSs] at hI3
            rw [List.drop_length, zSs] at hB3
            repeat' (first | (with_reducible first | apply w_let | apply w_and | refine And.intro True.intro ?_) | ((with_reducible first | apply a_lss | apply a_leq | apply a_gtr | apply a_geq | apply a_eql | apply a_neq); rfl; rfl) | ((with_reducible first | apply a_eqlS | apply a_neqS | apply a_eqlB | apply a_neqB); rfl; rfl) | ((with_reducible apply w_add); rfl; rfl; first | assumption | (unfold inI; omega)) | ((with_reducible apply w_sub); rfl; rfl; first | assumption | (unfold inI; omega)) | ((with_reducible apply a_not); rfl) | ((with_reducible apply w_pick_t); rfl) | ((with_reducible apply w_pick_f); rfl) | ((with_reducible apply a_cond1); rfl; first | rfl | assumption) | ((with_reducible apply a_cond0); rfl; first | rfl | assumption) | ((with_reducible apply a_guard1); rfl; first | rfl | assumption) | ((with_reducible apply a_guard0); rfl; first | rfl | assumption) | ((with_reducible apply w_guard_u); rfl) | ((with_reducible apply a_pick1); rfl; first | rfl | assumption) | ((with_reducible apply a_pick0); rfl; first | rfl | assumption) | ((with_reducible apply a_pickN); rfl) | ((with_reducible apply a_condN); rfl) | ((with_reducible apply a_guardN); rfl) | ((with_reducible apply w_fad); rfl) | ((with_reducible apply a_fadI); rfl) | ((with_reducible apply w_load); rfl; rfl; rfl) | ((with_reducible apply w_loadI); rfl) | ((with_reducible apply w_loadA); rfl; rfl; first | exact Nat.le_refl _ | exact Nat.le_of_ble_eq_true rfl) | ((with_reducible apply a_eqA); rfl; rfl; rfl) | ((with_reducible apply a_loadAI); rfl; first | rfl | simp) | ((with_reducible apply w_new); first | rfl | simp) | ((with_reducible apply a_store); rfl; rfl; rfl; rfl; (first | exact Nat.le_refl _ | simp); (first | rfl | simp); (first | rfl | simp)) | ((with_reducible apply a_lenS); rfl; intro _) | ((with_reducible apply a_len); rfl; (first | rfl | simp); intro _) | ((with_reducible apply a_build); rfl) | ((with_reducible apply a_extr); rfl; rfl) | ((with_reducible apply a_cond); rfl) | ((with_reducible apply a_guard); rfl) | (with_reducible intro _))
            refine ⟨(n3, k2 + 1), ⟨by simp; omega, by simp only; rw [hI3]; exact hI2, by simp; omega⟩, by simpa using Wk.refl _ _ _ (by simp), by simp; omega⟩
        · have c2' : decide ((n2 : Int) ≤ (lim : Int)) = false := by simpa using c2
          rw [if_neg c2] at hI2
          repeat' (first | (with_reducible first | apply w_let | apply w_and | refine And.intro True.intro ?_) | ((with_reducible first | apply a_lss | apply a_leq | apply a_gtr | apply a_geq | apply a_eql | apply a_neq); rfl; rfl) | ((with_reducible first | apply a_eqlS | apply a_neqS | apply a_eqlB | apply a_neqB); rfl; rfl) | ((with_reducible apply w_add); rfl; rfl; first | assumption | (unfold inI; omega)) | ((with_reducible apply w_sub); rfl; rfl; first | assumption | (unfold inI; omega)) | ((with_reducible apply a_not); rfl) | ((with_reducible apply w_pick_t); rfl) | ((with_reducible apply w_pick_f); rfl) | ((with_reducible apply a_cond1); rfl; first | rfl | assumption) | ((with_reducible apply a_cond0); rfl; first | rfl | assumption) | ((with_reducible apply a_guard1); rfl; first | rfl | assumption) | ((with_reducible apply a_guard0); rfl; first | rfl | assumption) | ((with_reducible apply w_guard_u); rfl) | ((with_reducible apply a_pick1); rfl; first | rfl | assumption) | ((with_reducible apply a_pick0); rfl; first | rfl | assumption) | ((with_reducible apply a_pickN); rfl) | ((with_reducible apply a_condN); rfl) | ((with_reducible apply a_guardN); rfl) | ((with_reducible apply w_fad); rfl) | ((with_reducible apply a_fadI); rfl) | ((with_reducible apply w_load); rfl; rfl; rfl) | ((with_reducible apply w_loadI); rfl) | ((with_reducible apply w_loadA); rfl; rfl; first | exact Nat.le_refl _ | exact Nat.le_of_ble_eq_true rfl) | ((with_reducible apply a_eqA); rfl; rfl; rfl) | ((with_reducible apply a_loadAI); rfl; first | rfl | simp) | ((with_reducible apply w_new); first | rfl | simp) | ((with_reducible apply a_store); rfl; rfl; rfl; rfl; (first | exact Nat.le_refl _ | simp); (first | rfl | simp); (first | rfl | simp)) | ((with_reducible apply a_lenS); rfl; intro _) | ((with_reducible apply a_len); rfl; (first | rfl | simp); intro _) | ((with_reducible apply a_build); rfl) | ((with_reducible apply a_extr); rfl; rfl) | (refine a_idx rfl (encXs_map l) rfl hx ?_) | (rw [encX]) | ((with_reducible apply a_cond); rfl) | ((with_reducible apply a_guard); rfl) | (with_reducible intro _))
          refine ⟨(n2, k + 1), ⟨by simp; omega, by simp only; rw [hI2]; exact hI, by simp; omega⟩, by simpa using Wk.refl _ _ _ (by simp), by simp; omega⟩
      · have hk : k2 = ps.length := by omega
        subst hk
        have q2' : decide ((ps.length : Int) < ((encPs ps).length : Int)) = false := by rw [hpl]; simp
        rw [List.drop_length, szPs] at hI2
        rw [List.drop_length, zPs] at hB2
        repeat' (first | (with_reducible first | apply w_let | apply w_and | refine And.intro True.intro ?_) | ((with_reducible first | apply a_lss | apply a_leq | apply a_gtr | apply a_geq | apply a_eql | apply a_neq); rfl; rfl) | ((with_reducible first | apply a_eqlS | apply a_neqS | apply a_eqlB | apply a_neqB); rfl; rfl) | ((with_reducible apply w_add); rfl; rfl; first | assumption | (unfold inI; omega)) | ((with_reducible apply w_sub); rfl; rfl; first | assumption | (unfold inI; omega)) | ((with_reducible apply a_not); rfl) | ((with_reducible apply w_pick_t); rfl) | ((with_reducible apply w_pick_f); rfl) | ((with_reducible apply a_cond1); rfl; first | rfl | assumption) | ((with_reducible apply a_cond0); rfl; first | rfl | assumption) | ((with_reducible apply a_guard1); rfl; first | rfl | assumption) | ((with_reducible apply a_guard0); rfl; first | rfl | assumption) | ((with_reducible apply w_guard_u); rfl) | ((with_reducible apply a_pick1); rfl; first | rfl | assumption) | ((with_reducible apply a_pick0); rfl; first | rfl | assumption) | ((with_reducible apply a_pickN); rfl) | ((with_reducible apply a_condN); rfl) | ((with_reducible apply a_guardN); rfl) | ((with_reducible apply w_fad); rfl) | ((with_reducible apply a_fadI); rfl) | ((with_reducible apply w_load); rfl; rfl; rfl) | ((with_reducible apply w_loadI); rfl) | ((with_reducible apply w_loadA); rfl; rfl; first | exact Nat.le_refl _ | exact Nat.le_of_ble_eq_true rfl) | ((with_reducible apply a_eqA); rfl; rfl; rfl) | ((with_reducible apply a_loadAI); rfl; first | rfl | simp) | ((with_reducible apply w_new); first | rfl | simp) | ((with_reducible apply a_store); rfl; rfl; rfl; rfl; (first | exact Nat.le_refl _ | simp); (first | rfl | simp); (first | rfl | simp)) | ((with_reducible apply a_lenS); rfl; intro _) | ((with_reducible apply a_len); rfl; (first | rfl | simp); intro _) | ((with_reducible apply a_build); rfl) | ((with_reducible apply a_extr); rfl; rfl) | (refine a_idx rfl (encXs_map l) rfl hx ?_) | (rw [encX]) | ((with_reducible apply a_cond); rfl) | ((with_reducible apply a_guard); rfl) | (with_reducible intro _))
        refine ⟨(n2, k + 1), ⟨by simp; omega, by simp only; rw [hI2]; exact hI, by simp; omega⟩, by simpa using Wk.refl _ _ _ (by simp), by simp; omega⟩
    · have c' : decide ((n : Int) ≤ (lim : Int)) = false := by simpa using c
      rw [if_neg c] at hI
      repeat' (first | (with_reducible first | apply w_let | apply w_and | refine And.intro True.intro ?_) | ((with_reducible first | apply a_lss | apply a_leq | apply a_gtr | apply a_geq | apply a_eql | apply a_neq); rfl; rfl) | ((with_reducible first | apply a_eqlS | apply a_neqS | apply a_eqlB | apply a_neqB); rfl; rfl) | ((with_reducible apply w_add); rfl; rfl; first | assumption | (unfold inI; omega)) | ((with_reducible apply w_sub); rfl; rfl; first | assumption | (unfold inI; omega)) | ((with_reducible apply a_not); rfl) | ((with_reducible apply w_pick_t); rfl) | ((with_reducible apply w_pick_f); rfl) | ((with_reducible apply a_cond1); rfl; first | rfl | assumption) | ((with_reducible apply a_cond0); rfl; first | rfl | assumption) | ((with_reducible apply a_guard1); rfl; first | rfl | assumption) | ((with_reducible apply a_guard0); rfl; first | rfl | assumption) | ((with_reducible apply w_guard_u); rfl) | ((with_reducible apply a_pick1); rfl; first | rfl | assumption) | ((with_reducible apply a_pick0); rfl; first | rfl | assumption) | ((with_reducible apply a_pickN); rfl) | ((with_reducible apply a_condN); rfl) | ((with_reducible apply a_guardN); rfl) | ((with_reducible apply w_fad); rfl) | ((with_reducible apply a_fadI); rfl) | ((with_reducible apply w_load); rfl; rfl; rfl) | ((with_reducible apply w_loadI); rfl) | ((with_reducible apply w_loadA); rfl; rfl; first | exact Nat.le_refl _ | exact Nat.le_of_ble_eq_true rfl) | ((with_reducible apply a_eqA); rfl; rfl; rfl) | ((with_reducible apply a_loadAI); rfl; first | rfl | simp) | ((with_reducible apply w_new); first | rfl | simp) | ((with_reducible apply a_store); rfl; rfl; rfl; rfl; (first | exact Nat.le_refl _ | simp); (first | rfl | simp); (first | rfl | simp)) | ((with_reducible apply a_lenS); rfl; intro _) | ((with_reducible apply a_len); rfl; (first | rfl | simp); intro _) | ((with_reducible apply a_build); rfl) | ((with_reducible apply a_extr); rfl; rfl) | ((with_reducible apply a_cond); rfl) | ((with_reducible apply a_guard); rfl) | (with_reducible intro _))
      exact .pure (by simp) (by rw [nx_zero, hI])
  · have hk : k = l.length := by omega
    subst hk
    have q' : decide ((l.length : Int) < ((encXs l).length : Int)) = false := by rw [hlen]; simp
    rw [List.drop_length, szXs] at hI
    repeat' (first | (with_reducible first | apply w_let | apply w_and | refine And.intro True.intro ?_) | ((with_reducible first | apply a_lss | apply a_leq | apply a_gtr | apply a_geq | apply a_eql | apply a_neq); rfl; rfl) | ((with_reducible first | apply a_eqlS | apply a_neqS | apply a_eqlB | apply a_neqB); rfl; rfl) | ((with_reducible apply w_add); rfl; rfl; first | assumption | (unfold inI; omega)) | ((with_reducible apply w_sub); rfl; rfl; first | assumption | (unfold inI; omega)) | ((with_reducible apply a_not); rfl) | ((with_reducible apply w_pick_t); rfl) | ((with_reducible apply w_pick_f); rfl) | ((with_reducible apply a_cond1); rfl; first | rfl | assumption) | ((with_reducible apply a_cond0); rfl; first | rfl | assumption) | ((with_reducible apply a_guard1); rfl; first | rfl | assumption) | ((with_reducible apply a_guard0); rfl; first | rfl | assumption) | ((with_reducible apply w_guard_u); rfl) | ((with_reducible apply a_pick1); rfl; first | rfl | assumption) | ((with_reducible apply a_pick0); rfl; first | rfl | assumption) | ((with_reducible apply a_pickN); rfl) | ((with_reducible apply a_condN); rfl) | ((with_reducible apply a_guardN); rfl) | ((with_reducible apply w_fad); rfl) | ((with_reducible apply a_fadI); rfl) | ((with_reducible apply w_load); rfl; rfl; rfl) | ((with_reducible apply w_loadI); rfl) | ((with_reducible apply w_loadA); rfl; rfl; first | exact Nat.le_refl _ | exact Nat.le_of_ble_eq_true rfl) | ((with_reducible apply a_eqA); rfl; rfl; rfl) | ((with_reducible apply a_loadAI); rfl; first | rfl | simp) | ((with_reducible apply w_new); first | rfl | simp) | ((with_reducible apply a_store); rfl; rfl; rfl; rfl; (first | exact Nat.le_refl _ | simp); (first | rfl | simp); (first | rfl | simp)) | ((with_reducible apply a_lenS); rfl; intro _) | ((with_reducible apply a_len); rfl; (first | rfl | simp); intro _) | ((with_reducible apply a_build); rfl) | ((with_reducible apply a_extr); rfl; rfl) | ((with_reducible apply a_cond); rfl) | ((with_reducible apply a_guard); rfl) | (with_reducible intro _))
    exact .pure (by simp) (by rw [nx_zero, hI])
theorem zz_all : ∀ n, n < 2 ^ 60 → ZzX n
  | 0, _ => fun l hz => by omega
  | n + 1, hn => zz_step (by omega) (zz_all n (by omega))
theorem con_size (l : List Cx) (hz : zXs l < 2 ^ 59) : Con Tryz.prog 17 [.sl 3 (encXs l), int 600] (int (szXs 600 0 l)) :=
  zz_all (zXs l + 1) (by omega) l (by omega) 600 (by omega)
theorem con_Great (l : List Cx) (hz : zXs l < 2 ^ 59) : Con Tryz.prog 5 [.sl 3 (encXs l)] (bool (decide (600 < szXs 600 0 l))) := by
  refine (V5 _).gives (by simp [pureXs]) (by simp) ?_
  unfold W5
  repeat' (first | (with_reducible first | apply w_let | apply w_and | refine And.intro True.intro ?_) | ((with_reducible first | apply a_lss | apply a_leq | apply a_gtr | apply a_geq | apply a_eql | apply a_neq); rfl; rfl) | ((with_reducible first | apply a_eqlS | apply a_neqS | apply a_eqlB | apply a_neqB); rfl; rfl) | ((with_reducible apply w_add); rfl; rfl; first | assumption | (unfold inI; omega)) | ((with_reducible apply w_sub); rfl; rfl; first | assumption | (unfold inI; omega)) | ((with_reducible apply a_not); rfl) | ((with_reducible apply w_pick_t); rfl) | ((with_reducible apply w_pick_f); rfl) | ((with_reducible apply a_cond1); rfl; first | rfl | assumption) | ((with_reducible apply a_cond0); rfl; first | rfl | assumption) | ((with_reducible apply a_guard1); rfl; first | rfl | assumption) | ((with_reducible apply a_guard0); rfl; first | rfl | assumption) | ((with_reducible apply w_guard_u); rfl) | ((with_reducible apply a_pick1); rfl; first | rfl | assumption) | ((with_reducible apply a_pick0); rfl; first | rfl | assumption) | ((with_reducible apply a_pickN); rfl) | ((with_reducible apply a_condN); rfl) | ((with_reducible apply a_guardN); rfl) | ((with_reducible apply w_fad); rfl) | ((with_reducible apply a_fadI); rfl) | ((with_reducible apply w_load); rfl; rfl; rfl) | ((with_reducible apply w_loadI); rfl) | ((with_reducible apply w_loadA); rfl; rfl; first | exact Nat.le_refl _ | exact Nat.le_of_ble_eq_true rfl) | ((with_reducible apply a_eqA); rfl; rfl; rfl) | ((with_reducible apply a_loadAI); rfl; first | rfl | simp) | ((with_reducible apply w_new); first | rfl | simp) | ((with_reducible apply a_store); rfl; rfl; rfl; rfl; (first | exact Nat.le_refl _ | simp); (first | rfl | simp); (first | rfl | simp)) | ((with_reducible apply a_lenS); rfl; intro _) | ((with_reducible apply a_len); rfl; (first | rfl | simp); intro _) | ((with_reducible apply a_build); rfl) | ((with_reducible apply a_extr); rfl; rfl) | (refine iCall_con (by kernel_rfl) (con_size l hz) ?_) | ((with_reducible apply a_cond); rfl) | ((with_reducible apply a_guard); rfl) | (with_reducible intro _))
  refine .pure (by simp) ?_
  simp only [AV.v.injEq, Value.bool.injEq]
  exact decide_eq_decide.2 (by omega)
end Go.Proofs.YthblflmjingcfaaGreatDoor
end
