/-
  The reference's names, escapes, texts in quotes: they are the glue's. The reference's texts in quotes, of attributes; marks; first and last children.
  No conditions.
-/
import Derived.Test.YthblflmjingcfaaGreatDoorWRwr
import Derived.Test.YthblflmjingcfaaGreatDoorG1
import Derived.Test.YthblflmjingcfaaGreatDoorR1
set_option linter.unusedVariables false
set_option linter.unusedSimpArgs false
section
namespace Go.Proofs.YthblflmjingcfaaGreatDoor
open Go Go.Aw Go.Sel
set_option maxRecDepth 100000
theorem letB_low (b : UInt8) : letB b = (decide (97 ≤ ((lowB b).toNat : Int)) && decide (((lowB b).toNat : Int) ≤ 122)) := by
  have : ∀ n : Fin 256, letB (UInt8.ofNat n.val) = (decide (97 ≤ ((lowB (UInt8.ofNat n.val)).toNat : Int)) && decide (((lowB (UInt8.ofNat n.val)).toNat : Int) ≤ 122)) := by decide
  have h := this ⟨b.toNat, b.toNat_lt⟩
  simpa using h
theorem quB_eq (b : UInt8) : quB b = (decide ((b.toNat : Int) = 10) || decide ((b.toNat : Int) = 12) || decide ((b.toNat : Int) = 13) || decide ((b.toNat : Int) = 34) || decide ((b.toNat : Int) = 92)) := by
  have : ∀ n : Fin 256, quB (UInt8.ofNat n.val) = (decide (((UInt8.ofNat n.val).toNat : Int) = 10) || decide (((UInt8.ofNat n.val).toNat : Int) = 12) || decide (((UInt8.ofNat n.val).toNat : Int) = 13) || decide (((UInt8.ofNat n.val).toNat : Int) = 34) || decide (((UInt8.ofNat n.val).toNat : Int) = 92)) := by decide
  have h := this ⟨b.toNat, b.toNat_lt⟩
  simpa using h
theorem a_slS {x : AV} {lo hi : Option AV} {l r : Str} {a b : Nat} {K : AV → Prop} (ex : x = .str l) (ha : optI lo 0 = some (a : Int)) (hb : optI hi l.length = some (b : Int)) (hab : a ≤ b) (hl : b ≤ l.length) (hr : (l.take b).drop a = r) (q : K (.str r)) : iSlS x lo hi K := by
  subst ex; subst hr
  unfold iSlS
  simp only [ha, hb]
  exact ⟨⟨by omega, by omega, by omega⟩, by simpa using q⟩
theorem a_remU {k : IntKind} {x y : AV} {a b c : Int} {K : AV → Prop} (ex : x = .v (.int k a)) (ey : y = .v (.int k b)) (h0 : b ≠ 0) (hc : a.tmod b = c) (q : K (.v (.int k c))) : iBin .rem x y K := by
  subst ex; subst ey; subst hc; exact ⟨rfl, h0, q⟩
theorem a_quoU {k : IntKind} {x y : AV} {a b c : Int} {K : AV → Prop} (ex : x = .v (.int k a)) (ey : y = .v (.int k b)) (h0 : b ≠ 0) (hc : k.wrap (a.tdiv b) = c) (q : K (.v (.int k c))) : iBin .quo x y K := by
  subst ex; subst ey; subst hc; exact ⟨rfl, h0, q⟩
theorem a_addU {k : IntKind} {x y : AV} {a b c : Int} {K : AV → Prop} (hk : k ≠ .i64) (ex : x = .v (.int k a)) (ey : y = .v (.int k b)) (hc : k.wrap (a + b) = c) (q : K (.v (.int k c))) : iBin .add x y K := by
  subst ex; subst ey; subst hc
  refine ⟨rfl, ?_⟩
  unfold iInt iWr
  cases k <;> first | exact q | exact absurd rfl hk
theorem mod16 (b : UInt8) : (b.toNat : Int).tmod 16 = ((b.toNat % 16 : Nat) : Int) := rfl
theorem div16 (b : UInt8) : IntKind.wrap .u8 ((b.toNat : Int).tdiv 16) = ((b.toNat / 16 : Nat) : Int) := by
  have : ∀ n : Fin 256, IntKind.wrap .u8 (((n.val : Nat) : Int).tdiv 16) = ((n.val / 16 : Nat) : Int) := by decide
  exact this ⟨b.toNat, b.toNat_lt⟩
theorem inc16 (n : Nat) (h : n < 16) : IntKind.wrap .u8 ((n : Int) + 1) = ((n + 1 : Nat) : Int) := by
  have : ∀ n : Fin 16, IntKind.wrap .u8 (((n.val : Nat) : Int) + 1) = ((n.val + 1 : Nat) : Int) := by decide
  exact this ⟨n, h⟩
theorem hex1 (n : Nat) (h : n < 16) : (([48, 49, 50, 51, 52, 53, 54, 55, 56, 57, 97, 98, 99, 100, 101, 102] : Str).take (n + 1)).drop n = [hexD.getD n 0] := by
  have : ∀ n : Fin 16, (([48, 49, 50, 51, 52, 53, 54, 55, 56, 57, 97, 98, 99, 100, 101, 102] : Str).take (n.val + 1)).drop n.val = [hexD.getD n.val 0] := by decide
  exact this ⟨n, h⟩
variable [Laid]
theorem con_rdigit (b : UInt8) : Con Tryz.prog 55 [byteA b] (bool (digB b)) := by
  refine (V55 _).gives (by simp [byteA]) (by simp) ?_
  unfold W55
  repeat' (first | (with_reducible first | apply w_let | apply w_and | refine And.intro True.intro ?_) | ((with_reducible first | apply a_lss | apply a_leq | apply a_gtr | apply a_geq | apply a_eql | apply a_neq); rfl; rfl) | ((with_reducible first | apply a_eqlS | apply a_neqS | apply a_eqlB | apply a_neqB); rfl; rfl) | ((with_reducible apply w_add); rfl; rfl; first | assumption | (unfold inI; omega)) | ((with_reducible apply w_sub); rfl; rfl; first | assumption | (unfold inI; omega)) | ((with_reducible apply a_not); rfl) | ((with_reducible apply w_pick_t); rfl) | ((with_reducible apply w_pick_f); rfl) | ((with_reducible apply a_cond1); rfl; first | rfl | assumption) | ((with_reducible apply a_cond0); rfl; first | rfl | assumption) | ((with_reducible apply a_guard1); rfl; first | rfl | assumption) | ((with_reducible apply a_guard0); rfl; first | rfl | assumption) | ((with_reducible apply w_guard_u); rfl) | ((with_reducible apply a_pick1); rfl; first | rfl | assumption) | ((with_reducible apply a_pick0); rfl; first | rfl | assumption) | ((with_reducible apply a_pickN); rfl) | ((with_reducible apply a_condN); rfl) | ((with_reducible apply a_guardN); rfl) | ((with_reducible apply w_fad); rfl) | ((with_reducible apply a_fadI); rfl) | ((with_reducible apply w_load); rfl; rfl; rfl) | ((with_reducible apply w_loadI); rfl) | ((with_reducible apply w_loadA); rfl; rfl; first | exact Nat.le_refl _ | exact Nat.le_of_ble_eq_true rfl) | ((with_reducible apply a_eqA); rfl; rfl; rfl) | ((with_reducible apply a_loadAI); rfl; first | rfl | simp) | ((with_reducible apply w_new); first | rfl | simp) | ((with_reducible apply a_store); rfl; rfl; rfl; rfl; (first | exact Nat.le_refl _ | simp); (first | rfl | simp); (first | rfl | simp)) | ((with_reducible apply a_lenS); rfl; intro _) | ((with_reducible apply a_len); rfl; (first | rfl | simp); intro _) | ((with_reducible apply a_build); rfl) | ((with_reducible apply a_extr); rfl; rfl) | ((with_reducible apply a_cond); rfl) | ((with_reducible apply a_guard); rfl) | (with_reducible intro _))
  all_goals refine .pure (by simp) ?_
  all_goals simp only [nx_zero, nx_one, AV.v.injEq, Value.bool.injEq, Value.int.injEq, true_and] at *
  all_goals grind [digB]
theorem con_rstarts (b : UInt8) : Con Tryz.prog 74 [byteA b] (bool (letB b || decide ((b.toNat : Int) = 95) || decide (128 ≤ (b.toNat : Int)))) := by
  refine (V74 _).gives (by simp [byteA]) (by simp) ?_
  unfold W74
  repeat' (first | (with_reducible first | apply w_let | apply w_and | refine And.intro True.intro ?_) | ((with_reducible first | apply a_lss | apply a_leq | apply a_gtr | apply a_geq | apply a_eql | apply a_neq); rfl; rfl) | ((with_reducible first | apply a_eqlS | apply a_neqS | apply a_eqlB | apply a_neqB); rfl; rfl) | ((with_reducible apply w_add); rfl; rfl; first | assumption | (unfold inI; omega)) | ((with_reducible apply w_sub); rfl; rfl; first | assumption | (unfold inI; omega)) | ((with_reducible apply a_not); rfl) | ((with_reducible apply w_pick_t); rfl) | ((with_reducible apply w_pick_f); rfl) | ((with_reducible apply a_cond1); rfl; first | rfl | assumption) | ((with_reducible apply a_cond0); rfl; first | rfl | assumption) | ((with_reducible apply a_guard1); rfl; first | rfl | assumption) | ((with_reducible apply a_guard0); rfl; first | rfl | assumption) | ((with_reducible apply w_guard_u); rfl) | ((with_reducible apply a_pick1); rfl; first | rfl | assumption) | ((with_reducible apply a_pick0); rfl; first | rfl | assumption) | ((with_reducible apply a_pickN); rfl) | ((with_reducible apply a_condN); rfl) | ((with_reducible apply a_guardN); rfl) | ((with_reducible apply w_fad); rfl) | ((with_reducible apply a_fadI); rfl) | ((with_reducible apply w_load); rfl; rfl; rfl) | ((with_reducible apply w_loadI); rfl) | ((with_reducible apply w_loadA); rfl; rfl; first | exact Nat.le_refl _ | exact Nat.le_of_ble_eq_true rfl) | ((with_reducible apply a_eqA); rfl; rfl; rfl) | ((with_reducible apply a_loadAI); rfl; first | rfl | simp) | ((with_reducible apply w_new); first | rfl | simp) | ((with_reducible apply a_store); rfl; rfl; rfl; rfl; (first | exact Nat.le_refl _ | simp); (first | rfl | simp); (first | rfl | simp)) | ((with_reducible apply a_lenS); rfl; intro _) | ((with_reducible apply a_len); rfl; (first | rfl | simp); intro _) | ((with_reducible apply a_build); rfl) | ((with_reducible apply a_extr); rfl; rfl) | (refine iCall_con (by kernel_rfl) (con_rsmallB _) ?_) | ((with_reducible apply a_cond); rfl) | ((with_reducible apply a_guard); rfl) | (with_reducible intro _))
  all_goals refine .pure (by simp) ?_
  all_goals simp only [nx_zero, nx_one, AV.v.injEq, Value.bool.injEq, Value.int.injEq, true_and] at *
  all_goals grind [letB_low]
theorem con_rletter (b : UInt8) : Con Tryz.prog 54 [byteA b] (bool (nmB b)) := by
  refine (V54 _).gives (by simp [byteA]) (by simp) ?_
  unfold W54
  repeat' (first | (with_reducible first | apply w_let | apply w_and | refine And.intro True.intro ?_) | ((with_reducible first | apply a_lss | apply a_leq | apply a_gtr | apply a_geq | apply a_eql | apply a_neq); rfl; rfl) | ((with_reducible first | apply a_eqlS | apply a_neqS | apply a_eqlB | apply a_neqB); rfl; rfl) | ((with_reducible apply w_add); rfl; rfl; first | assumption | (unfold inI; omega)) | ((with_reducible apply w_sub); rfl; rfl; first | assumption | (unfold inI; omega)) | ((with_reducible apply a_not); rfl) | ((with_reducible apply w_pick_t); rfl) | ((with_reducible apply w_pick_f); rfl) | ((with_reducible apply a_cond1); rfl; first | rfl | assumption) | ((with_reducible apply a_cond0); rfl; first | rfl | assumption) | ((with_reducible apply a_guard1); rfl; first | rfl | assumption) | ((with_reducible apply a_guard0); rfl; first | rfl | assumption) | ((with_reducible apply w_guard_u); rfl) | ((with_reducible apply a_pick1); rfl; first | rfl | assumption) | ((with_reducible apply a_pick0); rfl; first | rfl | assumption) | ((with_reducible apply a_pickN); rfl) | ((with_reducible apply a_condN); rfl) | ((with_reducible apply a_guardN); rfl) | ((with_reducible apply w_fad); rfl) | ((with_reducible apply a_fadI); rfl) | ((with_reducible apply w_load); rfl; rfl; rfl) | ((with_reducible apply w_loadI); rfl) | ((with_reducible apply w_loadA); rfl; rfl; first | exact Nat.le_refl _ | exact Nat.le_of_ble_eq_true rfl) | ((with_reducible apply a_eqA); rfl; rfl; rfl) | ((with_reducible apply a_loadAI); rfl; first | rfl | simp) | ((with_reducible apply w_new); first | rfl | simp) | ((with_reducible apply a_store); rfl; rfl; rfl; rfl; (first | exact Nat.le_refl _ | simp); (first | rfl | simp); (first | rfl | simp)) | ((with_reducible apply a_lenS); rfl; intro _) | ((with_reducible apply a_len); rfl; (first | rfl | simp); intro _) | ((with_reducible apply a_build); rfl) | ((with_reducible apply a_extr); rfl; rfl) | (refine iCall_con (by kernel_rfl) (con_rstarts _) ?_) | (refine iCall_con (by kernel_rfl) (con_rdigit _) ?_) | ((with_reducible apply a_cond); rfl) | ((with_reducible apply a_guard); rfl) | (with_reducible intro _))
  all_goals refine .pure (by simp) ?_
  all_goals simp only [nx_zero, nx_one, AV.v.injEq, Value.bool.injEq, Value.int.injEq, true_and] at *
  all_goals grind [nmB]
theorem con_rescape (c : UInt8) : Con Tryz.prog 56 [byteA c] (.str (escB c)) := by
  refine (V56 _).gives (by simp [byteA]) (by simp) ?_
  unfold W56
  have hc := c.toNat_lt
  have yes : plainE c = true → iMkSlP 2 1 (u8 0) [(0, 1, (u8 92)), (1, 1, byteA c)] fun v29 => iOfBytes v29 [] fun v30 => Gives (.str (escB c)) v30 [] := by
    intro e
    have e' : escB c = [92, c] := by unfold escB; rw [if_pos e]
    refine a_mkP2 ?_
    have h1 : ((srcR [] 1 (.sl 1 [[u8 92], [u8 c.toNat]])).bind fun p => unB p.flatten) = some [92, c] := by
      rw [srcR_s, Option.bind_some]
      exact unB_bytes [92, c]
    unfold iOfBytes
    rw [h1]
    exact .pure (by simp) (by rw [e'])
  have no : plainE c = false → iBin .rem (byteA c) (u8 16) fun v31 => iBin .rem (byteA c) (u8 16) fun v32 => iBin .add v32 (u8 1) fun v33 => iSlS (.str [48, 49, 50, 51, 52, 53, 54, 55, 56, 57, 97, 98, 99, 100, 101, 102]) (some v31) (some v33) fun v34 => iLet (fun J35 => iBin .geq (byteA c) (u8 16) fun v36 => iCond v36 (iBin .quo (byteA c) (u8 16) fun v37 => iBin .quo (byteA c) (u8 16) fun v38 => iBin .add v38 (u8 1) fun v39 => iSlS (.str [48, 49, 50, 51, 52, 53, 54, 55, 56, 57, 97, 98, 99, 100, 101, 102]) (some v37) (some v39) fun v40 => iBin .add v40 v34 fun v41 => J35 [v41] []) (J35 [v34] [])) fun s42 g43 => iBin .add (.str [92]) (nx s42 0) fun v44 => iBin .add v44 (.str [32]) fun v45 => Gives (.str (escB c)) v45 g43 := by
    intro e
    have e' : escB c = [92] ++ hexB c ++ [32] := by unfold escB; rw [e]; rfl
    refine a_remU rfl rfl (by decide) (mod16 c) ?_
    refine a_remU rfl rfl (by decide) (mod16 c) ?_
    refine a_addU (by decide) rfl rfl (inc16 _ (by omega)) ?_
    refine a_slS rfl rfl rfl (by omega) (by show _ ≤ 16; omega) (hex1 _ (by omega)) ?_
    refine w_let ?_
    refine a_geq rfl rfl ?_
    refine a_cond rfl (fun q => ?_) fun q => ?_
    · have q : 16 ≤ c.toNat := by have := of_decide_eq_true q; omega
      have hx : hexB c = [hexD.getD (c.toNat / 16) 0, hexD.getD (c.toNat % 16) 0] := by unfold hexB; rw [if_pos q]
      refine a_quoU rfl rfl (by decide) (div16 c) ?_
      refine a_quoU rfl rfl (by decide) (div16 c) ?_
      refine a_addU (by decide) rfl rfl (inc16 _ (by omega)) ?_
      refine a_slS rfl rfl rfl (by omega) (by show _ ≤ 16; omega) (hex1 _ (by omega)) ?_
      refine a_addS rfl rfl rfl (by unfold maxLen; simp) ?_
      refine a_addS rfl rfl rfl (by unfold maxLen; simp) ?_
      refine a_addS rfl rfl rfl (by unfold maxLen; simp) ?_
      exact .pure (by simp) (by rw [e', hx]; rfl)
    · have q : ¬ 16 ≤ c.toNat := by have := of_decide_eq_false q; omega
      have hx : hexB c = [hexD.getD c.toNat 0] := by unfold hexB; rw [if_neg q]
      have hm : c.toNat % 16 = c.toNat := Nat.mod_eq_of_lt (by omega)
      refine a_addS rfl rfl rfl (by unfold maxLen; simp) ?_
      refine a_addS rfl rfl rfl (by unfold maxLen; simp) ?_
      exact .pure (by simp) (by rw [e', hx, hm])
  repeat' (first | (with_reducible first | apply w_let | apply w_and | refine And.intro True.intro ?_) | ((with_reducible first | apply a_lss | apply a_leq | apply a_gtr | apply a_geq | apply a_eql | apply a_neq); rfl; rfl) | ((with_reducible first | apply a_eqlS | apply a_neqS | apply a_eqlB | apply a_neqB); rfl; rfl) | ((with_reducible apply w_add); rfl; rfl; first | assumption | (unfold inI; omega)) | ((with_reducible apply w_sub); rfl; rfl; first | assumption | (unfold inI; omega)) | ((with_reducible apply a_not); rfl) | ((with_reducible apply w_pick_t); rfl) | ((with_reducible apply w_pick_f); rfl) | ((with_reducible apply a_cond1); rfl; first | rfl | assumption) | ((with_reducible apply a_cond0); rfl; first | rfl | assumption) | ((with_reducible apply a_guard1); rfl; first | rfl | assumption) | ((with_reducible apply a_guard0); rfl; first | rfl | assumption) | ((with_reducible apply w_guard_u); rfl) | ((with_reducible apply a_pick1); rfl; first | rfl | assumption) | ((with_reducible apply a_pick0); rfl; first | rfl | assumption) | ((with_reducible apply a_pickN); rfl) | ((with_reducible apply a_condN); rfl) | ((with_reducible apply a_guardN); rfl) | ((with_reducible apply w_fad); rfl) | ((with_reducible apply a_fadI); rfl) | ((with_reducible apply w_load); rfl; rfl; rfl) | ((with_reducible apply w_loadI); rfl) | ((with_reducible apply w_loadA); rfl; rfl; first | exact Nat.le_refl _ | exact Nat.le_of_ble_eq_true rfl) | ((with_reducible apply a_eqA); rfl; rfl; rfl) | ((with_reducible apply a_loadAI); rfl; first | rfl | simp) | ((with_reducible apply w_new); first | rfl | simp) | ((with_reducible apply a_store); rfl; rfl; rfl; rfl; (first | exact Nat.le_refl _ | simp); (first | rfl | simp); (first | rfl | simp)) | ((with_reducible apply a_lenS); rfl; intro _) | ((with_reducible apply a_len); rfl; (first | rfl | simp); intro _) | ((with_reducible apply a_build); rfl) | ((with_reducible apply a_extr); rfl; rfl) | (refine iCall_con (by kernel_rfl) (con_rsmallB _) ?_) | (refine iCall_con (by kernel_rfl) (con_rdigit _) ?_) | ((with_reducible apply a_cond); rfl) | ((with_reducible apply a_guard); rfl) | (with_reducible intro _))
  all_goals first
    | exact yes (by grind [plainE, letB_low])
    | exact no (by grind [plainE, letB_low])
theorem con_rNamed (s : Str) (hs : s.length ≤ 2 ^ 35) : Con Tryz.prog 37 [.str s, ff] (.str (nmT s)) := by
  refine (V37 _ _).gives (by simp) (by simp) ?_
  unfold W37
  refine iLoop_of (α := Nat) (fun i => i ≤ s.length) (fun i => [.str (nmK s (fstN s) i), int i]) (fun _ => []) (fun i => s.length - i) 0 (by simp) (by simpa [nmK] using Wk.refl 0 [AV.str [], int 0] [] (Nat.zero_le _)) ?_
  intro i hi
  refine a_lenS rfl fun _ => ?_
  have hl := nmK_len s (fstN s) i
  by_cases q : i < s.length
  · obtain ⟨c, hc⟩ : ∃ c, s[i]? = some c := ⟨s[i], List.getElem?_eq_getElem q⟩
    obtain ⟨c0, hc0⟩ : ∃ c, s[0]? = some c := ⟨s[0], List.getElem?_eq_getElem (by omega)⟩
    have hcd : s.getD i 0 = c := by rw [List.getD_eq_getElem?_getD, hc]; rfl
    have hf : fstN s = if c0 = 45 then 2 else 1 := by
      cases s with
      | nil => simp at hc0
      | cons a l => simp at hc0; subst hc0; simp [fstN]
    have h0 : i = 0 → c0 = c := fun e => by subst e; rw [hc0] at hc; exact Option.some.inj hc
    have h45 : (decide ((c0.toNat : Int) = 45)) = decide (c0 = 45) := by
      have : (c0.toNat : Int) = 45 ↔ c0 = 45 := by
        constructor
        · intro h; apply UInt8.toNat_inj.1; show c0.toNat = 45; omega
        · rintro rfl; rfl
      simp [this]
    refine a_lss rfl rfl ?_
    refine a_cond1 rfl (decide_eq_true (by omega)) ?_
    refine w_let ?_
    refine a_idxS (n := i) rfl rfl hc ?_
    have hin : inI ((i : Int) + 1) := by unfold inI; omega
    have hp := nmP_len s (fstN s) i c
    have leaf : ∀ {x : Str}, x = nmK s (fstN s) i ++ nmP s (fstN s) i c → ∃ y : Nat, y ≤ s.length ∧ Wk ([] : Heap).length [.str x, int ((i : Int) + 1)] [] [.str (nmK s (fstN s) y), int y] [] ∧ s.length - y < s.length - i := by
      intro x ex
      refine ⟨i + 1, by omega, ?_, by omega⟩
      rw [nmK_next, hcd, ex]
      exact Wk.refl _ _ _ (Nat.le_refl _)
    have hraw : rawN s (fstN s) i c = (nmB c && !(digB c && (decide ((i : Int) = 0) || decide ((i : Int) = 1) && decide ((c0.toNat : Int) = 45)) || decide (s = [45]))) := by
      have hfr : decide (((fstN s : Nat) : Int) ≤ (i : Int)) = !(decide ((i : Int) = 0) || decide ((i : Int) = 1) && decide ((c0.toNat : Int) = 45)) := by
        rw [h45, hf]
        by_cases e : c0 = 45
        · rw [if_pos e, decide_eq_true e, Bool.and_true, Bool.eq_iff_iff]
          simp only [Bool.not_eq_true', Bool.or_eq_false_iff, decide_eq_true_eq, decide_eq_false_iff_not]
          omega
        · rw [if_neg e, decide_eq_false e, Bool.and_false, Bool.or_false, Bool.eq_iff_iff]
          simp only [Bool.not_eq_true', decide_eq_true_eq, decide_eq_false_iff_not]
          omega
      have hz : decide (((fstN s : Nat) : Int) = 0) = false := by rw [hf]; split <;> rfl
      unfold rawN
      rw [hfr, hz]
      generalize (decide ((i : Int) = 0) || decide ((i : Int) = 1) && decide ((c0.toNat : Int) = 45)) = z
      cases nmB c <;> cases digB c <;> cases z <;> cases decide (s = [45]) <;> rfl
    have yes : rawN s (fstN s) i c = true → nmP s (fstN s) i c = [c] := fun e => by unfold nmP; rw [if_pos e]
    have no : rawN s (fstN s) i c = false → nmP s (fstN s) i c = escB c := fun e => by unfold nmP; rw [e]; rfl
    have cut : (s.take (i + 1)).drop i = [c] := by
      rw [List.take_add_one, hc, List.drop_append_of_le_length (by simp; omega)]
      simp
    repeat' (first | (with_reducible first | apply w_let | apply w_and | refine And.intro True.intro ?_) | ((with_reducible first | apply a_lss | apply a_leq | apply a_gtr | apply a_geq | apply a_eql | apply a_neq); rfl; rfl) | ((with_reducible first | apply a_eqlS | apply a_neqS | apply a_eqlB | apply a_neqB); rfl; rfl) | ((with_reducible apply w_add); rfl; rfl; first | assumption | (unfold inI; omega)) | ((with_reducible apply w_sub); rfl; rfl; first | assumption | (unfold inI; omega)) | ((with_reducible apply a_not); rfl) | ((with_reducible apply w_pick_t); rfl) | ((with_reducible apply w_pick_f); rfl) | ((with_reducible apply a_cond1); rfl; first | rfl | assumption) | ((with_reducible apply a_cond0); rfl; first | rfl | assumption) | ((with_reducible apply a_guard1); rfl; first | rfl | assumption) | ((with_reducible apply a_guard0); rfl; first | rfl | assumption) | ((with_reducible apply w_guard_u); rfl) | ((with_reducible apply a_pick1); rfl; first | rfl | assumption) | ((with_reducible apply a_pick0); rfl; first | rfl | assumption) | ((with_reducible apply a_pickN); rfl) | ((with_reducible apply a_condN); rfl) | ((with_reducible apply a_guardN); rfl) | ((with_reducible apply w_fad); rfl) | ((with_reducible apply a_fadI); rfl) | ((with_reducible apply w_load); rfl; rfl; rfl) | ((with_reducible apply w_loadI); rfl) | ((with_reducible apply w_loadA); rfl; rfl; first | exact Nat.le_refl _ | exact Nat.le_of_ble_eq_true rfl) | ((with_reducible apply a_eqA); rfl; rfl; rfl) | ((with_reducible apply a_loadAI); rfl; first | rfl | simp) | ((with_reducible apply w_new); first | rfl | simp) | ((with_reducible apply a_store); rfl; rfl; rfl; rfl; (first | exact Nat.le_refl _ | simp); (first | rfl | simp); (first | rfl | simp)) | ((with_reducible apply a_lenS); rfl; intro _) | ((with_reducible apply a_len); rfl; (first | rfl | simp); intro _) | ((with_reducible apply a_build); rfl) | ((with_reducible apply a_extr); rfl; rfl) | (refine iCall_con (by kernel_rfl) (con_rletter _) ?_) | (refine iCall_con (by kernel_rfl) (con_rdigit _) ?_) | (refine iCall_con (by kernel_rfl) (con_rescape _) ?_) | (refine a_idxS (n := 0) rfl rfl hc0 ?_) | (refine a_slS (a := i) (b := i + 1) rfl rfl rfl (by omega) (by omega) cut ?_) | (refine a_addS rfl rfl rfl (by have := escB_len c; simp only [List.length_append, List.length_cons, List.length_nil]; unfold maxLen; omega) ?_) | ((with_reducible apply a_cond); rfl) | ((with_reducible apply a_guard); rfl) | (with_reducible intro _))
    all_goals first
      | (refine leaf ?_; rw [yes (by rw [hraw]; grind)]; done)
      | (refine leaf ?_; rw [no (by rw [hraw]; grind)]; done)
  · obtain rfl : i = s.length := by omega
    refine a_lss rfl rfl ?_
    refine a_cond0 rfl (decide_eq_false (by omega)) ?_
    exact .pure (by simp) rfl
end Go.Proofs.YthblflmjingcfaaGreatDoor
end

section
namespace Go.Proofs.YthblflmjingcfaaGreatDoor
open Go Go.Aw Go.Sel
set_option maxRecDepth 100000
def opL : List Str := [[], [61], [126, 61], [124, 61], [94, 61], [36, 61], [42, 61]]
def mkL : List Str := [[], [32], [32, 62, 32], [32, 43, 32], [32, 126, 32]]
/-- An attribute's text. -/
def atT (n : Str) (o : Int) (v : Str) (f : Bool) : Str := [91] ++ nmT n ++ (if o = 0 then [] else opL.getD o.toNat [] ++ quT v) ++ (if f then [32, 105] else []) ++ [93]
def frst (k a b : Int) (w : Bool) : Bool := isNth k && !w && decide (a = 0) && decide (b = 1)
theorem opL_len (n : Nat) : (opL.getD n []).length ≤ 2 := by
  match n with
  | 0 | 1 | 2 | 3 | 4 | 5 | 6 => decide
  | n + 7 => simp [opL]
theorem mkL_len (n : Nat) : (mkL.getD n []).length ≤ 3 := by
  match n with
  | 0 | 1 | 2 | 3 | 4 => decide
  | n + 5 => simp [mkL]
theorem quT_len (s : Str) : (quT s).length ≤ 4 * s.length + 2 := by
  have := quK_len s
  unfold quT
  simp only [List.length_append, List.length_cons, List.length_nil]; omega
theorem nmT_len (s : Str) : (nmT s).length ≤ 4 * s.length := nmK_len s (fstN s) s.length
theorem atT_len (n : Str) (o : Int) (v : Str) (f : Bool) : (atT n o v f).length ≤ 4 * n.length + 4 * v.length + 8 := by
  have h1 := nmT_len n
  have h2 := quT_len v
  have h3 := opL_len o.toNat
  unfold atT
  simp only [List.length_append, List.length_cons, List.length_nil]
  split <;> split <;> simp only [List.length_append, List.length_cons, List.length_nil] <;> omega
variable [Laid]
theorem con_rquoted (s : Str) (hs : s.length ≤ 2 ^ 35) : Con Tryz.prog 107 [.str s, ff] (.str (s.flatMap quP)) := by
  refine (V107 _ _).gives (by simp) (by simp) ?_
  unfold W107
  refine iLoop_of (α := Nat) (fun i => i ≤ s.length) (fun i => [.str ((s.take i).flatMap quP), int i]) (fun _ => []) (fun i => s.length - i) 0 (by simp) (by simpa using Wk.refl 0 [AV.str [], int 0] [] (Nat.zero_le _)) ?_
  intro i hi
  refine a_lenS rfl fun _ => ?_
  have hl : ((s.take i).flatMap quP).length ≤ 4 * i := by have := quK_len (s.take i); rw [List.length_take] at this; omega
  by_cases q : i < s.length
  · obtain ⟨c, hc⟩ : ∃ c, s[i]? = some c := ⟨s[i], List.getElem?_eq_getElem q⟩
    refine a_lss rfl rfl ?_
    refine a_cond1 rfl (decide_eq_true (by omega)) ?_
    refine w_let ?_
    refine a_idxS (n := i) rfl rfl hc ?_
    have hin : inI ((i : Int) + 1) := by unfold inI; omega
    have leaf : ∀ {x : Str}, x = (s.take i).flatMap quP ++ quP c → ∃ y : Nat, y ≤ s.length ∧ Wk ([] : Heap).length [.str x, int ((i : Int) + 1)] [] [.str ((s.take y).flatMap quP), int y] [] ∧ s.length - y < s.length - i := by
      intro x ex
      refine ⟨i + 1, by omega, ?_, by omega⟩
      rw [quK_next hc, ex]
      exact Wk.refl _ _ _ (Nat.le_refl _)
    have yes : quB c = true → quP c = escB c := fun e => by unfold quP; rw [if_pos e]
    have no : quB c = false → quP c = [c] := fun e => by unfold quP; rw [e]; rfl
    have cut : (s.take (i + 1)).drop i = [c] := by
      rw [List.take_add_one, hc, List.drop_append_of_le_length (by simp; omega)]
      simp
    repeat' (first | (with_reducible first | apply w_let | apply w_and | refine And.intro True.intro ?_) | ((with_reducible first | apply a_lss | apply a_leq | apply a_gtr | apply a_geq | apply a_eql | apply a_neq); rfl; rfl) | ((with_reducible first | apply a_eqlS | apply a_neqS | apply a_eqlB | apply a_neqB); rfl; rfl) | ((with_reducible apply w_add); rfl; rfl; first | assumption | (unfold inI; omega)) | ((with_reducible apply w_sub); rfl; rfl; first | assumption | (unfold inI; omega)) | ((with_reducible apply a_not); rfl) | ((with_reducible apply w_pick_t); rfl) | ((with_reducible apply w_pick_f); rfl) | ((with_reducible apply a_cond1); rfl; first | rfl | assumption) | ((with_reducible apply a_cond0); rfl; first | rfl | assumption) | ((with_reducible apply a_guard1); rfl; first | rfl | assumption) | ((with_reducible apply a_guard0); rfl; first | rfl | assumption) | ((with_reducible apply w_guard_u); rfl) | ((with_reducible apply a_pick1); rfl; first | rfl | assumption) | ((with_reducible apply a_pick0); rfl; first | rfl | assumption) | ((with_reducible apply a_pickN); rfl) | ((with_reducible apply a_condN); rfl) | ((with_reducible apply a_guardN); rfl) | ((with_reducible apply w_fad); rfl) | ((with_reducible apply a_fadI); rfl) | ((with_reducible apply w_load); rfl; rfl; rfl) | ((with_reducible apply w_loadI); rfl) | ((with_reducible apply w_loadA); rfl; rfl; first | exact Nat.le_refl _ | exact Nat.le_of_ble_eq_true rfl) | ((with_reducible apply a_eqA); rfl; rfl; rfl) | ((with_reducible apply a_loadAI); rfl; first | rfl | simp) | ((with_reducible apply w_new); first | rfl | simp) | ((with_reducible apply a_store); rfl; rfl; rfl; rfl; (first | exact Nat.le_refl _ | simp); (first | rfl | simp); (first | rfl | simp)) | ((with_reducible apply a_lenS); rfl; intro _) | ((with_reducible apply a_len); rfl; (first | rfl | simp); intro _) | ((with_reducible apply a_build); rfl) | ((with_reducible apply a_extr); rfl; rfl) | (refine iCall_con (by kernel_rfl) (con_rescape _) ?_) | (refine a_slS (a := i) (b := i + 1) rfl rfl rfl (by omega) (by omega) cut ?_) | (refine a_addS rfl rfl rfl (by have := escB_len c; simp only [List.length_append, List.length_cons, List.length_nil]; unfold maxLen; omega) ?_) | ((with_reducible apply a_cond); rfl) | ((with_reducible apply a_guard); rfl) | (with_reducible intro _))
    all_goals first
      | (refine leaf ?_; rw [yes (by rw [quB_eq]; grind)]; done)
      | (refine leaf ?_; rw [no (by rw [quB_eq]; grind)]; done)
  · obtain rfl : i = s.length := by omega
    refine a_lss rfl rfl ?_
    refine a_cond0 rfl (decide_eq_false (by omega)) ?_
    exact .pure (by simp) (by simp)
theorem con_rTextQ (s : Str) (hs : s.length ≤ 2 ^ 35) : Con Tryz.prog 76 [.agg [u8 5, .str s, int 0, .str [], ff]] (.str (quT s)) := by
  refine (V76 _).gives (by simp) (by simp) ?_
  unfold W76
  have hl := quK_len s
  repeat' (first | (with_reducible first | apply w_let | apply w_and | refine And.intro True.intro ?_) | ((with_reducible first | apply a_lss | apply a_leq | apply a_gtr | apply a_geq | apply a_eql | apply a_neq); rfl; rfl) | ((with_reducible first | apply a_eqlS | apply a_neqS | apply a_eqlB | apply a_neqB); rfl; rfl) | ((with_reducible apply w_add); rfl; rfl; first | assumption | (unfold inI; omega)) | ((with_reducible apply w_sub); rfl; rfl; first | assumption | (unfold inI; omega)) | ((with_reducible apply a_not); rfl) | ((with_reducible apply w_pick_t); rfl) | ((with_reducible apply w_pick_f); rfl) | ((with_reducible apply a_cond1); rfl; first | rfl | assumption) | ((with_reducible apply a_cond0); rfl; first | rfl | assumption) | ((with_reducible apply a_guard1); rfl; first | rfl | assumption) | ((with_reducible apply a_guard0); rfl; first | rfl | assumption) | ((with_reducible apply w_guard_u); rfl) | ((with_reducible apply a_pick1); rfl; first | rfl | assumption) | ((with_reducible apply a_pick0); rfl; first | rfl | assumption) | ((with_reducible apply a_pickN); rfl) | ((with_reducible apply a_condN); rfl) | ((with_reducible apply a_guardN); rfl) | ((with_reducible apply w_fad); rfl) | ((with_reducible apply a_fadI); rfl) | ((with_reducible apply w_load); rfl; rfl; rfl) | ((with_reducible apply w_loadI); rfl) | ((with_reducible apply w_loadA); rfl; rfl; first | exact Nat.le_refl _ | exact Nat.le_of_ble_eq_true rfl) | ((with_reducible apply a_eqA); rfl; rfl; rfl) | ((with_reducible apply a_loadAI); rfl; first | rfl | simp) | ((with_reducible apply w_new); first | rfl | simp) | ((with_reducible apply a_store); rfl; rfl; rfl; rfl; (first | exact Nat.le_refl _ | simp); (first | rfl | simp); (first | rfl | simp)) | ((with_reducible apply a_lenS); rfl; intro _) | ((with_reducible apply a_len); rfl; (first | rfl | simp); intro _) | ((with_reducible apply a_build); rfl) | ((with_reducible apply a_extr); rfl; rfl) | (refine iCall_con (by kernel_rfl) (con_rquoted s hs) ?_) | (refine a_addS rfl rfl rfl (by simp only [List.length_append, List.length_cons, List.length_nil]; unfold maxLen; omega) ?_) | ((with_reducible apply a_cond); rfl) | ((with_reducible apply a_guard); rfl) | (with_reducible intro _))
  all_goals exact .pure (by simp) rfl
theorem con_rmark (c : Nat) (h : c ≤ 4) : Con Tryz.prog 36 [u8 c] (.str (mkL.getD c [])) := by
  refine (V36 _).gives (by simp) (by simp) ?_
  unfold W36
  match c, h with
  | 0, _ | 1, _ | 2, _ | 3, _ | 4, _ =>
    unfold iMkSlP
    simp [bfill, rep0, vcells, setAll, scal, chunks]
    exact .pure (by simp) rfl
omit [Laid] in
theorem a_mkOp {K : AV → Prop} (q : K (.sl 1 (opL.map fun s => [.str s]))) : iMkSlP 7 1 (.str []) [(0, 1, (.str [])), (1, 1, (.str [61])), (2, 1, (.str [126, 61])), (3, 1, (.str [124, 61])), (4, 1, (.str [94, 61])), (5, 1, (.str [36, 61])), (6, 1, (.str [42, 61]))] K := by
  unfold iMkSlP
  simp [bfill, rep0, vcells, setAll, scal, chunks]
  exact q
omit [Laid] in
theorem a_idxU {m : Nat} {x i : AV} {rows : List (List AV)} {k : IntKind} {n : Nat} {r : List AV} {K : AV → Prop} (e : x = .sl m rows) (ei : i = .v (.int k n)) (hr : rows[n]? = some r) (q : K (.ip r)) : iIdxP m x i K := by
  subst e; subst ei
  have hn := (List.getElem?_eq_some_iff.1 hr).1
  refine ⟨rfl, ⟨by omega, by omega⟩, ?_⟩
  rw [Int.toNat_natCast, List.getD_eq_getElem?_getD, hr]
  exact q
omit [Laid] in
theorem opL_at (n : Nat) (h : n ≤ 6) : (opL.map fun s => [AV.str s])[n]? = some [.str (opL.getD n [])] := by
  match n, h with
  | 0, _ | 1, _ | 2, _ | 3, _ | 4, _ | 5, _ | 6, _ => rfl
theorem con_rattr (k : Int) (n : Str) (o : Nat) (v : Str) (f : Bool) (a b : Int) (w : Bool) (rows : List (List AV)) (pr : PureR rows) (ho : o ≤ 6) (hn : n.length ≤ 2 ^ 35) (hv : v.length ≤ 2 ^ 35) :
    Con Tryz.prog 57 [.agg [u8 k, .str n, u8 o, .str v, bool f, int a, int b, bool w, .sl 3 rows]] (.str (atT n o v f)) := by
  refine (V57 _).gives (by simp [pr]) (by simp) ?_
  unfold W57
  have h1 := nmT_len n
  have h2 := quT_len v
  have h3 := opL_len o
  have ho2 : ((o : Int)).toNat = o := by omega
  repeat' (first | (with_reducible first | apply w_let | apply w_and | refine And.intro True.intro ?_) | ((with_reducible first | apply a_lss | apply a_leq | apply a_gtr | apply a_geq | apply a_eql | apply a_neq); rfl; rfl) | ((with_reducible first | apply a_eqlS | apply a_neqS | apply a_eqlB | apply a_neqB); rfl; rfl) | ((with_reducible apply w_add); rfl; rfl; first | assumption | (unfold inI; omega)) | ((with_reducible apply w_sub); rfl; rfl; first | assumption | (unfold inI; omega)) | ((with_reducible apply a_not); rfl) | ((with_reducible apply w_pick_t); rfl) | ((with_reducible apply w_pick_f); rfl) | ((with_reducible apply a_cond1); rfl; first | rfl | assumption) | ((with_reducible apply a_cond0); rfl; first | rfl | assumption) | ((with_reducible apply a_guard1); rfl; first | rfl | assumption) | ((with_reducible apply a_guard0); rfl; first | rfl | assumption) | ((with_reducible apply w_guard_u); rfl) | ((with_reducible apply a_pick1); rfl; first | rfl | assumption) | ((with_reducible apply a_pick0); rfl; first | rfl | assumption) | ((with_reducible apply a_pickN); rfl) | ((with_reducible apply a_condN); rfl) | ((with_reducible apply a_guardN); rfl) | ((with_reducible apply w_fad); rfl) | ((with_reducible apply a_fadI); rfl) | ((with_reducible apply w_load); rfl; rfl; rfl) | ((with_reducible apply w_loadI); rfl) | ((with_reducible apply w_loadA); rfl; rfl; first | exact Nat.le_refl _ | exact Nat.le_of_ble_eq_true rfl) | ((with_reducible apply a_eqA); rfl; rfl; rfl) | ((with_reducible apply a_loadAI); rfl; first | rfl | simp) | ((with_reducible apply w_new); first | rfl | simp) | ((with_reducible apply a_store); rfl; rfl; rfl; rfl; (first | exact Nat.le_refl _ | simp); (first | rfl | simp); (first | rfl | simp)) | ((with_reducible apply a_lenS); rfl; intro _) | ((with_reducible apply a_len); rfl; (first | rfl | simp); intro _) | ((with_reducible apply a_build); rfl) | ((with_reducible apply a_extr); rfl; rfl) | (refine iCall_con (by kernel_rfl) (con_rNamed n hn) ?_) | (refine a_mkOp ?_) | (refine a_idxU rfl rfl (opL_at o ho) ?_) | (refine w_callQ rfl (by kernel_rfl) (con_rTextQ v hv) ?_) | (refine a_addS rfl rfl rfl (by simp only [List.length_append, List.length_cons, List.length_nil]; unfold maxLen; omega) ?_) | ((with_reducible apply a_cond); rfl) | ((with_reducible apply a_guard); rfl) | (with_reducible intro _))
  all_goals refine .pure (by simp) ?_
  all_goals rename_i e1 e2
  all_goals simp only [decide_eq_true_eq, decide_eq_false_iff_not] at e1
  all_goals subst e2
  · rw [atT, if_pos e1]; simp
  · rw [atT, if_pos e1]; simp
  · rw [atT, if_neg e1, ho2]; simp
  · rw [atT, if_neg e1, ho2]; simp
theorem con_rFirst (k : Int) (n : Str) (o : Int) (v : Str) (f : Bool) (a b : Int) (w : Bool) (rows : List (List AV)) (pr : PureR rows) :
    Con Tryz.prog 58 [.agg [u8 k, .str n, u8 o, .str v, bool f, int a, int b, bool w, .sl 3 rows]] (bool (frst k a b w)) := by
  refine (V58 _).gives (by simp [pr]) (by simp) ?_
  unfold W58
  repeat' (first | (with_reducible first | apply w_let | apply w_and | refine And.intro True.intro ?_) | ((with_reducible first | apply a_lss | apply a_leq | apply a_gtr | apply a_geq | apply a_eql | apply a_neq); rfl; rfl) | ((with_reducible first | apply a_eqlS | apply a_neqS | apply a_eqlB | apply a_neqB); rfl; rfl) | ((with_reducible apply w_add); rfl; rfl; first | assumption | (unfold inI; omega)) | ((with_reducible apply w_sub); rfl; rfl; first | assumption | (unfold inI; omega)) | ((with_reducible apply a_not); rfl) | ((with_reducible apply w_pick_t); rfl) | ((with_reducible apply w_pick_f); rfl) | ((with_reducible apply a_cond1); rfl; first | rfl | assumption) | ((with_reducible apply a_cond0); rfl; first | rfl | assumption) | ((with_reducible apply a_guard1); rfl; first | rfl | assumption) | ((with_reducible apply a_guard0); rfl; first | rfl | assumption) | ((with_reducible apply w_guard_u); rfl) | ((with_reducible apply a_pick1); rfl; first | rfl | assumption) | ((with_reducible apply a_pick0); rfl; first | rfl | assumption) | ((with_reducible apply a_pickN); rfl) | ((with_reducible apply a_condN); rfl) | ((with_reducible apply a_guardN); rfl) | ((with_reducible apply w_fad); rfl) | ((with_reducible apply a_fadI); rfl) | ((with_reducible apply w_load); rfl; rfl; rfl) | ((with_reducible apply w_loadI); rfl) | ((with_reducible apply w_loadA); rfl; rfl; first | exact Nat.le_refl _ | exact Nat.le_of_ble_eq_true rfl) | ((with_reducible apply a_eqA); rfl; rfl; rfl) | ((with_reducible apply a_loadAI); rfl; first | rfl | simp) | ((with_reducible apply w_new); first | rfl | simp) | ((with_reducible apply a_store); rfl; rfl; rfl; rfl; (first | exact Nat.le_refl _ | simp); (first | rfl | simp); (first | rfl | simp)) | ((with_reducible apply a_lenS); rfl; intro _) | ((with_reducible apply a_len); rfl; (first | rfl | simp); intro _) | ((with_reducible apply a_build); rfl) | ((with_reducible apply a_extr); rfl; rfl) | ((with_reducible apply a_cond); rfl) | ((with_reducible apply a_guard); rfl) | (with_reducible intro _))
  all_goals refine .pure (by simp) ?_
  all_goals simp only [nx_zero, nx_one, AV.v.injEq, Value.bool.injEq, Value.int.injEq, true_and] at *
  all_goals grind [frst, isNth]
end Go.Proofs.YthblflmjingcfaaGreatDoor
end
