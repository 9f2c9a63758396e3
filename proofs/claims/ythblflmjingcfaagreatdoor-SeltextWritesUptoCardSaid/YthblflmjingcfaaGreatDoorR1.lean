/-
  The reference's names and small letters. The reference's check of selectors, by how great they are. The reference's check of selectors: compounds, lists within.
  No conditions.
-/
import Derived.Test.YthblflmjingcfaaGreatDoorS2
import Derived.Test.YthblflmjingcfaaGreatDoorWRef
set_option linter.unusedVariables false
set_option linter.unusedSimpArgs false
section
namespace Go.Proofs.YthblflmjingcfaaGreatDoor
open Go Go.Aw Go.Sel
set_option maxRecDepth 100000
theorem low_up (b : UInt8) (h1 : 65 ≤ (b.toNat : Int)) (h2 : (b.toNat : Int) ≤ 90) : IntKind.u8.wrap (IntKind.u8.wrap ((b.toNat : Int) - 65) + 97) = ((lowB b).toNat : Int) := by
  have : ∀ n : Fin 26, IntKind.u8.wrap (IntKind.u8.wrap (((65 + n.val : Nat) : Int) - 65) + 97) = ((lowB (UInt8.ofNat (65 + n.val))).toNat : Int) := by decide
  have hb : b = UInt8.ofNat (65 + (b.toNat - 65)) := by
    rw [show 65 + (b.toNat - 65) = b.toNat by omega]; simp
  have h := this ⟨b.toNat - 65, by omega⟩
  simp only [show 65 + (b.toNat - 65) = b.toNat by omega] at h
  rw [h]; simp
variable [Laid]
theorem con_rsmallB (b : UInt8) : Con Tryz.prog 75 [byteA b] (byteA (lowB b)) := by
  refine (V75 _).gives (by simp [byteA]) (by simp [byteA]) ?_
  unfold W75 byteA
  repeat' (first | (with_reducible apply w_let) | (with_reducible apply w_and) | ((with_reducible first | apply a_lss | apply a_leq | apply a_gtr | apply a_geq | apply a_eql | apply a_neq); rfl; rfl) | ((with_reducible first | apply a_eqlS | apply a_neqS | apply a_eqlB | apply a_neqB); rfl; rfl) | ((with_reducible apply w_add); rfl; rfl; first | assumption | (unfold inI; omega)) | ((with_reducible apply w_sub); rfl; rfl; first | assumption | (unfold inI; omega)) | ((with_reducible apply a_not); rfl) | ((with_reducible apply w_pick_t); rfl) | ((with_reducible apply w_pick_f); rfl) | ((with_reducible apply a_cond1); rfl; first | rfl | assumption) | ((with_reducible apply a_cond0); rfl; first | rfl | assumption) | ((with_reducible apply a_guard1); rfl; first | rfl | assumption) | ((with_reducible apply a_guard0); rfl; first | rfl | assumption) | ((with_reducible apply w_guard_u); rfl) | ((with_reducible apply a_condN); rfl) | ((with_reducible apply a_guardN); rfl) | ((with_reducible apply w_fad); rfl) | ((with_reducible apply a_fadI); rfl) | ((with_reducible apply w_load); rfl; rfl; rfl) | ((with_reducible apply w_loadI); rfl) | ((with_reducible apply w_loadA); rfl; rfl; first | exact Nat.le_refl _ | exact Nat.le_of_ble_eq_true rfl) | ((with_reducible apply a_eqA); rfl; rfl; rfl) | ((with_reducible apply a_loadAI); rfl; first | rfl | simp) | ((with_reducible apply w_new); first | rfl | simp) | ((with_reducible apply a_store); rfl; rfl; rfl; rfl; (first | exact Nat.le_refl _ | simp); (first | rfl | simp); (first | rfl | simp)) | ((with_reducible apply a_lenS); rfl; intro _) | ((with_reducible apply a_len); rfl; (first | rfl | simp); intro _) | ((with_reducible apply a_build); rfl) | ((with_reducible apply a_extr); rfl; rfl) | ((with_reducible apply a_cond); rfl) | ((with_reducible apply a_guard); rfl) | (with_reducible intro _))
  · rename_i h1 h2
    have h1 : 65 ≤ (b.toNat : Int) := by simpa using h1
    have h2 : (b.toNat : Int) ≤ 90 := by simpa using h2
    simp [iWr]
    exact .pure (by simp) (by rw [low_up b h1 h2])
  all_goals refine .pure (by simp) ?_
  all_goals rw [low_id b (by simp_all; try omega)]
theorem con_rlower (s : Str) : Con Tryz.prog 111 [.str s] (.str (s.map lowB)) := by
  refine (V111 _).gives (by simp) (by simp) ?_
  unfold W111
  rw [iToBytes_s]
  refine iLoop_of (α := Nat) (fun k => k ≤ s.length) (fun k => [int k]) (fun k => [.blk ⟨5, lowCells s k, true⟩]) (fun k => s.length - k) 0 (by simp) (by simpa [lowCells] using Wk.refl _ _ _ (by simp)) ?_
  intro k hk
  rw [iLen_o]
  intro hlen
  by_cases q : k < s.length
  · obtain ⟨b, hb⟩ : ∃ b, s[k]? = some b := ⟨s[k], List.getElem?_eq_getElem q⟩
    have hc := lowCells_get hb
    refine a_lss rfl rfl ?_
    refine a_cond1 rfl (by simpa using q) ?_
    have idx : ∀ {K : AV → Prop}, K (.op 0 k) → iIdxP 1 (.own 0 0 s.length 1) (nx [int k] 0) K := fun q2 => by
      rw [nx_zero, iIdxP_o]; exact ⟨rfl, ⟨by omega, by omega⟩, by simpa using q2⟩
    refine idx ?_
    refine w_load rfl rfl hc ?_
    have hin : inI ((k : Int) + 1) := by unfold maxLen at hlen; unfold inI; omega
    refine iCall_con (by kernel_rfl) (con_rsmallB b) ?_
    refine idx ?_
    refine a_store (cs := [byteA (lowB b)]) rfl rfl rfl rfl (by simp [lowCells_len]; omega) rfl rfl ?_
    refine w_add rfl rfl hin ?_
    refine w_and ?_
    refine ⟨k + 1, by omega, ?_, by omega⟩
    have := lowCells_next hb
    rw [show setAll (lowCells s k) k [byteA (lowB b)] = lowCells s (k + 1) from this]
    exact Wk.refl _ _ _ (by simp)
  · obtain rfl : k = s.length := by omega
    refine a_lss rfl rfl ?_
    refine a_cond0 rfl (by simp) ?_
    refine a_ofBytes (id := 0) (b := ⟨5, lowCells s s.length, true⟩) (l := s.map lowB) (by simp) rfl (by simp [lowCells]) ?_
    exact .pure (by simp) rfl
theorem con_rbytes (s : Str) (n : Int) : Con Tryz.prog 113 [.str s, int n] (bool (noZero s && decide ((s.length : Int) ≤ n))) := by
  refine (V113 _ _).gives (by simp) (by simp) ?_
  unfold W113
  refine iLoop_of (α := Nat) (fun k => k ≤ s.length ∧ noZero (s.take k) = true) (fun k => [int k]) (fun _ => []) (fun k => s.length - k) 0 (by simp [noZero]) (Wk.refl _ _ _ (by simp)) ?_
  rintro k ⟨hk, hI⟩
  refine a_lenS rfl fun hlen => ?_
  refine a_lss rfl rfl ?_
  rcases Nat.lt_or_ge k s.length with q | q
  · obtain ⟨b, hb⟩ : ∃ b, s[k]? = some b := ⟨s[k], List.getElem?_eq_getElem q⟩
    have hin : inI ((k : Int) + 1) := by unfold maxLen at hlen; unfold inI; omega
    refine a_cond1 rfl (by simpa using q) ?_
    refine a_idxS rfl rfl hb ?_
    repeat' (first | (with_reducible apply w_let) | (with_reducible apply w_and) | ((with_reducible first | apply a_lss | apply a_leq | apply a_gtr | apply a_geq | apply a_eql | apply a_neq); rfl; rfl) | ((with_reducible first | apply a_eqlS | apply a_neqS | apply a_eqlB | apply a_neqB); rfl; rfl) | ((with_reducible apply w_add); rfl; rfl; first | assumption | (unfold inI; omega)) | ((with_reducible apply w_sub); rfl; rfl; first | assumption | (unfold inI; omega)) | ((with_reducible apply a_not); rfl) | ((with_reducible apply w_pick_t); rfl) | ((with_reducible apply w_pick_f); rfl) | ((with_reducible apply a_cond1); rfl; first | rfl | assumption) | ((with_reducible apply a_cond0); rfl; first | rfl | assumption) | ((with_reducible apply a_guard1); rfl; first | rfl | assumption) | ((with_reducible apply a_guard0); rfl; first | rfl | assumption) | ((with_reducible apply w_guard_u); rfl) | ((with_reducible apply a_condN); rfl) | ((with_reducible apply a_guardN); rfl) | ((with_reducible apply w_fad); rfl) | ((with_reducible apply a_fadI); rfl) | ((with_reducible apply w_load); rfl; rfl; rfl) | ((with_reducible apply w_loadI); rfl) | ((with_reducible apply w_loadA); rfl; rfl; first | exact Nat.le_refl _ | exact Nat.le_of_ble_eq_true rfl) | ((with_reducible apply a_eqA); rfl; rfl; rfl) | ((with_reducible apply a_loadAI); rfl; first | rfl | simp) | ((with_reducible apply w_new); first | rfl | simp) | ((with_reducible apply a_store); rfl; rfl; rfl; rfl; (first | exact Nat.le_refl _ | simp); (first | rfl | simp); (first | rfl | simp)) | ((with_reducible apply a_lenS); rfl; intro _) | ((with_reducible apply a_len); rfl; (first | rfl | simp); intro _) | ((with_reducible apply a_build); rfl) | ((with_reducible apply a_extr); rfl; rfl) | ((with_reducible apply a_cond); rfl) | ((with_reducible apply a_guard); rfl) | (with_reducible intro _))
    · rename_i hz
      have : b = 0 := by
        have : (b.toNat : Int) = 0 := by simpa using hz
        exact UInt8.toNat_inj.1 (by simpa using this)
      subst this
      refine .pure (by simp) ?_
      have : noZero s = false := by
        unfold noZero
        rw [List.all_eq_false]
        exact ⟨0, List.mem_of_getElem? hb, by simp⟩
      rw [this]; rfl
    · rename_i hz
      have : b ≠ 0 := by
        rintro rfl
        simp at hz
      refine ⟨k + 1, ⟨q, ?_⟩, Wk.refl _ _ _ (by simp), by omega⟩
      rw [List.take_add_one, hb]
      unfold noZero at hI ⊢
      rw [List.all_append, hI]
      simpa using this
  · have hk : k = s.length := by omega
    subst hk
    rw [List.take_length] at hI
    refine a_cond0 rfl (by simp) ?_
    refine a_lenS rfl fun _ => ?_
    refine a_leq rfl rfl ?_
    exact .pure (by simp) (by rw [hI]; rfl)
theorem con_rnamed (s : Str) : Con Tryz.prog 110 [.str s] (bool (named s)) := by
  refine (V110 _).gives (by simp) (by simp) ?_
  unfold W110
  repeat' (first | (with_reducible apply w_let) | (with_reducible apply w_and) | ((with_reducible first | apply a_lss | apply a_leq | apply a_gtr | apply a_geq | apply a_eql | apply a_neq); rfl; rfl) | ((with_reducible first | apply a_eqlS | apply a_neqS | apply a_eqlB | apply a_neqB); rfl; rfl) | ((with_reducible apply w_add); rfl; rfl; first | assumption | (unfold inI; omega)) | ((with_reducible apply w_sub); rfl; rfl; first | assumption | (unfold inI; omega)) | ((with_reducible apply a_not); rfl) | ((with_reducible apply w_pick_t); rfl) | ((with_reducible apply w_pick_f); rfl) | ((with_reducible apply a_cond1); rfl; first | rfl | assumption) | ((with_reducible apply a_cond0); rfl; first | rfl | assumption) | ((with_reducible apply a_guard1); rfl; first | rfl | assumption) | ((with_reducible apply a_guard0); rfl; first | rfl | assumption) | ((with_reducible apply w_guard_u); rfl) | ((with_reducible apply a_condN); rfl) | ((with_reducible apply a_guardN); rfl) | ((with_reducible apply w_fad); rfl) | ((with_reducible apply a_fadI); rfl) | ((with_reducible apply w_load); rfl; rfl; rfl) | ((with_reducible apply w_loadI); rfl) | ((with_reducible apply w_loadA); rfl; rfl; first | exact Nat.le_refl _ | exact Nat.le_of_ble_eq_true rfl) | ((with_reducible apply a_eqA); rfl; rfl; rfl) | ((with_reducible apply a_loadAI); rfl; first | rfl | simp) | ((with_reducible apply w_new); first | rfl | simp) | ((with_reducible apply a_store); rfl; rfl; rfl; rfl; (first | exact Nat.le_refl _ | simp); (first | rfl | simp); (first | rfl | simp)) | ((with_reducible apply a_lenS); rfl; intro _) | ((with_reducible apply a_len); rfl; (first | rfl | simp); intro _) | ((with_reducible apply a_build); rfl) | ((with_reducible apply a_extr); rfl; rfl) | (refine iCall_con (by kernel_rfl) (con_rbytes _ _) ?_) | ((with_reducible apply a_cond); rfl) | ((with_reducible apply a_guard); rfl) | (with_reducible intro _))
  all_goals refine .pure (by simp) ?_
  all_goals simp only [nx_zero, nx_one, AV.v.injEq, Value.bool.injEq, Value.int.injEq, true_and] at *
  all_goals first
    | grind [named]
    | (simp_all [named]; done)
    | (simp_all [named]; omega)
theorem con_rsmall (s : Str) : Con Tryz.prog 85 [.str s] (bool (small s)) := by
  refine (V85 _).gives (by simp) (by simp) ?_
  unfold W85
  repeat' (first | (with_reducible apply w_let) | (with_reducible apply w_and) | ((with_reducible first | apply a_lss | apply a_leq | apply a_gtr | apply a_geq | apply a_eql | apply a_neq); rfl; rfl) | ((with_reducible first | apply a_eqlS | apply a_neqS | apply a_eqlB | apply a_neqB); rfl; rfl) | ((with_reducible apply w_add); rfl; rfl; first | assumption | (unfold inI; omega)) | ((with_reducible apply w_sub); rfl; rfl; first | assumption | (unfold inI; omega)) | ((with_reducible apply a_not); rfl) | ((with_reducible apply w_pick_t); rfl) | ((with_reducible apply w_pick_f); rfl) | ((with_reducible apply a_cond1); rfl; first | rfl | assumption) | ((with_reducible apply a_cond0); rfl; first | rfl | assumption) | ((with_reducible apply a_guard1); rfl; first | rfl | assumption) | ((with_reducible apply a_guard0); rfl; first | rfl | assumption) | ((with_reducible apply w_guard_u); rfl) | ((with_reducible apply a_condN); rfl) | ((with_reducible apply a_guardN); rfl) | ((with_reducible apply w_fad); rfl) | ((with_reducible apply a_fadI); rfl) | ((with_reducible apply w_load); rfl; rfl; rfl) | ((with_reducible apply w_loadI); rfl) | ((with_reducible apply w_loadA); rfl; rfl; first | exact Nat.le_refl _ | exact Nat.le_of_ble_eq_true rfl) | ((with_reducible apply a_eqA); rfl; rfl; rfl) | ((with_reducible apply a_loadAI); rfl; first | rfl | simp) | ((with_reducible apply w_new); first | rfl | simp) | ((with_reducible apply a_store); rfl; rfl; rfl; rfl; (first | exact Nat.le_refl _ | simp); (first | rfl | simp); (first | rfl | simp)) | ((with_reducible apply a_lenS); rfl; intro _) | ((with_reducible apply a_len); rfl; (first | rfl | simp); intro _) | ((with_reducible apply a_build); rfl) | ((with_reducible apply a_extr); rfl; rfl) | (refine iCall_con (by kernel_rfl) (con_rnamed _) ?_) | (refine iCall_con (by kernel_rfl) (con_rlower _) ?_) | ((with_reducible apply a_cond); rfl) | ((with_reducible apply a_guard); rfl) | (with_reducible intro _))
  all_goals refine .pure (by simp) ?_
  all_goals simp only [nx_zero, nx_one, AV.v.injEq, Value.bool.injEq, Value.int.injEq, true_and] at *
  all_goals first
    | grind [small]
    | (simp_all [small]; done)
    | (simp_all [small]; omega)
theorem con_rvalid (a b : Int) : Con Tryz.prog 114 [.agg [int a, int b]] (bool (anbOK a && anbOK b)) := by
  refine (V114 _).gives (by simp) (by simp) ?_
  unfold W114
  repeat' (first | (with_reducible apply w_let) | (with_reducible apply w_and) | ((with_reducible first | apply a_lss | apply a_leq | apply a_gtr | apply a_geq | apply a_eql | apply a_neq); rfl; rfl) | ((with_reducible first | apply a_eqlS | apply a_neqS | apply a_eqlB | apply a_neqB); rfl; rfl) | ((with_reducible apply w_add); rfl; rfl; first | assumption | (unfold inI; omega)) | ((with_reducible apply w_sub); rfl; rfl; first | assumption | (unfold inI; omega)) | ((with_reducible apply a_not); rfl) | ((with_reducible apply w_pick_t); rfl) | ((with_reducible apply w_pick_f); rfl) | ((with_reducible apply a_cond1); rfl; first | rfl | assumption) | ((with_reducible apply a_cond0); rfl; first | rfl | assumption) | ((with_reducible apply a_guard1); rfl; first | rfl | assumption) | ((with_reducible apply a_guard0); rfl; first | rfl | assumption) | ((with_reducible apply w_guard_u); rfl) | ((with_reducible apply a_condN); rfl) | ((with_reducible apply a_guardN); rfl) | ((with_reducible apply w_fad); rfl) | ((with_reducible apply a_fadI); rfl) | ((with_reducible apply w_load); rfl; rfl; rfl) | ((with_reducible apply w_loadI); rfl) | ((with_reducible apply w_loadA); rfl; rfl; first | exact Nat.le_refl _ | exact Nat.le_of_ble_eq_true rfl) | ((with_reducible apply a_eqA); rfl; rfl; rfl) | ((with_reducible apply a_loadAI); rfl; first | rfl | simp) | ((with_reducible apply w_new); first | rfl | simp) | ((with_reducible apply a_store); rfl; rfl; rfl; rfl; (first | exact Nat.le_refl _ | simp); (first | rfl | simp); (first | rfl | simp)) | ((with_reducible apply a_lenS); rfl; intro _) | ((with_reducible apply a_len); rfl; (first | rfl | simp); intro _) | ((with_reducible apply a_build); rfl) | ((with_reducible apply a_extr); rfl; rfl) | ((with_reducible apply a_cond); rfl) | ((with_reducible apply a_guard); rfl) | (with_reducible intro _))
  all_goals refine .pure (by simp) ?_
  all_goals simp only [nx_zero, nx_one, AV.v.injEq, Value.bool.injEq, Value.int.injEq, true_and] at *
  all_goals first
    | grind [anbOK]
    | (simp_all [anbOK]; done)
    | (simp_all [anbOK]; omega)
theorem con_below1 (d : Nat) (has : Bool) (k : Int) (hd : d ≤ 3) (hq : inOK d has k = true) : Con Tryz.prog 138 [.agg [int d, bool has], u1 k] (.tup [.agg [int (d + 1), bool (has || decide (k = 14))], tt]) := by
  refine (V138 _ _).gives (by simp) (by simp) ?_
  unfold W138
  have hin : inI ((d : Int) + 1) := by unfold inI; omega
  unfold inOK at hq
  repeat' (first | (with_reducible apply w_let) | (with_reducible apply w_and) | ((with_reducible first | apply a_lss | apply a_leq | apply a_gtr | apply a_geq | apply a_eql | apply a_neq); rfl; rfl) | ((with_reducible first | apply a_eqlS | apply a_neqS | apply a_eqlB | apply a_neqB); rfl; rfl) | ((with_reducible apply w_add); rfl; rfl; first | assumption | (unfold inI; omega)) | ((with_reducible apply w_sub); rfl; rfl; first | assumption | (unfold inI; omega)) | ((with_reducible apply a_not); rfl) | ((with_reducible apply w_pick_t); rfl) | ((with_reducible apply w_pick_f); rfl) | ((with_reducible apply a_cond1); rfl; first | rfl | assumption) | ((with_reducible apply a_cond0); rfl; first | rfl | assumption) | ((with_reducible apply a_guard1); rfl; first | rfl | assumption) | ((with_reducible apply a_guard0); rfl; first | rfl | assumption) | ((with_reducible apply w_guard_u); rfl) | ((with_reducible apply a_condN); rfl) | ((with_reducible apply a_guardN); rfl) | ((with_reducible apply w_fad); rfl) | ((with_reducible apply a_fadI); rfl) | ((with_reducible apply w_load); rfl; rfl; rfl) | ((with_reducible apply w_loadI); rfl) | ((with_reducible apply w_loadA); rfl; rfl; first | exact Nat.le_refl _ | exact Nat.le_of_ble_eq_true rfl) | ((with_reducible apply a_eqA); rfl; rfl; rfl) | ((with_reducible apply a_loadAI); rfl; first | rfl | simp) | ((with_reducible apply w_new); first | rfl | simp) | ((with_reducible apply a_store); rfl; rfl; rfl; rfl; (first | exact Nat.le_refl _ | simp); (first | rfl | simp); (first | rfl | simp)) | ((with_reducible apply a_lenS); rfl; intro _) | ((with_reducible apply a_len); rfl; (first | rfl | simp); intro _) | ((with_reducible apply a_build); rfl) | ((with_reducible apply a_extr); rfl; rfl) | ((with_reducible apply a_cond); rfl) | ((with_reducible apply a_guard); rfl) | (with_reducible intro _))
  all_goals refine .pure (by simp) ?_
  all_goals simp only [nx_zero, nx_one, setAll, vcells] at *
  all_goals first | (exfalso; grind) | grind | simp_all
theorem con_below0 (d : Nat) (has : Bool) (k : Int) (hd : d ≤ 3) (hq : inOK d has k = false) : Con Tryz.prog 138 [.agg [int d, bool has], u1 k] (.tup [.agg [int d, bool has], ff]) := by
  refine (V138 _ _).gives (by simp) (by simp) ?_
  unfold W138
  have hin : inI ((d : Int) + 1) := by unfold inI; omega
  unfold inOK at hq
  repeat' (first | (with_reducible apply w_let) | (with_reducible apply w_and) | ((with_reducible first | apply a_lss | apply a_leq | apply a_gtr | apply a_geq | apply a_eql | apply a_neq); rfl; rfl) | ((with_reducible first | apply a_eqlS | apply a_neqS | apply a_eqlB | apply a_neqB); rfl; rfl) | ((with_reducible apply w_add); rfl; rfl; first | assumption | (unfold inI; omega)) | ((with_reducible apply w_sub); rfl; rfl; first | assumption | (unfold inI; omega)) | ((with_reducible apply a_not); rfl) | ((with_reducible apply w_pick_t); rfl) | ((with_reducible apply w_pick_f); rfl) | ((with_reducible apply a_cond1); rfl; first | rfl | assumption) | ((with_reducible apply a_cond0); rfl; first | rfl | assumption) | ((with_reducible apply a_guard1); rfl; first | rfl | assumption) | ((with_reducible apply a_guard0); rfl; first | rfl | assumption) | ((with_reducible apply w_guard_u); rfl) | ((with_reducible apply a_condN); rfl) | ((with_reducible apply a_guardN); rfl) | ((with_reducible apply w_fad); rfl) | ((with_reducible apply a_fadI); rfl) | ((with_reducible apply w_load); rfl; rfl; rfl) | ((with_reducible apply w_loadI); rfl) | ((with_reducible apply w_loadA); rfl; rfl; first | exact Nat.le_refl _ | exact Nat.le_of_ble_eq_true rfl) | ((with_reducible apply a_eqA); rfl; rfl; rfl) | ((with_reducible apply a_loadAI); rfl; first | rfl | simp) | ((with_reducible apply w_new); first | rfl | simp) | ((with_reducible apply a_store); rfl; rfl; rfl; rfl; (first | exact Nat.le_refl _ | simp); (first | rfl | simp); (first | rfl | simp)) | ((with_reducible apply a_lenS); rfl; intro _) | ((with_reducible apply a_len); rfl; (first | rfl | simp); intro _) | ((with_reducible apply a_build); rfl) | ((with_reducible apply a_extr); rfl; rfl) | ((with_reducible apply a_cond); rfl) | ((with_reducible apply a_guard); rfl) | (with_reducible intro _))
  all_goals refine .pure (by simp) ?_
  all_goals simp only [nx_zero, nx_one, setAll, vcells] at *
  all_goals first | (exfalso; grind) | grind | simp_all
end Go.Proofs.YthblflmjingcfaaGreatDoor
end

section
namespace Go.Proofs.YthblflmjingcfaaGreatDoor
open Go Go.Aw Go.Sel
set_option maxRecDepth 100000
variable [Laid]
def RkX (n : Nat) : Prop := ∀ x : Cx, zX x ≤ n → ∀ (d : Nat) (has rel : Bool), d ≤ 3 → Con Tryz.prog 43 [.agg (encX x), .agg [int d, bool has], bool rel] (bool (okX d has rel x))
def RkP (n : Nat) : Prop := ∀ p : Cp, zP p ≤ n → ∀ (d : Nat) (has : Bool), d ≤ 3 → Con Tryz.prog 63 [.agg (encP p), .agg [int d, bool has]] (bool (okP d has p))
def RkS (n : Nat) : Prop := ∀ s : Sm, zS s ≤ n → ∀ (d : Nat) (has : Bool), d ≤ 3 → Con Tryz.prog 86 [.agg (encS s), .agg [int d, bool has]] (bool (okS d has s))
theorem rkX_step {n : Nat} (hn : n < 2 ^ 60) (hP : RkP n) : RkX (n + 1) := by
  rintro ⟨l, ps, cs⟩ hz d has rel hd
  rw [zX] at hz
  refine (V43 _ _ _).gives (by simp [pureX]) (by simp) ?_
  unfold W43
  rw [encX]
  have hlen : (encPs ps).length = ps.length := by simp [encPs_map]
  have hpl := zPs_len ps
  have hc : inI (((encPs ps).length : Int) - 1) := by rw [hlen]; unfold inI; omega
  repeat' (first | (with_reducible apply w_let) | (with_reducible apply w_and) | ((with_reducible first | apply a_lss | apply a_leq | apply a_gtr | apply a_geq | apply a_eql | apply a_neq); rfl; rfl) | ((with_reducible first | apply a_eqlS | apply a_neqS | apply a_eqlB | apply a_neqB); rfl; rfl) | ((with_reducible apply w_add); rfl; rfl; first | assumption | (unfold inI; omega)) | ((with_reducible apply w_sub); rfl; rfl; first | assumption | (unfold inI; omega)) | ((with_reducible apply a_not); rfl) | ((with_reducible apply w_pick_t); rfl) | ((with_reducible apply w_pick_f); rfl) | ((with_reducible apply a_cond1); rfl; first | rfl | assumption) | ((with_reducible apply a_cond0); rfl; first | rfl | assumption) | ((with_reducible apply a_guard1); rfl; first | rfl | assumption) | ((with_reducible apply a_guard0); rfl; first | rfl | assumption) | ((with_reducible apply w_guard_u); rfl) | ((with_reducible apply a_pick1); rfl; first | rfl | assumption) | ((with_reducible apply a_pick0); rfl; first | rfl | assumption) | ((with_reducible apply a_pickN); rfl) | ((with_reducible apply a_condN); rfl) | ((with_reducible apply a_guardN); rfl) | ((with_reducible apply w_fad); rfl) | ((with_reducible apply a_fadI); rfl) | ((with_reducible apply w_load); rfl; rfl; rfl) | ((with_reducible apply w_loadI); rfl) | ((with_reducible apply w_loadA); rfl; rfl; first | exact Nat.le_refl _ | exact Nat.le_of_ble_eq_true rfl) | ((with_reducible apply a_eqA); rfl; rfl; rfl) | ((with_reducible apply a_loadAI); rfl; first | rfl | simp) | ((with_reducible apply w_new); first | rfl | simp) | ((with_reducible apply a_store); rfl; rfl; rfl; rfl; (first | exact Nat.le_refl _ | simp); (first | rfl | simp); (first | rfl | simp)) | ((with_reducible apply a_lenS); rfl; intro _) | ((with_reducible apply a_len); rfl; (first | rfl | simp); intro _) | ((with_reducible apply a_build); rfl) | ((with_reducible apply a_extr); rfl; rfl) | ((with_reducible apply a_cond); rfl) | ((with_reducible apply a_guard); rfl) | (with_reducible intro _))
  all_goals first
    | (refine .pure (by simp) ?_
       rw [okX_bad _ _ _ _ _ _ (by simp only [List.length_map, hlen] at *; grind)])
    | (have b0 : (rel == !decide (l = 0)) = true := by grind
       have b1 : l ≤ 4 := by grind
       have b2 : cs.length + 1 = ps.length := by simp only [List.length_map] at *; grind
       have b3 : ps.length ≤ 64 := by grind
       refine iLoop_of (α := Nat) (fun k => k ≤ ps.length ∧ (ps.take k).all (okP d has) = true ∧ (cs.take (k - 1)).all (fun c => decide (1 ≤ c ∧ c ≤ 4)) = true) (fun k => [int k]) (fun _ => [.blk ⟨42, [u1 l, .sl 2 (encPs ps), .sl 1 (cs.map fun c => [u1 c])], true⟩, .blk ⟨98, [int d, bool has], true⟩]) (fun k => ps.length - k) 0 (by simp) (Wk.refl _ _ _ (by simp)) ?_
       rintro k ⟨hk, hI, hJ⟩
       refine w_fad rfl ?_
       refine w_load rfl rfl rfl ?_
       refine a_len (n := ps.length) rfl hlen fun _ => ?_
       refine a_lss rfl rfl ?_
       rcases Nat.lt_or_ge k ps.length with q | q
       · obtain ⟨p, hx⟩ : ∃ p, ps[k]? = some p := ⟨ps[k], List.getElem?_eq_getElem q⟩
         have hin : inI ((k : Int) + 1) := by unfold inI; omega
         have hin2 : inI ((k : Int) - 1) := by unfold inI; omega
         have nxt : (ps.take (k + 1)).all (okP d has) = okP d has p := by
           rw [List.take_add_one, hx, List.all_append, hI]; simp
         have badP : okP d has p = false → okX d has rel (.mk l ps cs) = false := by
           intro hb
           rw [okX, okPs_all]
           have : ps.all (okP d has) = false := by
             rw [List.all_eq_false]
             exact ⟨p, List.mem_of_getElem? hx, by simp [hb]⟩
           rw [this]; simp
         have hzp : zP p ≤ n := by have := zPs_mem (List.mem_of_getElem? hx); omega
         refine a_cond1 rfl (by simpa using q) ?_
         refine w_fad rfl ?_
         refine w_load rfl rfl rfl ?_
         refine a_idx rfl (encPs_map ps) rfl hx ?_
         refine a_loadAI rfl (by simp [encP_eq]) ?_
         refine w_loadA rfl rfl (Nat.le_refl _) ?_
         refine w_callQ rfl (by kernel_rfl) (hP p hzp d has hd) ?_
         by_cases hk0 : k = 0
         · subst hk0
           repeat' (first | (with_reducible apply w_let) | (with_reducible apply w_and) | ((with_reducible first | apply a_lss | apply a_leq | apply a_gtr | apply a_geq | apply a_eql | apply a_neq); rfl; rfl) | ((with_reducible first | apply a_eqlS | apply a_neqS | apply a_eqlB | apply a_neqB); rfl; rfl) | ((with_reducible apply w_add); rfl; rfl; first | assumption | (unfold inI; omega)) | ((with_reducible apply w_sub); rfl; rfl; first | assumption | (unfold inI; omega)) | ((with_reducible apply a_not); rfl) | ((with_reducible apply w_pick_t); rfl) | ((with_reducible apply w_pick_f); rfl) | ((with_reducible apply a_cond1); rfl; first | rfl | assumption) | ((with_reducible apply a_cond0); rfl; first | rfl | assumption) | ((with_reducible apply a_guard1); rfl; first | rfl | assumption) | ((with_reducible apply a_guard0); rfl; first | rfl | assumption) | ((with_reducible apply w_guard_u); rfl) | ((with_reducible apply a_pick1); rfl; first | rfl | assumption) | ((with_reducible apply a_pick0); rfl; first | rfl | assumption) | ((with_reducible apply a_pickN); rfl) | ((with_reducible apply a_condN); rfl) | ((with_reducible apply a_guardN); rfl) | ((with_reducible apply w_fad); rfl) | ((with_reducible apply a_fadI); rfl) | ((with_reducible apply w_load); rfl; rfl; rfl) | ((with_reducible apply w_loadI); rfl) | ((with_reducible apply w_loadA); rfl; rfl; first | exact Nat.le_refl _ | exact Nat.le_of_ble_eq_true rfl) | ((with_reducible apply a_eqA); rfl; rfl; rfl) | ((with_reducible apply a_loadAI); rfl; first | rfl | simp) | ((with_reducible apply w_new); first | rfl | simp) | ((with_reducible apply a_store); rfl; rfl; rfl; rfl; (first | exact Nat.le_refl _ | simp); (first | rfl | simp); (first | rfl | simp)) | ((with_reducible apply a_lenS); rfl; intro _) | ((with_reducible apply a_len); rfl; (first | rfl | simp); intro _) | ((with_reducible apply a_build); rfl) | ((with_reducible apply a_extr); rfl; rfl) | ((with_reducible apply a_cond); rfl) | ((with_reducible apply a_guard); rfl) | (with_reducible intro _))
           all_goals first
             | exact .pure (by simp) (by rw [badP (by simp_all)])
             | exact ⟨1, ⟨by omega, by rw [nxt]; simp_all, by simp⟩, Wk.refl _ _ _ (by simp), by omega⟩
             | (exfalso; simp_all; done)
             | (exfalso; grind)
         · obtain ⟨c, hcx⟩ : ∃ c, cs[k - 1]? = some c := ⟨cs[k - 1], List.getElem?_eq_getElem (by omega)⟩
           have nxc : (cs.take (k + 1 - 1)).all (fun c => decide (1 ≤ c ∧ c ≤ 4)) = decide (1 ≤ c ∧ c ≤ 4) := by
             rw [show k + 1 - 1 = k - 1 + 1 by omega, List.take_add_one, hcx, List.all_append, hJ]; simp
           have badC : ¬ (1 ≤ c ∧ c ≤ 4) → okX d has rel (.mk l ps cs) = false := by
             intro hb
             rw [okX]
             have : cs.all (fun c => decide (1 ≤ c ∧ c ≤ 4)) = false := by
               rw [List.all_eq_false]
               exact ⟨c, List.mem_of_getElem? hcx, by simpa using hb⟩
             rw [this]; simp
           have hki : (int ((k : Int) - 1)) = int ((k - 1 : Nat) : Int) := by rw [show ((k : Int) - 1) = ((k - 1 : Nat) : Int) by omega]
           repeat' (first | (with_reducible apply w_let) | (with_reducible apply w_and) | ((with_reducible first | apply a_lss | apply a_leq | apply a_gtr | apply a_geq | apply a_eql | apply a_neq); rfl; rfl) | ((with_reducible first | apply a_eqlS | apply a_neqS | apply a_eqlB | apply a_neqB); rfl; rfl) | ((with_reducible apply w_add); rfl; rfl; first | assumption | (unfold inI; omega)) | ((with_reducible apply w_sub); rfl; rfl; first | assumption | (unfold inI; omega)) | ((with_reducible apply a_not); rfl) | ((with_reducible apply w_pick_t); rfl) | ((with_reducible apply w_pick_f); rfl) | ((with_reducible apply a_cond1); rfl; first | rfl | assumption) | ((with_reducible apply a_cond0); rfl; first | rfl | assumption) | ((with_reducible apply a_guard1); rfl; first | rfl | assumption) | ((with_reducible apply a_guard0); rfl; first | rfl | assumption) | ((with_reducible apply w_guard_u); rfl) | ((with_reducible apply a_pick1); rfl; first | rfl | assumption) | ((with_reducible apply a_pick0); rfl; first | rfl | assumption) | ((with_reducible apply a_pickN); rfl) | ((with_reducible apply a_condN); rfl) | ((with_reducible apply a_guardN); rfl) | ((with_reducible apply w_fad); rfl) | ((with_reducible apply a_fadI); rfl) | ((with_reducible apply w_load); rfl; rfl; rfl) | ((with_reducible apply w_loadI); rfl) | ((with_reducible apply w_loadA); rfl; rfl; first | exact Nat.le_refl _ | exact Nat.le_of_ble_eq_true rfl) | ((with_reducible apply a_eqA); rfl; rfl; rfl) | ((with_reducible apply a_loadAI); rfl; first | rfl | simp) | ((with_reducible apply w_new); first | rfl | simp) | ((with_reducible apply a_store); rfl; rfl; rfl; rfl; (first | exact Nat.le_refl _ | simp); (first | rfl | simp); (first | rfl | simp)) | ((with_reducible apply a_lenS); rfl; intro _) | ((with_reducible apply a_len); rfl; (first | rfl | simp); intro _) | ((with_reducible apply a_build); rfl) | ((with_reducible apply a_extr); rfl; rfl) | (refine a_idx rfl rfl hki hcx ?_) | ((with_reducible apply a_cond); rfl) | ((with_reducible apply a_guard); rfl) | (with_reducible intro _))
           all_goals first
             | exact .pure (by simp) (by rw [badP (by grind)])
             | exact .pure (by simp) (by rw [badC (by grind)])
             | exact ⟨k + 1, ⟨by omega, by rw [nxt]; grind, by rw [nxc]; grind⟩, Wk.refl _ _ _ (by simp), by omega⟩
             | (exfalso; simp_all; done)
             | (exfalso; grind)
       · have hk : k = ps.length := by omega
         subst hk
         rw [List.take_length] at hI
         rw [show ps.length - 1 = cs.length by omega, List.take_length] at hJ
         refine a_cond0 rfl (by simp) ?_
         refine .pure (by simp) ?_
         rw [okX, okPs_all, hI, hJ, b0]
         simp [b1, b2, b3])
end Go.Proofs.YthblflmjingcfaaGreatDoor
end

section
namespace Go.Proofs.YthblflmjingcfaaGreatDoor
open Go Go.Aw Go.Sel
set_option maxRecDepth 100000
variable [Laid]
theorem rkP_step {n : Nat} (hn : n < 2 ^ 60) (hS : RkS n) : RkP (n + 1) := by
  rintro ⟨t, ss⟩ hz d has hd
  rw [zP] at hz
  refine (V63 _ _).gives (by simp [pureP]) (by simp) ?_
  unfold W63
  rw [encP]
  have hlen : (encSs ss).length = ss.length := by simp [encSs_map]
  have hsl := zSs_len ss
  have he : ss.isEmpty = decide (ss.length = 0) := by cases ss <;> simp
  repeat' (first | (with_reducible apply w_let) | (with_reducible apply w_and) | ((with_reducible first | apply a_lss | apply a_leq | apply a_gtr | apply a_geq | apply a_eql | apply a_neq); rfl; rfl) | ((with_reducible first | apply a_eqlS | apply a_neqS | apply a_eqlB | apply a_neqB); rfl; rfl) | ((with_reducible apply w_add); rfl; rfl; first | assumption | (unfold inI; omega)) | ((with_reducible apply w_sub); rfl; rfl; first | assumption | (unfold inI; omega)) | ((with_reducible apply a_not); rfl) | ((with_reducible apply w_pick_t); rfl) | ((with_reducible apply w_pick_f); rfl) | ((with_reducible apply a_cond1); rfl; first | rfl | assumption) | ((with_reducible apply a_cond0); rfl; first | rfl | assumption) | ((with_reducible apply a_guard1); rfl; first | rfl | assumption) | ((with_reducible apply a_guard0); rfl; first | rfl | assumption) | ((with_reducible apply w_guard_u); rfl) | ((with_reducible apply a_pick1); rfl; first | rfl | assumption) | ((with_reducible apply a_pick0); rfl; first | rfl | assumption) | ((with_reducible apply a_pickN); rfl) | ((with_reducible apply a_condN); rfl) | ((with_reducible apply a_guardN); rfl) | ((with_reducible apply w_fad); rfl) | ((with_reducible apply a_fadI); rfl) | ((with_reducible apply w_load); rfl; rfl; rfl) | ((with_reducible apply w_loadI); rfl) | ((with_reducible apply w_loadA); rfl; rfl; first | exact Nat.le_refl _ | exact Nat.le_of_ble_eq_true rfl) | ((with_reducible apply a_eqA); rfl; rfl; rfl) | ((with_reducible apply a_loadAI); rfl; first | rfl | simp) | ((with_reducible apply w_new); first | rfl | simp) | ((with_reducible apply a_store); rfl; rfl; rfl; rfl; (first | exact Nat.le_refl _ | simp); (first | rfl | simp); (first | rfl | simp)) | ((with_reducible apply a_lenS); rfl; intro _) | ((with_reducible apply a_len); rfl; (first | rfl | simp); intro _) | ((with_reducible apply a_build); rfl) | ((with_reducible apply a_extr); rfl; rfl) | (refine iCall_con (by kernel_rfl) (con_rsmall _) ?_) | ((with_reducible apply a_cond); rfl) | ((with_reducible apply a_guard); rfl) | (with_reducible intro _))
  all_goals first
    | (refine .pure (by simp) ?_
       have : okP d has (.mk t ss) = false := by
         rw [okP, he]
         simp only [hlen, nx_zero, nx_one] at *
         grind
       rw [this])
    | (have b1 : (decide (t = []) || decide (t = [42]) || small t) = true := by grind
       have b2 : ss.length ≤ 64 := by simp only [hlen] at *; grind
       have b3 : ¬ (t = [] ∧ ss.length = 0) := by simp only [hlen] at *; grind
       refine iLoop_of (α := Nat) (fun k => k ≤ ss.length ∧ (ss.take k).all (okS d has) = true) (fun k => [int k]) (fun _ => [.blk ⟨49, [.str t, .sl 9 (encSs ss)], true⟩, .blk ⟨98, [int d, bool has], true⟩]) (fun k => ss.length - k) 0 (by simp) (Wk.refl _ _ _ (by simp)) ?_
       rintro k ⟨hk, hI⟩
       refine w_fad rfl ?_
       refine w_load rfl rfl rfl ?_
       refine a_len (n := ss.length) rfl hlen fun _ => ?_
       refine a_lss rfl rfl ?_
       rcases Nat.lt_or_ge k ss.length with q | q
       · obtain ⟨s, hx⟩ : ∃ s, ss[k]? = some s := ⟨ss[k], List.getElem?_eq_getElem q⟩
         have hin : inI ((k : Int) + 1) := by unfold inI; omega
         have nxt : (ss.take (k + 1)).all (okS d has) = okS d has s := by
           rw [List.take_add_one, hx, List.all_append, hI]; simp
         have bad : okS d has s = false → okP d has (.mk t ss) = false := by
           intro hb
           rw [okP, okSs_all]
           have : ss.all (okS d has) = false := by
             rw [List.all_eq_false]
             exact ⟨s, List.mem_of_getElem? hx, by simp [hb]⟩
           rw [this]; simp
         have hzs : zS s ≤ n := by have := zSs_mem (List.mem_of_getElem? hx); omega
         refine a_cond1 rfl (by simpa using q) ?_
         refine w_fad rfl ?_
         refine w_load rfl rfl rfl ?_
         refine a_idx rfl (encSs_map ss) rfl hx ?_
         refine a_loadAI rfl (by simp [encS_eq]) ?_
         refine w_loadA rfl rfl (Nat.le_refl _) ?_
         refine w_callQ rfl (by kernel_rfl) (hS s hzs d has hd) ?_
         repeat' (first | (with_reducible apply w_let) | (with_reducible apply w_and) | ((with_reducible first | apply a_lss | apply a_leq | apply a_gtr | apply a_geq | apply a_eql | apply a_neq); rfl; rfl) | ((with_reducible first | apply a_eqlS | apply a_neqS | apply a_eqlB | apply a_neqB); rfl; rfl) | ((with_reducible apply w_add); rfl; rfl; first | assumption | (unfold inI; omega)) | ((with_reducible apply w_sub); rfl; rfl; first | assumption | (unfold inI; omega)) | ((with_reducible apply a_not); rfl) | ((with_reducible apply w_pick_t); rfl) | ((with_reducible apply w_pick_f); rfl) | ((with_reducible apply a_cond1); rfl; first | rfl | assumption) | ((with_reducible apply a_cond0); rfl; first | rfl | assumption) | ((with_reducible apply a_guard1); rfl; first | rfl | assumption) | ((with_reducible apply a_guard0); rfl; first | rfl | assumption) | ((with_reducible apply w_guard_u); rfl) | ((with_reducible apply a_pick1); rfl; first | rfl | assumption) | ((with_reducible apply a_pick0); rfl; first | rfl | assumption) | ((with_reducible apply a_pickN); rfl) | ((with_reducible apply a_condN); rfl) | ((with_reducible apply a_guardN); rfl) | ((with_reducible apply w_fad); rfl) | ((with_reducible apply a_fadI); rfl) | ((with_reducible apply w_load); rfl; rfl; rfl) | ((with_reducible apply w_loadI); rfl) | ((with_reducible apply w_loadA); rfl; rfl; first | exact Nat.le_refl _ | exact Nat.le_of_ble_eq_true rfl) | ((with_reducible apply a_eqA); rfl; rfl; rfl) | ((with_reducible apply a_loadAI); rfl; first | rfl | simp) | ((with_reducible apply w_new); first | rfl | simp) | ((with_reducible apply a_store); rfl; rfl; rfl; rfl; (first | exact Nat.le_refl _ | simp); (first | rfl | simp); (first | rfl | simp)) | ((with_reducible apply a_lenS); rfl; intro _) | ((with_reducible apply a_len); rfl; (first | rfl | simp); intro _) | ((with_reducible apply a_build); rfl) | ((with_reducible apply a_extr); rfl; rfl) | ((with_reducible apply a_cond); rfl) | ((with_reducible apply a_guard); rfl) | (with_reducible intro _))
         all_goals first
           | exact .pure (by simp) (by rw [bad (by grind)])
           | exact ⟨k + 1, ⟨q, by rw [nxt]; grind⟩, Wk.refl _ _ _ (by simp), by omega⟩
       · have hk : k = ss.length := by omega
         subst hk
         rw [List.take_length] at hI
         refine a_cond0 rfl (by simp) ?_
         refine .pure (by simp) ?_
         rw [okP, okSs_all, hI, b1, he]
         simp only [AV.v.injEq, Value.bool.injEq]
         grind)
theorem con_bareOf (s : Sm) : Con Tryz.prog 112 [.agg (encS s)] (.agg [u1 s.kind, .str s.name, u1 s.op, .str s.value, bool s.fold, int s.a, int s.b, bool s.of]) := by
  obtain ⟨k, na, o, v, f, a, b, w, l⟩ := s
  refine (V112 _).gives (by simp [pureS]) (by simp) ?_
  unfold W112
  rw [encS]
  repeat' (first | (with_reducible apply w_let) | (with_reducible apply w_and) | ((with_reducible first | apply a_lss | apply a_leq | apply a_gtr | apply a_geq | apply a_eql | apply a_neq); rfl; rfl) | ((with_reducible first | apply a_eqlS | apply a_neqS | apply a_eqlB | apply a_neqB); rfl; rfl) | ((with_reducible apply w_add); rfl; rfl; first | assumption | (unfold inI; omega)) | ((with_reducible apply w_sub); rfl; rfl; first | assumption | (unfold inI; omega)) | ((with_reducible apply a_not); rfl) | ((with_reducible apply w_pick_t); rfl) | ((with_reducible apply w_pick_f); rfl) | ((with_reducible apply a_cond1); rfl; first | rfl | assumption) | ((with_reducible apply a_cond0); rfl; first | rfl | assumption) | ((with_reducible apply a_guard1); rfl; first | rfl | assumption) | ((with_reducible apply a_guard0); rfl; first | rfl | assumption) | ((with_reducible apply w_guard_u); rfl) | ((with_reducible apply a_pick1); rfl; first | rfl | assumption) | ((with_reducible apply a_pick0); rfl; first | rfl | assumption) | ((with_reducible apply a_pickN); rfl) | ((with_reducible apply a_condN); rfl) | ((with_reducible apply a_guardN); rfl) | ((with_reducible apply w_fad); rfl) | ((with_reducible apply a_fadI); rfl) | ((with_reducible apply w_load); rfl; rfl; rfl) | ((with_reducible apply w_loadI); rfl) | ((with_reducible apply w_loadA); rfl; rfl; first | exact Nat.le_refl _ | exact Nat.le_of_ble_eq_true rfl) | ((with_reducible apply a_eqA); rfl; rfl; rfl) | ((with_reducible apply a_loadAI); rfl; first | rfl | simp) | ((with_reducible apply w_new); first | rfl | simp) | ((with_reducible apply a_store); rfl; rfl; rfl; rfl; (first | exact Nat.le_refl _ | simp); (first | rfl | simp); (first | rfl | simp)) | ((with_reducible apply a_lenS); rfl; intro _) | ((with_reducible apply a_len); rfl; (first | rfl | simp); intro _) | ((with_reducible apply a_build); rfl) | ((with_reducible apply a_extr); rfl; rfl) | ((with_reducible apply a_cond); rfl) | ((with_reducible apply a_guard); rfl) | (with_reducible intro _))
  exact .pure (by simp) rfl
theorem con_listed {n : Nat} (hn : n < 2 ^ 60) (hX : RkX n) (l : List Cx) (hz : zXs l ≤ n) (d : Nat) (has : Bool) (hd : d ≤ 3) (k : Int) : Con Tryz.prog 115 [.sl 3 (encXs l), .agg [int d, bool has], u1 k] (bool (inOK d has k && okXs (d + 1) (has || decide (k = 14)) (decide (k = 14)) l)) := by
  refine (V115 _ _ _).gives (by simp [pureXs]) (by simp) ?_
  unfold W115
  have hlen : (encXs l).length = l.length := by simp [encXs_map]
  have hxl := zXs_len l
  rw [okXs_all]
  cases hq : inOK d has k
  · repeat' (first | (with_reducible apply w_let) | (with_reducible apply w_and) | ((with_reducible first | apply a_lss | apply a_leq | apply a_gtr | apply a_geq | apply a_eql | apply a_neq); rfl; rfl) | ((with_reducible first | apply a_eqlS | apply a_neqS | apply a_eqlB | apply a_neqB); rfl; rfl) | ((with_reducible apply w_add); rfl; rfl; first | assumption | (unfold inI; omega)) | ((with_reducible apply w_sub); rfl; rfl; first | assumption | (unfold inI; omega)) | ((with_reducible apply a_not); rfl) | ((with_reducible apply w_pick_t); rfl) | ((with_reducible apply w_pick_f); rfl) | ((with_reducible apply a_cond1); rfl; first | rfl | assumption) | ((with_reducible apply a_cond0); rfl; first | rfl | assumption) | ((with_reducible apply a_guard1); rfl; first | rfl | assumption) | ((with_reducible apply a_guard0); rfl; first | rfl | assumption) | ((with_reducible apply w_guard_u); rfl) | ((with_reducible apply a_pick1); rfl; first | rfl | assumption) | ((with_reducible apply a_pick0); rfl; first | rfl | assumption) | ((with_reducible apply a_pickN); rfl) | ((with_reducible apply a_condN); rfl) | ((with_reducible apply a_guardN); rfl) | ((with_reducible apply w_fad); rfl) | ((with_reducible apply a_fadI); rfl) | ((with_reducible apply w_load); rfl; rfl; rfl) | ((with_reducible apply w_loadI); rfl) | ((with_reducible apply w_loadA); rfl; rfl; first | exact Nat.le_refl _ | exact Nat.le_of_ble_eq_true rfl) | ((with_reducible apply a_eqA); rfl; rfl; rfl) | ((with_reducible apply a_loadAI); rfl; first | rfl | simp) | ((with_reducible apply w_new); first | rfl | simp) | ((with_reducible apply a_store); rfl; rfl; rfl; rfl; (first | exact Nat.le_refl _ | simp); (first | rfl | simp); (first | rfl | simp)) | ((with_reducible apply a_lenS); rfl; intro _) | ((with_reducible apply a_len); rfl; (first | rfl | simp); intro _) | ((with_reducible apply a_build); rfl) | ((with_reducible apply a_extr); rfl; rfl) | (refine iCall_con (by kernel_rfl) (con_below0 d has k hd hq) ?_) | ((with_reducible apply a_cond); rfl) | ((with_reducible apply a_guard); rfl) | (with_reducible intro _))
    all_goals exact .pure (by simp) (by simp)
  · have hd' : d + 1 ≤ 3 := by unfold inOK at hq; grind
    repeat' (first | (with_reducible apply w_let) | (with_reducible apply w_and) | ((with_reducible first | apply a_lss | apply a_leq | apply a_gtr | apply a_geq | apply a_eql | apply a_neq); rfl; rfl) | ((with_reducible first | apply a_eqlS | apply a_neqS | apply a_eqlB | apply a_neqB); rfl; rfl) | ((with_reducible apply w_add); rfl; rfl; first | assumption | (unfold inI; omega)) | ((with_reducible apply w_sub); rfl; rfl; first | assumption | (unfold inI; omega)) | ((with_reducible apply a_not); rfl) | ((with_reducible apply w_pick_t); rfl) | ((with_reducible apply w_pick_f); rfl) | ((with_reducible apply a_cond1); rfl; first | rfl | assumption) | ((with_reducible apply a_cond0); rfl; first | rfl | assumption) | ((with_reducible apply a_guard1); rfl; first | rfl | assumption) | ((with_reducible apply a_guard0); rfl; first | rfl | assumption) | ((with_reducible apply w_guard_u); rfl) | ((with_reducible apply a_pick1); rfl; first | rfl | assumption) | ((with_reducible apply a_pick0); rfl; first | rfl | assumption) | ((with_reducible apply a_pickN); rfl) | ((with_reducible apply a_condN); rfl) | ((with_reducible apply a_guardN); rfl) | ((with_reducible apply w_fad); rfl) | ((with_reducible apply a_fadI); rfl) | ((with_reducible apply w_load); rfl; rfl; rfl) | ((with_reducible apply w_loadI); rfl) | ((with_reducible apply w_loadA); rfl; rfl; first | exact Nat.le_refl _ | exact Nat.le_of_ble_eq_true rfl) | ((with_reducible apply a_eqA); rfl; rfl; rfl) | ((with_reducible apply a_loadAI); rfl; first | rfl | simp) | ((with_reducible apply w_new); first | rfl | simp) | ((with_reducible apply a_store); rfl; rfl; rfl; rfl; (first | exact Nat.le_refl _ | simp); (first | rfl | simp); (first | rfl | simp)) | ((with_reducible apply a_lenS); rfl; intro _) | ((with_reducible apply a_len); rfl; (first | rfl | simp); intro _) | ((with_reducible apply a_build); rfl) | ((with_reducible apply a_extr); rfl; rfl) | (refine iCall_con (by kernel_rfl) (con_below1 d has k hd hq) ?_) | ((with_reducible apply a_cond); rfl) | ((with_reducible apply a_guard); rfl) | (with_reducible intro _))
    refine iLoop_of (α := Nat) (fun i => i ≤ l.length ∧ (l.take i).all (okX (d + 1) (has || decide (k = 14)) (decide (k = 14))) = true) (fun i => [int i]) (fun _ => [.blk ⟨98, [int d, bool has], true⟩, .blk ⟨98, [int (d + 1), bool (has || decide (k = 14))], true⟩]) (fun i => l.length - i) 0 (by simp) (Wk.refl _ _ _ (by simp)) ?_
    rintro i ⟨hk, hI⟩
    refine a_len (n := l.length) rfl hlen fun _ => ?_
    refine a_lss rfl rfl ?_
    rcases Nat.lt_or_ge i l.length with q | q
    · obtain ⟨x, hx⟩ : ∃ s, l[i]? = some s := ⟨l[i], List.getElem?_eq_getElem q⟩
      have hin : inI ((i : Int) + 1) := by unfold inI; omega
      have nxt : (l.take (i + 1)).all (okX (d + 1) (has || decide (k = 14)) (decide (k = 14))) = okX (d + 1) (has || decide (k = 14)) (decide (k = 14)) x := by
        rw [List.take_add_one, hx, List.all_append, hI]; simp
      have bad : okX (d + 1) (has || decide (k = 14)) (decide (k = 14)) x = false → l.all (okX (d + 1) (has || decide (k = 14)) (decide (k = 14))) = false := by
        intro hb
        rw [List.all_eq_false]
        exact ⟨x, List.mem_of_getElem? hx, by simp [hb]⟩
      have hzs : zX x ≤ n := by have := zXs_mem (List.mem_of_getElem? hx); omega
      refine a_cond1 rfl (by simpa using q) ?_
      refine a_idx rfl (encXs_map l) rfl hx ?_
      refine a_loadAI rfl (by simp [encX_eq]) ?_
      refine w_loadA rfl rfl (Nat.le_refl _) ?_
      refine a_eql rfl rfl ?_
      refine w_callQ rfl (by kernel_rfl) (hX x hzs (d + 1) (has || decide (k = 14)) (decide (k = 14)) hd') ?_
      repeat' (first | (with_reducible apply w_let) | (with_reducible apply w_and) | ((with_reducible first | apply a_lss | apply a_leq | apply a_gtr | apply a_geq | apply a_eql | apply a_neq); rfl; rfl) | ((with_reducible first | apply a_eqlS | apply a_neqS | apply a_eqlB | apply a_neqB); rfl; rfl) | ((with_reducible apply w_add); rfl; rfl; first | assumption | (unfold inI; omega)) | ((with_reducible apply w_sub); rfl; rfl; first | assumption | (unfold inI; omega)) | ((with_reducible apply a_not); rfl) | ((with_reducible apply w_pick_t); rfl) | ((with_reducible apply w_pick_f); rfl) | ((with_reducible apply a_cond1); rfl; first | rfl | assumption) | ((with_reducible apply a_cond0); rfl; first | rfl | assumption) | ((with_reducible apply a_guard1); rfl; first | rfl | assumption) | ((with_reducible apply a_guard0); rfl; first | rfl | assumption) | ((with_reducible apply w_guard_u); rfl) | ((with_reducible apply a_pick1); rfl; first | rfl | assumption) | ((with_reducible apply a_pick0); rfl; first | rfl | assumption) | ((with_reducible apply a_pickN); rfl) | ((with_reducible apply a_condN); rfl) | ((with_reducible apply a_guardN); rfl) | ((with_reducible apply w_fad); rfl) | ((with_reducible apply a_fadI); rfl) | ((with_reducible apply w_load); rfl; rfl; rfl) | ((with_reducible apply w_loadI); rfl) | ((with_reducible apply w_loadA); rfl; rfl; first | exact Nat.le_refl _ | exact Nat.le_of_ble_eq_true rfl) | ((with_reducible apply a_eqA); rfl; rfl; rfl) | ((with_reducible apply a_loadAI); rfl; first | rfl | simp) | ((with_reducible apply w_new); first | rfl | simp) | ((with_reducible apply a_store); rfl; rfl; rfl; rfl; (first | exact Nat.le_refl _ | simp); (first | rfl | simp); (first | rfl | simp)) | ((with_reducible apply a_lenS); rfl; intro _) | ((with_reducible apply a_len); rfl; (first | rfl | simp); intro _) | ((with_reducible apply a_build); rfl) | ((with_reducible apply a_extr); rfl; rfl) | ((with_reducible apply a_cond); rfl) | ((with_reducible apply a_guard); rfl) | (with_reducible intro _))
      all_goals first
        | exact .pure (by simp) (by rw [bad (by grind)]; rfl)
        | exact ⟨i + 1, ⟨q, by rw [nxt]; grind⟩, Wk.refl _ _ _ (by simp), by omega⟩
    · have hk : i = l.length := by omega
      subst hk
      rw [List.take_length] at hI
      refine a_cond0 rfl (by simp) ?_
      exact .pure (by simp) (by rw [hI]; rfl)
end Go.Proofs.YthblflmjingcfaaGreatDoor
end
