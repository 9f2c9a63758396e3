/-
  Names, texts without a byte 0, small letters, progressions: what the program's checks hand back. Small letters: what the program's Lower hands back; small names. Which lists there may be, where a list is, whether one of some is such: contracts. The program's check of selectors: contracts, by how great they are.
  No conditions.
-/
import Derived.Test.YthblflmjingcfaaGreatDoorWSel
import Derived.Test.YthblflmjingcfaaGreatDoorSel
import Derived.Test.YthblflmjingcfaaGreatDoorD1
import Derived.Test.YthblflmjingcfaaGreatDoorShelfIb
import Derived.Lib.IndexLaws
set_option linter.unusedVariables false
set_option linter.unusedSimpArgs false
section
namespace Go.Proofs.YthblflmjingcfaaGreatDoor
open Go Go.Aw Go.Sel
set_option maxRecDepth 100000
theorem index_noZero (l : Str) : decide (0 ≤ Lib.indexByte l 0) = !noZero l := by
  induction l with
  | nil => rfl
  | cons b l ih =>
    have h1 := Lib.indexByte_ge l 0
    rw [Bool.eq_iff_iff] at ih ⊢
    simp only [Lib.indexByte, noZero, List.all_cons, Bool.not_eq_true', Bool.and_eq_false_iff, decide_eq_true_eq] at ih ⊢
    by_cases e : b = 0
    · subst e; simp
    · have e2 : (b == 0) = false := by simpa using e
      simp only [e2, Bool.false_eq_true, if_false]
      by_cases q : Lib.indexByte l 0 = -1
      · simp [q]
        have : ¬ 0 ≤ Lib.indexByte l 0 := by omega
        simp only [this, false_iff] at ih
        simpa [noZero] using ih
      · simp [q]
        have : 0 ≤ Lib.indexByte l 0 := by omega
        simp only [this, true_iff] at ih
        constructor
        · intro _; simpa [noZero] using ih
        · intro _; omega
variable [Laid]
theorem con_indexByte0 (s : Str) : Con Tryz.prog 94 [.str s, u8 0] (int (Lib.indexByte s 0)) := by
  refine con_below (v := .int .i64 (Lib.indexByte s 0)) (by simp) (by simp) (by simp) (fun w => by simp) ?_
  intro ι S w vs h1 _
  match vs, h1 with
  | [], h1 => simp at h1
  | [v], h1 => simp at h1
  | v :: u :: x :: vs, h1 => simp at h1
  | [v, u], h1 =>
    simp only [RepL_cons, RepL_nil, and_true, Rep_str, Rep_v] at h1
    obtain ⟨⟨rfl, _⟩, rfl⟩ := h1
    refine (Any.strings_IndexByte lays137 ⟨s.toArray⟩ 0 w).mono ?_
    rintro e w' ⟨rfl, rfl⟩
    exact ⟨by simp, Go.RowKit.Below.refl _ _⟩
theorem con_zero (s : Str) (n : Int) : Con Tryz.prog 84 [.str s, int n] (bool (decide (n < s.length) || !noZero s)) := by
  refine (V84 _ _).gives (by simp) (by simp) ?_
  unfold W84
  repeat' (first | (with_reducible apply w_let) | (with_reducible apply w_and) | ((with_reducible first | apply a_lss | apply a_leq | apply a_gtr | apply a_geq | apply a_eql | apply a_neq); rfl; rfl) | ((with_reducible first | apply a_eqlS | apply a_neqS | apply a_eqlB | apply a_neqB); rfl; rfl) | ((with_reducible apply w_add); rfl; rfl; first | assumption | (unfold inI; omega)) | ((with_reducible apply w_sub); rfl; rfl; first | assumption | (unfold inI; omega)) | ((with_reducible apply a_not); rfl) | ((with_reducible apply w_pick_t); rfl) | ((with_reducible apply w_pick_f); rfl) | ((with_reducible apply a_cond1); rfl; first | rfl | assumption) | ((with_reducible apply a_cond0); rfl; first | rfl | assumption) | ((with_reducible apply a_guard1); rfl; first | rfl | assumption) | ((with_reducible apply a_guard0); rfl; first | rfl | assumption) | ((with_reducible apply w_guard_u); rfl) | ((with_reducible apply a_condN); rfl) | ((with_reducible apply a_guardN); rfl) | ((with_reducible apply w_fad); rfl) | ((with_reducible apply a_fadI); rfl) | ((with_reducible apply w_load); rfl; rfl; rfl) | ((with_reducible apply w_loadI); rfl) | ((with_reducible apply w_loadA); rfl; rfl; first | exact Nat.le_refl _ | exact Nat.le_of_ble_eq_true rfl) | ((with_reducible apply a_eqA); rfl; rfl; rfl) | ((with_reducible apply a_loadAI); rfl; first | rfl | simp) | ((with_reducible apply w_new); first | rfl | simp) | ((with_reducible apply a_store); rfl; rfl; rfl; rfl; (first | exact Nat.le_refl _ | simp); (first | rfl | simp); (first | rfl | simp)) | ((with_reducible apply a_lenS); rfl; intro _) | ((with_reducible apply a_len); rfl; (first | rfl | simp); intro _) | ((with_reducible apply a_build); rfl) | ((with_reducible apply a_extr); rfl; rfl) | (refine iCall_con (by kernel_rfl) (con_indexByte0 _) ?_) | ((with_reducible apply a_cond); rfl) | ((with_reducible apply a_guard); rfl) | (with_reducible intro _))
  all_goals refine .pure (by simp) ?_
  all_goals simp only [nx_zero, nx_one, AV.v.injEq, Value.bool.injEq, Value.int.injEq, true_and] at *
  all_goals first
    | grind [index_noZero]
    | (simp_all [index_noZero]; done)
    | (simp_all [index_noZero]; omega)
theorem con_named (s : Str) : Con Tryz.prog 79 [.str s] (bool (named s)) := by
  refine (V79 _).gives (by simp) (by simp) ?_
  unfold W79
  repeat' (first | (with_reducible apply w_let) | (with_reducible apply w_and) | ((with_reducible first | apply a_lss | apply a_leq | apply a_gtr | apply a_geq | apply a_eql | apply a_neq); rfl; rfl) | ((with_reducible first | apply a_eqlS | apply a_neqS | apply a_eqlB | apply a_neqB); rfl; rfl) | ((with_reducible apply w_add); rfl; rfl; first | assumption | (unfold inI; omega)) | ((with_reducible apply w_sub); rfl; rfl; first | assumption | (unfold inI; omega)) | ((with_reducible apply a_not); rfl) | ((with_reducible apply w_pick_t); rfl) | ((with_reducible apply w_pick_f); rfl) | ((with_reducible apply a_cond1); rfl; first | rfl | assumption) | ((with_reducible apply a_cond0); rfl; first | rfl | assumption) | ((with_reducible apply a_guard1); rfl; first | rfl | assumption) | ((with_reducible apply a_guard0); rfl; first | rfl | assumption) | ((with_reducible apply w_guard_u); rfl) | ((with_reducible apply a_condN); rfl) | ((with_reducible apply a_guardN); rfl) | ((with_reducible apply w_fad); rfl) | ((with_reducible apply a_fadI); rfl) | ((with_reducible apply w_load); rfl; rfl; rfl) | ((with_reducible apply w_loadI); rfl) | ((with_reducible apply w_loadA); rfl; rfl; first | exact Nat.le_refl _ | exact Nat.le_of_ble_eq_true rfl) | ((with_reducible apply a_eqA); rfl; rfl; rfl) | ((with_reducible apply a_loadAI); rfl; first | rfl | simp) | ((with_reducible apply w_new); first | rfl | simp) | ((with_reducible apply a_store); rfl; rfl; rfl; rfl; (first | exact Nat.le_refl _ | simp); (first | rfl | simp); (first | rfl | simp)) | ((with_reducible apply a_lenS); rfl; intro _) | ((with_reducible apply a_len); rfl; (first | rfl | simp); intro _) | ((with_reducible apply a_build); rfl) | ((with_reducible apply a_extr); rfl; rfl) | (refine iCall_con (by kernel_rfl) (con_zero _ _) ?_) | ((with_reducible apply a_cond); rfl) | ((with_reducible apply a_guard); rfl) | (with_reducible intro _))
  all_goals refine .pure (by simp) ?_
  all_goals simp only [nx_zero, nx_one, AV.v.injEq, Value.bool.injEq, Value.int.injEq, true_and] at *
  all_goals first
    | grind [named]
    | (simp_all [named]; done)
    | (simp_all [named]; omega)
theorem con_within (n : Int) : Con Tryz.prog 104 [int n] (bool (anbOK n)) := by
  refine (V104 _).gives (by simp) (by simp) ?_
  unfold W104
  repeat' (first | (with_reducible apply w_let) | (with_reducible apply w_and) | ((with_reducible first | apply a_lss | apply a_leq | apply a_gtr | apply a_geq | apply a_eql | apply a_neq); rfl; rfl) | ((with_reducible first | apply a_eqlS | apply a_neqS | apply a_eqlB | apply a_neqB); rfl; rfl) | ((with_reducible apply w_add); rfl; rfl; first | assumption | (unfold inI; omega)) | ((with_reducible apply w_sub); rfl; rfl; first | assumption | (unfold inI; omega)) | ((with_reducible apply a_not); rfl) | ((with_reducible apply w_pick_t); rfl) | ((with_reducible apply w_pick_f); rfl) | ((with_reducible apply a_cond1); rfl; first | rfl | assumption) | ((with_reducible apply a_cond0); rfl; first | rfl | assumption) | ((with_reducible apply a_guard1); rfl; first | rfl | assumption) | ((with_reducible apply a_guard0); rfl; first | rfl | assumption) | ((with_reducible apply w_guard_u); rfl) | ((with_reducible apply a_condN); rfl) | ((with_reducible apply a_guardN); rfl) | ((with_reducible apply w_fad); rfl) | ((with_reducible apply a_fadI); rfl) | ((with_reducible apply w_load); rfl; rfl; rfl) | ((with_reducible apply w_loadI); rfl) | ((with_reducible apply w_loadA); rfl; rfl; first | exact Nat.le_refl _ | exact Nat.le_of_ble_eq_true rfl) | ((with_reducible apply a_eqA); rfl; rfl; rfl) | ((with_reducible apply a_loadAI); rfl; first | rfl | simp) | ((with_reducible apply w_new); first | rfl | simp) | ((with_reducible apply a_store); rfl; rfl; rfl; rfl; (first | exact Nat.le_refl _ | simp); (first | rfl | simp); (first | rfl | simp)) | ((with_reducible apply a_lenS); rfl; intro _) | ((with_reducible apply a_len); rfl; (first | rfl | simp); intro _) | ((with_reducible apply a_build); rfl) | ((with_reducible apply a_extr); rfl; rfl) | ((with_reducible apply a_cond); rfl) | ((with_reducible apply a_guard); rfl) | (with_reducible intro _))
  all_goals refine .pure (by simp) ?_
  all_goals simp only [nx_zero, nx_one, AV.v.injEq, Value.bool.injEq, Value.int.injEq, true_and] at *
  all_goals first
    | grind [anbOK]
    | (simp_all [anbOK]; done)
    | (simp_all [anbOK]; omega)
theorem con_anbCheck (a b : Int) : Con Tryz.prog 71 [.agg [int a, int b]] (int (if anbOK a && anbOK b then 0 else 8)) := by
  refine (V71 _).gives (by simp) (by simp) ?_
  unfold W71
  repeat' (first | (with_reducible apply w_let) | (with_reducible apply w_and) | ((with_reducible first | apply a_lss | apply a_leq | apply a_gtr | apply a_geq | apply a_eql | apply a_neq); rfl; rfl) | ((with_reducible first | apply a_eqlS | apply a_neqS | apply a_eqlB | apply a_neqB); rfl; rfl) | ((with_reducible apply w_add); rfl; rfl; first | assumption | (unfold inI; omega)) | ((with_reducible apply w_sub); rfl; rfl; first | assumption | (unfold inI; omega)) | ((with_reducible apply a_not); rfl) | ((with_reducible apply w_pick_t); rfl) | ((with_reducible apply w_pick_f); rfl) | ((with_reducible apply a_cond1); rfl; first | rfl | assumption) | ((with_reducible apply a_cond0); rfl; first | rfl | assumption) | ((with_reducible apply a_guard1); rfl; first | rfl | assumption) | ((with_reducible apply a_guard0); rfl; first | rfl | assumption) | ((with_reducible apply w_guard_u); rfl) | ((with_reducible apply a_condN); rfl) | ((with_reducible apply a_guardN); rfl) | ((with_reducible apply w_fad); rfl) | ((with_reducible apply a_fadI); rfl) | ((with_reducible apply w_load); rfl; rfl; rfl) | ((with_reducible apply w_loadI); rfl) | ((with_reducible apply w_loadA); rfl; rfl; first | exact Nat.le_refl _ | exact Nat.le_of_ble_eq_true rfl) | ((with_reducible apply a_eqA); rfl; rfl; rfl) | ((with_reducible apply a_loadAI); rfl; first | rfl | simp) | ((with_reducible apply w_new); first | rfl | simp) | ((with_reducible apply a_store); rfl; rfl; rfl; rfl; (first | exact Nat.le_refl _ | simp); (first | rfl | simp); (first | rfl | simp)) | ((with_reducible apply a_lenS); rfl; intro _) | ((with_reducible apply a_len); rfl; (first | rfl | simp); intro _) | ((with_reducible apply a_build); rfl) | ((with_reducible apply a_extr); rfl; rfl) | (refine iCall_con (by kernel_rfl) (con_within _) ?_) | ((with_reducible apply a_cond); rfl) | ((with_reducible apply a_guard); rfl) | (with_reducible intro _))
  all_goals refine .pure (by simp) ?_
  all_goals simp only [nx_zero, nx_one, AV.v.injEq, Value.bool.injEq, Value.int.injEq, true_and] at *
  all_goals first
    | grind []
    | (simp_all []; done)
    | (simp_all []; omega)
end Go.Proofs.YthblflmjingcfaaGreatDoor
end

section
namespace Go.Proofs.YthblflmjingcfaaGreatDoor
open Go Go.Aw Go.Sel
set_option maxRecDepth 100000
theorem low_or (b : UInt8) (h1 : 65 ≤ (b.toNat : Int)) (h2 : (b.toNat : Int) ≤ 90) : ibits .or .u8 (b.toNat : Int) 32 = ((lowB b).toNat : Int) := by
  have : ∀ n : Fin 26, ibits .or .u8 (((65 + n.val : Nat)) : Int) 32 = ((lowB (UInt8.ofNat (65 + n.val))).toNat : Int) := by decide
  have hb : b = UInt8.ofNat (65 + (b.toNat - 65)) := by
    rw [show 65 + (b.toNat - 65) = b.toNat by omega]; simp
  have h := this ⟨b.toNat - 65, by omega⟩
  simp only [show 65 + (b.toNat - 65) = b.toNat by omega] at h
  rw [h]; simp
theorem low_id (b : UInt8) (h : ¬ (65 ≤ (b.toNat : Int) ∧ (b.toNat : Int) ≤ 90)) : lowB b = b := by
  unfold lowB
  rw [if_neg]
  intro ⟨h1, h2⟩
  rw [UInt8.le_iff_toNat_le] at h1 h2
  simp at h1 h2
  omega
def lowCells (s : Str) (k : Nat) : List AV := ((s.take k).map lowB ++ s.drop k).map byteA
theorem lowCells_get {s : Str} {k : Nat} {b : UInt8} (hb : s[k]? = some b) : (lowCells s k)[k]? = some (byteA b) := by
  have hk := (List.getElem?_eq_some_iff.1 hb).1
  unfold lowCells
  rw [List.getElem?_map, List.getElem?_append_right (by simp; omega)]
  simp [Nat.min_eq_left (Nat.le_of_lt hk), hb]
theorem lowCells_next {s : Str} {k : Nat} {b : UInt8} (hb : s[k]? = some b) : (lowCells s k).set k (byteA (lowB b)) = lowCells s (k + 1) := by
  have hk := (List.getElem?_eq_some_iff.1 hb).1
  refine List.ext_getElem? fun j => ?_
  unfold lowCells
  rcases Nat.lt_trichotomy j k with q | q | q
  · rw [List.getElem?_set_ne (by omega), List.getElem?_map, List.getElem?_map, List.getElem?_append_left (by simp; omega), List.getElem?_append_left (by simp; omega)]
    simp [q, Nat.lt_succ_of_lt q]
  · subst q
    rw [List.getElem?_set_self (by simp; omega), List.getElem?_map, List.getElem?_append_left (by simp; omega)]
    simp [hb]
  · rw [List.getElem?_set_ne (by omega), List.getElem?_map, List.getElem?_map, List.getElem?_append_right (by simp; omega), List.getElem?_append_right (by simp; omega)]
    simp [Nat.min_eq_left (Nat.le_of_lt hk), Nat.min_eq_left hk]
    congr 2; omega
theorem lowCells_len (s : Str) (k : Nat) : (lowCells s k).length = s.length := by
  unfold lowCells; simp; omega
variable [Laid]
theorem con_lower (s : Str) : Con Tryz.prog 80 [.str s] (.str (s.map lowB)) := by
  refine (V80 _).gives (by simp) (by simp) ?_
  unfold W80
  rw [iToBytes_s, iLen_o]
  intro hlen
  refine iLoop_of (α := Nat) (fun k => k ≤ s.length) (fun k => [int k]) (fun k => [.blk ⟨5, lowCells s k, true⟩]) (fun k => s.length - k) 0 (by simp) (by simpa [lowCells] using Wk.refl _ _ _ (by simp)) ?_
  intro k hk
  by_cases q : k < s.length
  · obtain ⟨b, hb⟩ : ∃ b, s[k]? = some b := ⟨s[k], List.getElem?_eq_getElem q⟩
    have hc := lowCells_get hb
    refine a_lss rfl rfl ?_
    refine a_cond1 rfl (by simpa using q) ?_
    refine w_let ?_
    have idx : ∀ {K : AV → Prop}, K (.op 0 k) → iIdxP 1 (.own 0 0 s.length 1) (nx [int k] 0) K := fun q2 => by
      rw [nx_zero, iIdxP_o]; exact ⟨rfl, ⟨by omega, by omega⟩, by simpa using q2⟩
    refine idx ?_
    refine w_load rfl rfl hc ?_
    have hin : inI ((k : Int) + 1) := by unfold maxLen at hlen; unfold inI; omega
    refine a_leq rfl rfl ?_
    refine w_let ?_
    refine a_guard rfl (fun h1 => ?_) (fun h1 => ?_)
    · refine a_leq rfl rfl ?_
      refine w_and ?_
      refine w_pick_t rfl ?_
      refine a_cond rfl (fun h2 => ?_) (fun h2 => ?_)
      · refine idx ?_
        refine w_load rfl rfl hc ?_
        rw [show iBin .or (byteA b) (u8 32) = fun K => K (u8 (ibits .or .u8 (b.toNat : Int) 32)) from by funext K; simp [byteA]]
        refine idx ?_
        refine a_store rfl rfl rfl rfl ?_ rfl rfl ?_
        · simp [lowCells_len]; omega
        refine w_and ?_
        refine w_add rfl rfl hin ?_
        refine w_and ?_
        have h1 : 65 ≤ (b.toNat : Int) := by simpa using h1
        have h2 : (b.toNat : Int) ≤ 90 := by simpa using h2
        refine ⟨k + 1, by omega, ?_, by omega⟩
        rw [low_or b h1 h2]
        have := lowCells_next hb
        rw [show setAll (lowCells s k) k (vcells (u8 ((lowB b).toNat : Int))) = lowCells s (k + 1) from this]
        exact Wk.refl _ _ _ (by simp)
      · refine w_and ?_
        refine w_add rfl rfl hin ?_
        refine w_and ?_
        refine ⟨k + 1, by omega, ?_, by omega⟩
        have h2 : ¬ (b.toNat : Int) ≤ 90 := by simpa using h2
        have := lowCells_next hb
        rw [low_id b (by omega), set_same hc] at this
        rw [← this]
        exact Wk.refl _ _ _ (by simp)
    · refine w_and ?_
      refine w_pick_f rfl ?_
      refine w_cond_f rfl ?_
      refine w_and ?_
      refine w_add rfl rfl hin ?_
      refine w_and ?_
      refine ⟨k + 1, by omega, ?_, by omega⟩
      have h1 : ¬ 65 ≤ (b.toNat : Int) := by simpa using h1
      have := lowCells_next hb
      rw [low_id b (by omega), set_same hc] at this
      rw [← this]
      exact Wk.refl _ _ _ (by simp)
  · obtain rfl : k = s.length := by omega
    refine a_lss rfl rfl ?_
    refine a_cond0 rfl (by simp) ?_
    refine a_ofBytes (id := 0) (b := ⟨5, lowCells s s.length, true⟩) (l := s.map lowB) (by simp) rfl (by simp [lowCells]) ?_
    exact .pure (by simp) rfl
theorem con_small (s : Str) : Con Tryz.prog 61 [.str s] (bool (small s)) := by
  refine (V61 _).gives (by simp) (by simp) ?_
  unfold W61
  repeat' (first | (with_reducible apply w_let) | (with_reducible apply w_and) | ((with_reducible first | apply a_lss | apply a_leq | apply a_gtr | apply a_geq | apply a_eql | apply a_neq); rfl; rfl) | ((with_reducible first | apply a_eqlS | apply a_neqS | apply a_eqlB | apply a_neqB); rfl; rfl) | ((with_reducible apply w_add); rfl; rfl; first | assumption | (unfold inI; omega)) | ((with_reducible apply w_sub); rfl; rfl; first | assumption | (unfold inI; omega)) | ((with_reducible apply a_not); rfl) | ((with_reducible apply w_pick_t); rfl) | ((with_reducible apply w_pick_f); rfl) | ((with_reducible apply a_cond1); rfl; first | rfl | assumption) | ((with_reducible apply a_cond0); rfl; first | rfl | assumption) | ((with_reducible apply a_guard1); rfl; first | rfl | assumption) | ((with_reducible apply a_guard0); rfl; first | rfl | assumption) | ((with_reducible apply w_guard_u); rfl) | ((with_reducible apply a_condN); rfl) | ((with_reducible apply a_guardN); rfl) | ((with_reducible apply w_fad); rfl) | ((with_reducible apply a_fadI); rfl) | ((with_reducible apply w_load); rfl; rfl; rfl) | ((with_reducible apply w_loadI); rfl) | ((with_reducible apply w_loadA); rfl; rfl; first | exact Nat.le_refl _ | exact Nat.le_of_ble_eq_true rfl) | ((with_reducible apply a_eqA); rfl; rfl; rfl) | ((with_reducible apply a_loadAI); rfl; first | rfl | simp) | ((with_reducible apply w_new); first | rfl | simp) | ((with_reducible apply a_store); rfl; rfl; rfl; rfl; (first | exact Nat.le_refl _ | simp); (first | rfl | simp); (first | rfl | simp)) | ((with_reducible apply a_lenS); rfl; intro _) | ((with_reducible apply a_len); rfl; (first | rfl | simp); intro _) | ((with_reducible apply a_build); rfl) | ((with_reducible apply a_extr); rfl; rfl) | (refine iCall_con (by kernel_rfl) (con_named _) ?_) | (refine iCall_con (by kernel_rfl) (con_lower _) ?_) | ((with_reducible apply a_cond); rfl) | ((with_reducible apply a_guard); rfl) | (with_reducible intro _))
  all_goals refine .pure (by simp) ?_
  all_goals simp only [nx_zero, nx_one, AV.v.injEq, Value.bool.injEq, Value.int.injEq, true_and] at *
  all_goals first
    | grind [small]
    | (simp_all [small]; done)
    | (simp_all [small]; omega)
end Go.Proofs.YthblflmjingcfaaGreatDoor
end

section
namespace Go.Sel
open Go Go.Aw
/-- The list of such a kind may be empty. -/
def emptyL (k : Int) : Bool := !(isNth k || decide (k = 13) || decide (k = 14))
def inOK (d : Nat) (has : Bool) (k : Int) : Bool := !(decide (d = 3) || has && decide (k = 14))
/-- The first of some, or -1. -/
def firstI {α : Type} (p : α → Bool) : List α → Nat → Int
  | [], _ => -1
  | x :: l, k => if p x then (k : Int) else firstI p l (k + 1)
theorem firstI_any {α : Type} (p : α → Bool) : ∀ (l : List α) (k : Nat), decide (0 ≤ firstI p l k) = l.any p
  | [], k => by simp [firstI]
  | x :: l, k => by
    rw [firstI, List.any_cons, ← firstI_any p l (k + 1)]
    cases p x <;> simp
theorem firstI_drop {α : Type} (p : α → Bool) {l : List α} {k : Nat} {x : α} (h : l[k]? = some x) : firstI p (l.drop k) k = if p x then (k : Int) else firstI p (l.drop (k + 1)) (k + 1) := by
  have hk := (List.getElem?_eq_some_iff.1 h)
  rw [List.drop_eq_getElem_cons hk.1, firstI, hk.2]
end Go.Sel
namespace Go.Proofs.YthblflmjingcfaaGreatDoor
open Go Go.Aw Go.Sel
set_option maxRecDepth 100000
variable [Laid]
theorem con_lists (k : Int) (n : Str) (o : Int) (v : Str) (f : Bool) (a b : Int) (w : Bool) (rows : List (List AV)) (pr : PureR rows) : Con Tryz.prog 81 [.agg [u1 k, .str n, u1 o, .str v, bool f, int a, int b, bool w, .sl 3 rows]] (.tup [bool (hasL k w), bool (emptyL k)]) := by
  refine (V81 _).gives (by simp [pr]) (by simp) ?_
  unfold W81
  repeat' (first | (with_reducible apply w_let) | (with_reducible apply w_and) | ((with_reducible first | apply a_lss | apply a_leq | apply a_gtr | apply a_geq | apply a_eql | apply a_neq); rfl; rfl) | ((with_reducible first | apply a_eqlS | apply a_neqS | apply a_eqlB | apply a_neqB); rfl; rfl) | ((with_reducible apply w_add); rfl; rfl; first | assumption | (unfold inI; omega)) | ((with_reducible apply w_sub); rfl; rfl; first | assumption | (unfold inI; omega)) | ((with_reducible apply a_not); rfl) | ((with_reducible apply w_pick_t); rfl) | ((with_reducible apply w_pick_f); rfl) | ((with_reducible apply a_cond1); rfl; first | rfl | assumption) | ((with_reducible apply a_cond0); rfl; first | rfl | assumption) | ((with_reducible apply a_guard1); rfl; first | rfl | assumption) | ((with_reducible apply a_guard0); rfl; first | rfl | assumption) | ((with_reducible apply w_guard_u); rfl) | ((with_reducible apply a_condN); rfl) | ((with_reducible apply a_guardN); rfl) | ((with_reducible apply w_fad); rfl) | ((with_reducible apply a_fadI); rfl) | ((with_reducible apply w_load); rfl; rfl; rfl) | ((with_reducible apply w_loadI); rfl) | ((with_reducible apply w_loadA); rfl; rfl; first | exact Nat.le_refl _ | exact Nat.le_of_ble_eq_true rfl) | ((with_reducible apply a_eqA); rfl; rfl; rfl) | ((with_reducible apply a_loadAI); rfl; first | rfl | simp) | ((with_reducible apply w_new); first | rfl | simp) | ((with_reducible apply a_store); rfl; rfl; rfl; rfl; (first | exact Nat.le_refl _ | simp); (first | rfl | simp); (first | rfl | simp)) | ((with_reducible apply a_lenS); rfl; intro _) | ((with_reducible apply a_len); rfl; (first | rfl | simp); intro _) | ((with_reducible apply a_build); rfl) | ((with_reducible apply a_extr); rfl; rfl) | ((with_reducible apply a_cond); rfl) | ((with_reducible apply a_guard); rfl) | (with_reducible intro _))
  all_goals refine .pure (by simp) ?_
  all_goals simp_all [hasL, emptyL, isNth]
  all_goals grind
theorem con_in (d : Nat) (has : Bool) (k : Int) (hd : d ≤ 3) : Con Tryz.prog 82 [.agg [int d, bool has], u1 k] (.tup [.agg (if inOK d has k then [int (d + 1), bool (has || decide (k = 14))] else [int 0, ff]), bool (inOK d has k)]) := by
  refine (V82 _ _).gives (by simp) (by split <;> simp) ?_
  unfold W82
  have hin : inI ((d : Int) + 1) := by unfold inI; omega
  repeat' (first | (with_reducible apply w_let) | (with_reducible apply w_and) | ((with_reducible first | apply a_lss | apply a_leq | apply a_gtr | apply a_geq | apply a_eql | apply a_neq); rfl; rfl) | ((with_reducible first | apply a_eqlS | apply a_neqS | apply a_eqlB | apply a_neqB); rfl; rfl) | ((with_reducible apply w_add); rfl; rfl; first | assumption | (unfold inI; omega)) | ((with_reducible apply w_sub); rfl; rfl; first | assumption | (unfold inI; omega)) | ((with_reducible apply a_not); rfl) | ((with_reducible apply w_pick_t); rfl) | ((with_reducible apply w_pick_f); rfl) | ((with_reducible apply a_cond1); rfl; first | rfl | assumption) | ((with_reducible apply a_cond0); rfl; first | rfl | assumption) | ((with_reducible apply a_guard1); rfl; first | rfl | assumption) | ((with_reducible apply a_guard0); rfl; first | rfl | assumption) | ((with_reducible apply w_guard_u); rfl) | ((with_reducible apply a_condN); rfl) | ((with_reducible apply a_guardN); rfl) | ((with_reducible apply w_fad); rfl) | ((with_reducible apply a_fadI); rfl) | ((with_reducible apply w_load); rfl; rfl; rfl) | ((with_reducible apply w_loadI); rfl) | ((with_reducible apply w_loadA); rfl; rfl; first | exact Nat.le_refl _ | exact Nat.le_of_ble_eq_true rfl) | ((with_reducible apply a_eqA); rfl; rfl; rfl) | ((with_reducible apply a_loadAI); rfl; first | rfl | simp) | ((with_reducible apply w_new); first | rfl | simp) | ((with_reducible apply a_store); rfl; rfl; rfl; rfl; (first | exact Nat.le_refl _ | simp); (first | rfl | simp); (first | rfl | simp)) | ((with_reducible apply a_lenS); rfl; intro _) | ((with_reducible apply a_len); rfl; (first | rfl | simp); intro _) | ((with_reducible apply a_build); rfl) | ((with_reducible apply a_extr); rfl; rfl) | ((with_reducible apply a_cond); rfl) | ((with_reducible apply a_guard); rfl) | (with_reducible intro _))
  all_goals refine .pure (by simp) ?_
  all_goals simp_all [inOK, setAll]
  all_goals grind
theorem con_indexX (xs : List Cx) (f : FuncId) (caps : List AV) (p : Cx → Bool) (pc : PureL caps) (hb : hasBody Tryz.prog f = true) (hf : ∀ x ∈ xs, Con Tryz.prog f ([.agg (encX x)] ++ caps) (bool (p x))) :
    Con Tryz.prog 39 [.sl 3 (encXs xs), .fn (.func f) [] caps] (int (firstI p xs 0)) := by
  refine (V39 _ _).gives (by simp [pureXs, pc]) (by simp) ?_
  unfold W39
  refine a_len (n := xs.length) rfl (by simp [encXs_map]) fun hm => ?_
  refine iLoop_of (α := Nat) (fun k => k ≤ xs.length ∧ firstI p xs 0 = firstI p (xs.drop k) k) (fun k => [int k]) (fun _ => []) (fun k => xs.length - k) 0 (by simp) (Wk.refl _ _ _ (by simp)) ?_
  rintro k ⟨hk, hI⟩
  rcases Nat.lt_or_ge k xs.length with q | q
  · obtain ⟨x, hx⟩ : ∃ x, xs[k]? = some x := ⟨xs[k], List.getElem?_eq_getElem q⟩
    have hin : inI ((k : Int) + 1) := by unfold maxLen at hm; unfold inI; omega
    rw [firstI_drop p hx] at hI
    refine a_lss rfl rfl ?_
    refine a_cond1 rfl (by simpa using q) ?_
    refine a_idx rfl (encXs_map xs) rfl hx ?_
    refine a_loadAI rfl (by simp [encX_eq]) ?_
    refine ⟨hb, ?_⟩
    refine (hf x (List.mem_of_getElem? hx)).call ?_
    cases hp : p x
    · refine a_cond0 rfl rfl ?_
      refine w_add rfl rfl hin ?_
      refine w_and ?_
      refine ⟨k + 1, ⟨q, by rw [hI, hp]; rfl⟩, Wk.refl _ _ _ (by simp), by omega⟩
    · refine a_cond1 rfl rfl ?_
      exact .pure (by simp) (by rw [hI, hp]; rfl)
  · refine a_lss rfl rfl ?_
    refine a_cond0 rfl (by simpa using q) ?_
    exact .pure (by simp) (by rw [hI, List.drop_eq_nil_of_le q]; rfl)
theorem con_containsX (xs : List Cx) (f : FuncId) (caps : List AV) (p : Cx → Bool) (pc : PureL caps) (hb : hasBody Tryz.prog f = true) (hf : ∀ x ∈ xs, Con Tryz.prog f ([.agg (encX x)] ++ caps) (bool (p x))) :
    Con Tryz.prog 23 [.sl 3 (encXs xs), .fn (.func f) [] caps] (bool (xs.any p)) := by
  refine (V23 _ _).gives (by simp [pureXs, pc]) (by simp) ?_
  unfold W23
  refine iCall_con (by kernel_rfl) (con_indexX xs f caps p pc hb hf) ?_
  refine a_geq rfl rfl ?_
  rw [firstI_any]
  exact .pure (by simp) rfl
theorem con_indexP (xs : List Cp) (f : FuncId) (caps : List AV) (p : Cp → Bool) (pc : PureL caps) (hb : hasBody Tryz.prog f = true) (hf : ∀ x ∈ xs, Con Tryz.prog f ([.agg (encP x)] ++ caps) (bool (p x))) :
    Con Tryz.prog 60 [.sl 2 (encPs xs), .fn (.func f) [] caps] (int (firstI p xs 0)) := by
  refine (V60 _ _).gives (by simp [purePs, pc]) (by simp) ?_
  unfold W60
  refine a_len (n := xs.length) rfl (by simp [encPs_map]) fun hm => ?_
  refine iLoop_of (α := Nat) (fun k => k ≤ xs.length ∧ firstI p xs 0 = firstI p (xs.drop k) k) (fun k => [int k]) (fun _ => []) (fun k => xs.length - k) 0 (by simp) (Wk.refl _ _ _ (by simp)) ?_
  rintro k ⟨hk, hI⟩
  rcases Nat.lt_or_ge k xs.length with q | q
  · obtain ⟨x, hx⟩ : ∃ x, xs[k]? = some x := ⟨xs[k], List.getElem?_eq_getElem q⟩
    have hin : inI ((k : Int) + 1) := by unfold maxLen at hm; unfold inI; omega
    rw [firstI_drop p hx] at hI
    refine a_lss rfl rfl ?_
    refine a_cond1 rfl (by simpa using q) ?_
    refine a_idx rfl (encPs_map xs) rfl hx ?_
    refine a_loadAI rfl (by simp [encP_eq]) ?_
    refine ⟨hb, ?_⟩
    refine (hf x (List.mem_of_getElem? hx)).call ?_
    cases hp : p x
    · refine a_cond0 rfl rfl ?_
      refine w_add rfl rfl hin ?_
      refine w_and ?_
      refine ⟨k + 1, ⟨q, by rw [hI, hp]; rfl⟩, Wk.refl _ _ _ (by simp), by omega⟩
    · refine a_cond1 rfl rfl ?_
      exact .pure (by simp) (by rw [hI, hp]; rfl)
  · refine a_lss rfl rfl ?_
    refine a_cond0 rfl (by simpa using q) ?_
    exact .pure (by simp) (by rw [hI, List.drop_eq_nil_of_le q]; rfl)
theorem con_containsP (xs : List Cp) (f : FuncId) (caps : List AV) (p : Cp → Bool) (pc : PureL caps) (hb : hasBody Tryz.prog f = true) (hf : ∀ x ∈ xs, Con Tryz.prog f ([.agg (encP x)] ++ caps) (bool (p x))) :
    Con Tryz.prog 40 [.sl 2 (encPs xs), .fn (.func f) [] caps] (bool (xs.any p)) := by
  refine (V40 _ _).gives (by simp [purePs, pc]) (by simp) ?_
  unfold W40
  refine iCall_con (by kernel_rfl) (con_indexP xs f caps p pc hb hf) ?_
  refine a_geq rfl rfl ?_
  rw [firstI_any]
  exact .pure (by simp) rfl
end Go.Proofs.YthblflmjingcfaaGreatDoor
end

section
namespace Go.Sel
open Go Go.Aw
theorem zPs_mem {p : Cp} : ∀ {l : List Cp}, p ∈ l → zP p ≤ zPs l
  | x :: l, h => by
    rcases List.mem_cons.1 h with rfl | h
    · rw [zPs]; omega
    · rw [zPs]; have := zPs_mem h; omega
theorem zSs_mem {p : Sm} : ∀ {l : List Sm}, p ∈ l → zS p ≤ zSs l
  | x :: l, h => by
    rcases List.mem_cons.1 h with rfl | h
    · rw [zSs]; omega
    · rw [zSs]; have := zSs_mem h; omega
theorem zXs_mem {p : Cx} : ∀ {l : List Cx}, p ∈ l → zX p ≤ zXs l
  | x :: l, h => by
    rcases List.mem_cons.1 h with rfl | h
    · rw [zXs]; omega
    · rw [zXs]; have := zXs_mem h; omega
theorem zX_pos (x : Cx) : 0 < zX x := by cases x; rw [zX]; omega
theorem zP_pos (x : Cp) : 0 < zP x := by cases x; rw [zP]; omega
theorem zS_pos (x : Sm) : 0 < zS x := by cases x; rw [zS]; omega
theorem zPs_len : ∀ l : List Cp, l.length ≤ zPs l
  | [] => by simp
  | x :: l => by rw [zPs]; have := zPs_len l; have := zP_pos x; simp; omega
theorem zSs_len : ∀ l : List Sm, l.length ≤ zSs l
  | [] => by simp
  | x :: l => by rw [zSs]; have := zSs_len l; have := zS_pos x; simp; omega
theorem zXs_len : ∀ l : List Cx, l.length ≤ zXs l
  | [] => by simp
  | x :: l => by rw [zXs]; have := zXs_len l; have := zX_pos x; simp; omega
end Go.Sel
namespace Go.Proofs.YthblflmjingcfaaGreatDoor
open Go Go.Aw Go.Sel
set_option maxRecDepth 100000
variable [Laid]
def CkX (n : Nat) : Prop := ∀ x : Cx, zX x ≤ n → ∀ (d : Nat) (has rel : Bool), d ≤ 3 → Con Tryz.prog 25 [.agg (encX x), .agg [int d, bool has], bool rel] (bool (okX d has rel x))
def CkP (n : Nat) : Prop := ∀ p : Cp, zP p ≤ n → ∀ (d : Nat) (has : Bool), d ≤ 3 → Con Tryz.prog 42 [.agg (encP p), .agg [int d, bool has]] (bool (okP d has p))
def CkS (n : Nat) : Prop := ∀ s : Sm, zS s ≤ n → ∀ (d : Nat) (has : Bool), d ≤ 3 → Con Tryz.prog 62 [.agg (encS s), .agg [int d, bool has]] (bool (okS d has s))
theorem con_whole1 {n : Nat} (hP : CkP n) (p : Cp) (hz : zP p ≤ n) (d : Nat) (has : Bool) (hd : d ≤ 3) : Con Tryz.prog 41 [.agg (encP p), .ip [int d, bool has]] (bool (!okP d has p)) := by
  refine (V41 _ _).gives (by simp [pureP]) (by simp) ?_
  unfold W41
  refine w_new (by rw [encP_eq]; rfl) ?_
  refine w_loadA rfl rfl (by simp [encP_eq]) ?_
  refine a_loadAI rfl rfl ?_
  refine w_call (by simp [encP_eq]) (by kernel_rfl) (hP p hz d has hd) ?_
  refine a_not rfl ?_
  exact .pure (by simp) rfl
omit [Laid] in
theorem okX_bad (d : Nat) (has rel : Bool) (l : Int) (ps : List Cp) (cs : List Int) (h : ¬ ((rel == !decide (l = 0)) = true ∧ l ≤ 4 ∧ cs.length + 1 = ps.length ∧ ps.length ≤ 64)) : okX d has rel (.mk l ps cs) = false := by
  rw [okX]; grind
theorem ckX_step {n : Nat} (hn : n < 2 ^ 60) (hP : CkP n) : CkX (n + 1) := by
  rintro ⟨l, ps, cs⟩ hz d has rel hd
  rw [zX] at hz
  refine (V25 _ _ _).gives (by simp [pureX]) (by simp) ?_
  unfold W25
  rw [encX]
  have hc : inI (((cs.map fun c => [u1 c]).length : Int) + 1) := by rw [List.length_map]; unfold inI; omega
  have hlen : (encPs ps).length = ps.length := by simp [encPs_map]
  repeat' (first | (with_reducible apply w_let) | (with_reducible apply w_and) | ((with_reducible first | apply a_lss | apply a_leq | apply a_gtr | apply a_geq | apply a_eql | apply a_neq); rfl; rfl) | ((with_reducible first | apply a_eqlS | apply a_neqS | apply a_eqlB | apply a_neqB); rfl; rfl) | ((with_reducible apply w_add); rfl; rfl; first | assumption | (unfold inI; omega)) | ((with_reducible apply w_sub); rfl; rfl; first | assumption | (unfold inI; omega)) | ((with_reducible apply a_not); rfl) | ((with_reducible apply w_pick_t); rfl) | ((with_reducible apply w_pick_f); rfl) | ((with_reducible apply a_cond1); rfl; first | rfl | assumption) | ((with_reducible apply a_cond0); rfl; first | rfl | assumption) | ((with_reducible apply a_guard1); rfl; first | rfl | assumption) | ((with_reducible apply a_guard0); rfl; first | rfl | assumption) | ((with_reducible apply w_guard_u); rfl) | ((with_reducible apply a_condN); rfl) | ((with_reducible apply a_guardN); rfl) | ((with_reducible apply w_fad); rfl) | ((with_reducible apply a_fadI); rfl) | ((with_reducible apply w_load); rfl; rfl; rfl) | ((with_reducible apply w_loadI); rfl) | ((with_reducible apply w_loadA); rfl; rfl; first | exact Nat.le_refl _ | exact Nat.le_of_ble_eq_true rfl) | ((with_reducible apply a_eqA); rfl; rfl; rfl) | ((with_reducible apply a_loadAI); rfl; first | rfl | simp) | ((with_reducible apply w_new); first | rfl | simp) | ((with_reducible apply a_store); rfl; rfl; rfl; rfl; (first | exact Nat.le_refl _ | simp); (first | rfl | simp); (first | rfl | simp)) | ((with_reducible apply a_lenS); rfl; intro _) | ((with_reducible apply a_len); rfl; (first | rfl | simp); intro _) | ((with_reducible apply a_build); rfl) | ((with_reducible apply a_extr); rfl; rfl) | ((with_reducible apply a_cond); rfl) | ((with_reducible apply a_guard); rfl) | (with_reducible intro _))
  rotate_left
  -- the combinators, one by one
  · rename_i a1 a2 a3 a4 a5 a6 a7 a8
    have b1 : (rel == !decide (l = 0)) = true := by simpa using a1
    have b2 : l ≤ 4 := by simpa using a2
    have b3 : cs.length + 1 = ps.length := by rw [hlen] at a5; simp at a5; omega
    have b4 : ps.length ≤ 64 := by rw [hlen] at a7; simp at a7; omega
    refine iLoop_of (α := Nat) (fun k => k ≤ cs.length ∧ (cs.take k).all (fun c => decide (1 ≤ c ∧ c ≤ 4)) = true) (fun k => [int k]) (fun _ => [.blk ⟨42, [u1 l, .sl 2 (encPs ps), .sl 1 (cs.map fun c => [u1 c])], true⟩, .blk ⟨69, [int d, bool has], true⟩]) (fun k => cs.length - k) 0 (by simp) (Wk.refl _ _ _ (by simp)) ?_
    rintro k ⟨hk, hI⟩
    rcases Nat.lt_or_ge k cs.length with q | q
    · obtain ⟨c, hx⟩ : ∃ c, cs[k]? = some c := ⟨cs[k], List.getElem?_eq_getElem q⟩
      have hin : inI ((k : Int) + 1) := by unfold inI; omega
      have nxt : (cs.take (k + 1)).all (fun c => decide (1 ≤ c ∧ c ≤ 4)) = decide (1 ≤ c ∧ c ≤ 4) := by
        rw [List.take_add_one, hx, List.all_append, hI]; simp
      have bad : ¬ (1 ≤ c ∧ c ≤ 4) → okX d has rel (.mk l ps cs) = false := by
        intro hb
        rw [okX]
        have : cs.all (fun c => decide (1 ≤ c ∧ c ≤ 4)) = false := by
          rw [List.all_eq_false]
          exact ⟨c, List.mem_of_getElem? hx, by simpa using hb⟩
        rw [this]; simp
      refine a_lss rfl rfl ?_
      refine a_cond1 rfl (by simpa using q) ?_
      refine a_idx rfl rfl rfl hx ?_
      repeat' (first | (with_reducible apply w_let) | (with_reducible apply w_and) | ((with_reducible first | apply a_lss | apply a_leq | apply a_gtr | apply a_geq | apply a_eql | apply a_neq); rfl; rfl) | ((with_reducible first | apply a_eqlS | apply a_neqS | apply a_eqlB | apply a_neqB); rfl; rfl) | ((with_reducible apply w_add); rfl; rfl; first | assumption | (unfold inI; omega)) | ((with_reducible apply w_sub); rfl; rfl; first | assumption | (unfold inI; omega)) | ((with_reducible apply a_not); rfl) | ((with_reducible apply w_pick_t); rfl) | ((with_reducible apply w_pick_f); rfl) | ((with_reducible apply a_cond1); rfl; first | rfl | assumption) | ((with_reducible apply a_cond0); rfl; first | rfl | assumption) | ((with_reducible apply a_guard1); rfl; first | rfl | assumption) | ((with_reducible apply a_guard0); rfl; first | rfl | assumption) | ((with_reducible apply w_guard_u); rfl) | ((with_reducible apply a_condN); rfl) | ((with_reducible apply a_guardN); rfl) | ((with_reducible apply w_fad); rfl) | ((with_reducible apply a_fadI); rfl) | ((with_reducible apply w_load); rfl; rfl; rfl) | ((with_reducible apply w_loadI); rfl) | ((with_reducible apply w_loadA); rfl; rfl; first | exact Nat.le_refl _ | exact Nat.le_of_ble_eq_true rfl) | ((with_reducible apply a_eqA); rfl; rfl; rfl) | ((with_reducible apply a_loadAI); rfl; first | rfl | simp) | ((with_reducible apply w_new); first | rfl | simp) | ((with_reducible apply a_store); rfl; rfl; rfl; rfl; (first | exact Nat.le_refl _ | simp); (first | rfl | simp); (first | rfl | simp)) | ((with_reducible apply a_lenS); rfl; intro _) | ((with_reducible apply a_len); rfl; (first | rfl | simp); intro _) | ((with_reducible apply a_build); rfl) | ((with_reducible apply a_extr); rfl; rfl) | ((with_reducible apply a_cond); rfl) | ((with_reducible apply a_guard); rfl) | (with_reducible intro _))
      all_goals first
        | exact .pure (by simp) (by rw [bad (by simp_all; try omega)])
        | exact ⟨k + 1, ⟨q, by rw [nxt]; simp_all; try omega⟩, Wk.refl _ _ _ (by simp), by omega⟩
    · have hk : k = cs.length := by omega
      subst hk
      rw [List.take_length] at hI
      refine a_lss rfl rfl ?_
      refine a_cond0 rfl (by simp) ?_
      refine w_fad rfl ?_
      refine w_load rfl rfl rfl ?_
      refine iCall_borrow (by kernel_rfl) (con_containsP ps 41 [.ip [int d, bool has]] (fun p => !okP d has p) (by simp [PureL, Aw.Pure]) (by kernel_rfl) (fun p hp => con_whole1 hP p (by have := zPs_mem hp; omega) d has hd)) (by simp only [List.map_cons, List.map_nil, LeL]; exact ⟨by rw [tl_pure _ _ _ _ (by simp [purePs])]; exact Le.refl _, by simp [tl, tlA, tlL], trivial⟩) (by simp) ?_
      refine a_not rfl ?_
      refine .pure (by simp) ?_
      rw [okX, okPs_all, hI, b1]
      simp [b2, b3, b4, List.any_eq_not_all_not]
  all_goals refine .pure (by simp) ?_
  all_goals rw [okX_bad _ _ _ _ _ _ (by rw [List.length_map, hlen] at *; grind)]
end Go.Proofs.YthblflmjingcfaaGreatDoor
end
