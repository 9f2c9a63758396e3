/-
  Declarations: checked by either way.
  No conditions: contracts.
-/
import Derived.Test.YtlapkmobmgffoaaDoorSrtC
set_option linter.unusedVariables false
set_option linter.unusedSimpArgs false
namespace Go.Proofs.YtlapkmobmgffoaaDoor
open Go Go.Aw Go.Nst
set_option maxRecDepth 1000000
theorem a_idxAc {len n : Nat} {x i c : AV} {cs : List AV} {K : AV → Prop} (ex : x = .agg cs) (ei : i = int n) (hn : n < len) (hc : cs[n]? = some c) (q : K c) : iIdxA false 1 len x i K := by
  subst ex; subst ei
  refine ⟨⟨by omega, by omega⟩, ?_⟩
  have hl := (List.getElem?_eq_some_iff.1 hc).1
  simp only [ldP, Int.toNat_natCast, Nat.mul_one]
  rw [List.drop_eq_getElem_cons hl, (List.getElem?_eq_some_iff.1 hc).2]
  exact q
theorem a_idxQ {len sz id o : Nat} {x i : AV} {K : AV → Prop} {n : Nat} (ex : x = .op id o) (ei : i = int n) (hn : n < len) (q : K (.op id (o + n * sz))) : iIdxQ len sz x i K := by
  subst ex; subst ei
  exact ⟨⟨by omega, by omega⟩, by simpa using q⟩
def numsD (d : Dc) : List Int := [d.layer, d.order, d.w0, d.w1, d.w2]
theorem numsD_all (d : Dc) : (numsD d).all inN = (inN d.layer && inN d.order && inN d.w0 && inN d.w1 && inN d.w2) := by
  simp [numsD, Bool.and_assoc]
theorem okD_nums {d : Dc} {k : Nat} {n : Int} (h : (numsD d)[k]? = some n) (hn : inN n = false) : errD d = 8 := by
  refine errD_bad ?_
  have : (numsD d).all inN = false := by
    rw [← Bool.not_eq_true, List.all_eq_true]
    intro q
    rw [q n (List.mem_of_getElem? h)] at hn; cases hn
  rw [numsD_all] at this
  rw [okD, this]
  simp
set_option maxHeartbeats 8000000 in
theorem con_dCheck (d : Dc) (hz : zVs d.value < 2 ^ 40) (hw : d.whole.length < 2 ^ 40) : Con Tryd.prog 12 [.agg (encD d)] (int (errD d)) := by
  refine (V12 _).gives (by simp [encD_pure]) (by simp) ?_
  unfold W12
  have hI := con_Inherited d.name
  have hV := con_nCheck d.value hz
  have hL := con_Longs d.whole hw
  have hC := con_contains (lgs d.whole) d.name (by have := lgs_len d.whole; omega)
  rw [encD]
  by_cases hk : isPr d.name = true
  · obtain ⟨b, e⟩ := inhV_known hk
    rw [e] at hI
    by_cases hv : checkV d.value = 0
    · have gv : (!decide (checkV d.value = 0)) = false := by simpa using hv
      by_cases hwh : wholeOK d.name d.whole = true
      · have tail : ∀ k n, (numsD d)[k]? = some n → inN n = false → errD d = 8 := fun k n => okD_nums
        by_cases h0 : d.whole = []
        · have g0 : (!decide (d.whole = [])) = false := by simpa using h0
          repeat' (first
            | (with_reducible apply w_let)
            | (with_reducible apply w_and)
            | (with_reducible refine And.intro True.intro ?_)
            | ((with_reducible apply a_lss); rfl; rfl)
            | ((with_reducible apply a_leq); rfl; rfl)
            | ((with_reducible apply a_gtr); rfl; rfl)
            | ((with_reducible apply a_geq); rfl; rfl)
            | ((with_reducible apply a_eql); rfl; rfl)
            | ((with_reducible apply a_neq); rfl; rfl)
            | ((with_reducible apply a_eqlS); rfl; rfl)
            | ((with_reducible apply a_neqS); rfl; rfl)
            | ((with_reducible apply a_eqlB); rfl; rfl)
            | ((with_reducible apply a_neqB); rfl; rfl)
            | ((with_reducible apply w_add); rfl; rfl; first | assumption | (unfold inI; omega))
            | ((with_reducible apply w_sub); rfl; rfl; first | assumption | (unfold inI; omega))
            | ((with_reducible apply a_not); rfl)
            | ((with_reducible apply w_pick_t); rfl)
            | ((with_reducible apply w_pick_f); rfl)
            | ((with_reducible apply a_cond1); rfl; first | rfl | assumption)
            | ((with_reducible apply a_cond0); rfl; first | rfl | assumption)
            | ((with_reducible apply a_guard1); rfl; first | rfl | assumption)
            | ((with_reducible apply a_guard0); rfl; first | rfl | assumption)
            | ((with_reducible apply w_guard_u); rfl)
            | ((with_reducible apply a_pick1); rfl; first | rfl | assumption)
            | ((with_reducible apply a_pick0); rfl; first | rfl | assumption)
            | ((with_reducible apply a_pickN); rfl)
            | ((with_reducible apply a_condN); rfl)
            | ((with_reducible apply a_guardN); rfl)
            | ((with_reducible apply w_fad); rfl)
            | ((with_reducible apply a_fadI); rfl)
            | ((with_reducible apply w_load); rfl; rfl; rfl)
            | ((with_reducible apply w_loadI); rfl)
            | ((with_reducible apply w_loadA); rfl; rfl; first | exact Nat.le_refl _ | exact Nat.le_of_ble_eq_true rfl)
            | ((with_reducible apply a_eqA); rfl; rfl; rfl)
            | ((with_reducible apply a_loadAI); rfl; first | rfl | simp)
            | ((with_reducible apply w_new); first | rfl | simp)
            | ((with_reducible apply a_store); rfl; rfl; rfl; rfl; (first | exact Nat.le_refl _ | simp); (first | rfl | simp); (first | rfl | simp))
            | ((with_reducible apply a_lenS); rfl; intro _)
            | ((with_reducible apply a_len); rfl; (first | rfl | simp); intro _)
            | ((with_reducible apply a_build); rfl)
            | ((with_reducible apply a_extr); rfl; rfl)
            | (refine iCall_con (by kernel_rfl) (hI) ?_)
            | (refine iCall_con (by kernel_rfl) (hV) ?_)
            | (refine a_idxQ (n := 0) rfl rfl (by omega) ?_)
            | (refine a_idxQ (n := 1) rfl rfl (by omega) ?_)
            | (refine a_idxQ (n := 2) rfl rfl (by omega) ?_)
            | ((with_reducible apply a_cond); rfl)
            | ((with_reducible apply a_guard); rfl)
            | (with_reducible intro _))
          refine iLoop_of (α := Nat) (fun k => k ≤ 5 ∧ ∀ i n, i < k → (numsD d)[i]? = some n → inN n = true) (fun k => [int k]) (fun _ => [.blk ⟨28, [.str d.name, .sl 6 (encVs d.value), .str d.whole, bool d.imp, u1 d.origin, bool d.att, int d.layer, int d.w0, int d.w1, int d.w2, int d.order], true⟩]) (fun k => 5 - k) 0 ⟨by omega, fun i n h => by omega⟩ (Wk.refl _ _ _ (by simp)) ?_
          rintro k ⟨hk5, hall⟩
          rcases Nat.lt_or_ge k 5 with q | q
          · obtain ⟨m, hm⟩ : ∃ m, (numsD d)[k]? = some m := ⟨(numsD d)[k]'(by simpa [numsD] using q), List.getElem?_eq_getElem _⟩
            have hm2 : ([int d.layer, int d.order, int d.w0, int d.w1, int d.w2] : List AV)[k]? = some (int m) := by
              have : ([int d.layer, int d.order, int d.w0, int d.w1, int d.w2] : List AV) = (numsD d).map fun n => int n := rfl
              rw [this, List.getElem?_map, hm]; rfl
            have q1 : decide ((k : Int) < 5) = true := by simp; omega
            have hin : inI ((k : Int) + 1) := by unfold inI; omega
            repeat' (first
              | (with_reducible apply w_let)
              | (with_reducible apply w_and)
              | (with_reducible refine And.intro True.intro ?_)
              | ((with_reducible apply a_lss); rfl; rfl)
              | ((with_reducible apply a_leq); rfl; rfl)
              | ((with_reducible apply a_gtr); rfl; rfl)
              | ((with_reducible apply a_geq); rfl; rfl)
              | ((with_reducible apply a_eql); rfl; rfl)
              | ((with_reducible apply a_neq); rfl; rfl)
              | ((with_reducible apply a_eqlS); rfl; rfl)
              | ((with_reducible apply a_neqS); rfl; rfl)
              | ((with_reducible apply a_eqlB); rfl; rfl)
              | ((with_reducible apply a_neqB); rfl; rfl)
              | ((with_reducible apply w_add); rfl; rfl; first | assumption | (unfold inI; omega))
              | ((with_reducible apply w_sub); rfl; rfl; first | assumption | (unfold inI; omega))
              | ((with_reducible apply a_not); rfl)
              | ((with_reducible apply w_pick_t); rfl)
              | ((with_reducible apply w_pick_f); rfl)
              | ((with_reducible apply a_cond1); rfl; first | rfl | assumption)
              | ((with_reducible apply a_cond0); rfl; first | rfl | assumption)
              | ((with_reducible apply a_guard1); rfl; first | rfl | assumption)
              | ((with_reducible apply a_guard0); rfl; first | rfl | assumption)
              | ((with_reducible apply w_guard_u); rfl)
              | ((with_reducible apply a_pick1); rfl; first | rfl | assumption)
              | ((with_reducible apply a_pick0); rfl; first | rfl | assumption)
              | ((with_reducible apply a_pickN); rfl)
              | ((with_reducible apply a_condN); rfl)
              | ((with_reducible apply a_guardN); rfl)
              | ((with_reducible apply w_fad); rfl)
              | ((with_reducible apply a_fadI); rfl)
              | ((with_reducible apply w_load); rfl; rfl; rfl)
              | ((with_reducible apply w_loadI); rfl)
              | ((with_reducible apply w_loadA); rfl; rfl; first | exact Nat.le_refl _ | exact Nat.le_of_ble_eq_true rfl)
              | ((with_reducible apply a_eqA); rfl; rfl; rfl)
              | ((with_reducible apply a_loadAI); rfl; first | rfl | simp)
              | ((with_reducible apply w_new); first | rfl | simp)
              | ((with_reducible apply a_store); rfl; rfl; rfl; rfl; (first | exact Nat.le_refl _ | simp); (first | rfl | simp); (first | rfl | simp))
              | ((with_reducible apply a_lenS); rfl; intro _)
              | ((with_reducible apply a_len); rfl; (first | rfl | simp); intro _)
              | ((with_reducible apply a_build); rfl)
              | ((with_reducible apply a_extr); rfl; rfl)
              | (refine a_idxAc rfl rfl q hm2 ?_)
              | ((with_reducible apply a_cond); rfl)
              | ((with_reducible apply a_guard); rfl)
              | (with_reducible intro _))
            all_goals first
              | (refine .pure (by simp) ?_; rw [tail k m hm (by unfold inN; grind)]; done)
              | (refine ⟨k + 1, ⟨by omega, fun i n hi hn => ?_⟩, Wk.refl _ _ _ (by simp), by omega⟩
                 rcases Nat.lt_or_ge i k with z | z
                 · exact hall i n z hn
                 · obtain rfl : i = k := by omega
                   rw [hm] at hn; cases hn
                   unfold inN; grind)
          · obtain rfl : k = 5 := by omega
            have n0 := hall 0 _ (by omega) rfl
            have n1 := hall 1 _ (by omega) rfl
            have n2 := hall 2 _ (by omega) rfl
            have n3 := hall 3 _ (by omega) rfl
            have n4 := hall 4 _ (by omega) rfl
            have q1 : decide (((5 : Nat) : Int) < 5) = false := by simp
            have hok : okD d = ((decide (1 ≤ d.origin) && decide (d.origin ≤ 3)) && (!d.att || (decide (d.origin = 3) && decide (d.layer = 0) && (decide (d.w0 = 0) && decide (d.w1 = 0) && decide (d.w2 = 0))))) := by
              rw [okD, hk, hwh, n0, n1, n2, n3, n4]
              simp [hv]
            repeat' (first
              | (with_reducible apply w_let)
              | (with_reducible apply w_and)
              | (with_reducible refine And.intro True.intro ?_)
              | ((with_reducible apply a_lss); rfl; rfl)
              | ((with_reducible apply a_leq); rfl; rfl)
              | ((with_reducible apply a_gtr); rfl; rfl)
              | ((with_reducible apply a_geq); rfl; rfl)
              | ((with_reducible apply a_eql); rfl; rfl)
              | ((with_reducible apply a_neq); rfl; rfl)
              | ((with_reducible apply a_eqlS); rfl; rfl)
              | ((with_reducible apply a_neqS); rfl; rfl)
              | ((with_reducible apply a_eqlB); rfl; rfl)
              | ((with_reducible apply a_neqB); rfl; rfl)
              | ((with_reducible apply w_add); rfl; rfl; first | assumption | (unfold inI; omega))
              | ((with_reducible apply w_sub); rfl; rfl; first | assumption | (unfold inI; omega))
              | ((with_reducible apply a_not); rfl)
              | ((with_reducible apply w_pick_t); rfl)
              | ((with_reducible apply w_pick_f); rfl)
              | ((with_reducible apply a_cond1); rfl; first | rfl | assumption)
              | ((with_reducible apply a_cond0); rfl; first | rfl | assumption)
              | ((with_reducible apply a_guard1); rfl; first | rfl | assumption)
              | ((with_reducible apply a_guard0); rfl; first | rfl | assumption)
              | ((with_reducible apply w_guard_u); rfl)
              | ((with_reducible apply a_pick1); rfl; first | rfl | assumption)
              | ((with_reducible apply a_pick0); rfl; first | rfl | assumption)
              | ((with_reducible apply a_pickN); rfl)
              | ((with_reducible apply a_condN); rfl)
              | ((with_reducible apply a_guardN); rfl)
              | ((with_reducible apply w_fad); rfl)
              | ((with_reducible apply a_fadI); rfl)
              | ((with_reducible apply w_load); rfl; rfl; rfl)
              | ((with_reducible apply w_loadI); rfl)
              | ((with_reducible apply w_loadA); rfl; rfl; first | exact Nat.le_refl _ | exact Nat.le_of_ble_eq_true rfl)
              | ((with_reducible apply a_eqA); rfl; rfl; rfl)
              | ((with_reducible apply a_loadAI); rfl; first | rfl | simp)
              | ((with_reducible apply w_new); first | rfl | simp)
              | ((with_reducible apply a_store); rfl; rfl; rfl; rfl; (first | exact Nat.le_refl _ | simp); (first | rfl | simp); (first | rfl | simp))
              | ((with_reducible apply a_lenS); rfl; intro _)
              | ((with_reducible apply a_len); rfl; (first | rfl | simp); intro _)
              | ((with_reducible apply a_build); rfl)
              | ((with_reducible apply a_extr); rfl; rfl)
              | ((with_reducible apply a_cond); rfl)
              | ((with_reducible apply a_guard); rfl)
              | (with_reducible intro _))
            all_goals
              refine .pure (by simp) ?_
              simp only [AV.v.injEq, Value.int.injEq, true_and, errD, hok]
              grind
        · have g0 : (!decide (d.whole = [])) = true := by simpa using h0
          unfold wholeOK at hwh
          simp only [Bool.or_eq_true, Bool.and_eq_true, decide_eq_true_eq, Bool.not_eq_true', decide_eq_false_iff_not, h0, false_or] at hwh
          have gl : lgs d.whole ≠ [] := fun h => by rw [h] at hwh; simp at hwh
          rw [lgV, if_neg gl] at hL
          have g1 : decide (d.name ∈ lgs d.whole) = true := by simpa using hwh.1
          have g1n : (!decide (d.name ∈ lgs d.whole)) = false := by simpa using hwh.1
          have g2 : decide (d.whole = d.name) = false := by simpa using hwh.2
          have hwh2 : wholeOK d.name d.whole = true := by simp [wholeOK, hwh.1, hwh.2]
          have hwh := hwh2
          repeat' (first
            | (with_reducible apply w_let)
            | (with_reducible apply w_and)
            | (with_reducible refine And.intro True.intro ?_)
            | ((with_reducible apply a_lss); rfl; rfl)
            | ((with_reducible apply a_leq); rfl; rfl)
            | ((with_reducible apply a_gtr); rfl; rfl)
            | ((with_reducible apply a_geq); rfl; rfl)
            | ((with_reducible apply a_eql); rfl; rfl)
            | ((with_reducible apply a_neq); rfl; rfl)
            | ((with_reducible apply a_eqlS); rfl; rfl)
            | ((with_reducible apply a_neqS); rfl; rfl)
            | ((with_reducible apply a_eqlB); rfl; rfl)
            | ((with_reducible apply a_neqB); rfl; rfl)
            | ((with_reducible apply w_add); rfl; rfl; first | assumption | (unfold inI; omega))
            | ((with_reducible apply w_sub); rfl; rfl; first | assumption | (unfold inI; omega))
            | ((with_reducible apply a_not); rfl)
            | ((with_reducible apply w_pick_t); rfl)
            | ((with_reducible apply w_pick_f); rfl)
            | ((with_reducible apply a_cond1); rfl; first | rfl | assumption)
            | ((with_reducible apply a_cond0); rfl; first | rfl | assumption)
            | ((with_reducible apply a_guard1); rfl; first | rfl | assumption)
            | ((with_reducible apply a_guard0); rfl; first | rfl | assumption)
            | ((with_reducible apply w_guard_u); rfl)
            | ((with_reducible apply a_pick1); rfl; first | rfl | assumption)
            | ((with_reducible apply a_pick0); rfl; first | rfl | assumption)
            | ((with_reducible apply a_pickN); rfl)
            | ((with_reducible apply a_condN); rfl)
            | ((with_reducible apply a_guardN); rfl)
            | ((with_reducible apply w_fad); rfl)
            | ((with_reducible apply a_fadI); rfl)
            | ((with_reducible apply w_load); rfl; rfl; rfl)
            | ((with_reducible apply w_loadI); rfl)
            | ((with_reducible apply w_loadA); rfl; rfl; first | exact Nat.le_refl _ | exact Nat.le_of_ble_eq_true rfl)
            | ((with_reducible apply a_eqA); rfl; rfl; rfl)
            | ((with_reducible apply a_loadAI); rfl; first | rfl | simp)
            | ((with_reducible apply w_new); first | rfl | simp)
            | ((with_reducible apply a_store); rfl; rfl; rfl; rfl; (first | exact Nat.le_refl _ | simp); (first | rfl | simp); (first | rfl | simp))
            | ((with_reducible apply a_lenS); rfl; intro _)
            | ((with_reducible apply a_len); rfl; (first | rfl | simp); intro _)
            | ((with_reducible apply a_build); rfl)
            | ((with_reducible apply a_extr); rfl; rfl)
            | (refine iCall_con (by kernel_rfl) (hI) ?_)
            | (refine iCall_con (by kernel_rfl) (hV) ?_)
            | (refine iCall_con (by kernel_rfl) (hL) ?_)
            | (refine iCall_con (by kernel_rfl) (hC) ?_)
            | (refine a_idxQ (n := 0) rfl rfl (by omega) ?_)
            | (refine a_idxQ (n := 1) rfl rfl (by omega) ?_)
            | (refine a_idxQ (n := 2) rfl rfl (by omega) ?_)
            | ((with_reducible apply a_cond); rfl)
            | ((with_reducible apply a_guard); rfl)
            | (with_reducible intro _))
          refine iLoop_of (α := Nat) (fun k => k ≤ 5 ∧ ∀ i n, i < k → (numsD d)[i]? = some n → inN n = true) (fun k => [int k]) (fun _ => [.blk ⟨28, [.str d.name, .sl 6 (encVs d.value), .str d.whole, bool d.imp, u1 d.origin, bool d.att, int d.layer, int d.w0, int d.w1, int d.w2, int d.order], true⟩]) (fun k => 5 - k) 0 ⟨by omega, fun i n h => by omega⟩ (Wk.refl _ _ _ (by simp)) ?_
          rintro k ⟨hk5, hall⟩
          rcases Nat.lt_or_ge k 5 with q | q
          · obtain ⟨m, hm⟩ : ∃ m, (numsD d)[k]? = some m := ⟨(numsD d)[k]'(by simpa [numsD] using q), List.getElem?_eq_getElem _⟩
            have hm2 : ([int d.layer, int d.order, int d.w0, int d.w1, int d.w2] : List AV)[k]? = some (int m) := by
              have : ([int d.layer, int d.order, int d.w0, int d.w1, int d.w2] : List AV) = (numsD d).map fun n => int n := rfl
              rw [this, List.getElem?_map, hm]; rfl
            have q1 : decide ((k : Int) < 5) = true := by simp; omega
            have hin : inI ((k : Int) + 1) := by unfold inI; omega
            repeat' (first
              | (with_reducible apply w_let)
              | (with_reducible apply w_and)
              | (with_reducible refine And.intro True.intro ?_)
              | ((with_reducible apply a_lss); rfl; rfl)
              | ((with_reducible apply a_leq); rfl; rfl)
              | ((with_reducible apply a_gtr); rfl; rfl)
              | ((with_reducible apply a_geq); rfl; rfl)
              | ((with_reducible apply a_eql); rfl; rfl)
              | ((with_reducible apply a_neq); rfl; rfl)
              | ((with_reducible apply a_eqlS); rfl; rfl)
              | ((with_reducible apply a_neqS); rfl; rfl)
              | ((with_reducible apply a_eqlB); rfl; rfl)
              | ((with_reducible apply a_neqB); rfl; rfl)
              | ((with_reducible apply w_add); rfl; rfl; first | assumption | (unfold inI; omega))
              | ((with_reducible apply w_sub); rfl; rfl; first | assumption | (unfold inI; omega))
              | ((with_reducible apply a_not); rfl)
              | ((with_reducible apply w_pick_t); rfl)
              | ((with_reducible apply w_pick_f); rfl)
              | ((with_reducible apply a_cond1); rfl; first | rfl | assumption)
              | ((with_reducible apply a_cond0); rfl; first | rfl | assumption)
              | ((with_reducible apply a_guard1); rfl; first | rfl | assumption)
              | ((with_reducible apply a_guard0); rfl; first | rfl | assumption)
              | ((with_reducible apply w_guard_u); rfl)
              | ((with_reducible apply a_pick1); rfl; first | rfl | assumption)
              | ((with_reducible apply a_pick0); rfl; first | rfl | assumption)
              | ((with_reducible apply a_pickN); rfl)
              | ((with_reducible apply a_condN); rfl)
              | ((with_reducible apply a_guardN); rfl)
              | ((with_reducible apply w_fad); rfl)
              | ((with_reducible apply a_fadI); rfl)
              | ((with_reducible apply w_load); rfl; rfl; rfl)
              | ((with_reducible apply w_loadI); rfl)
              | ((with_reducible apply w_loadA); rfl; rfl; first | exact Nat.le_refl _ | exact Nat.le_of_ble_eq_true rfl)
              | ((with_reducible apply a_eqA); rfl; rfl; rfl)
              | ((with_reducible apply a_loadAI); rfl; first | rfl | simp)
              | ((with_reducible apply w_new); first | rfl | simp)
              | ((with_reducible apply a_store); rfl; rfl; rfl; rfl; (first | exact Nat.le_refl _ | simp); (first | rfl | simp); (first | rfl | simp))
              | ((with_reducible apply a_lenS); rfl; intro _)
              | ((with_reducible apply a_len); rfl; (first | rfl | simp); intro _)
              | ((with_reducible apply a_build); rfl)
              | ((with_reducible apply a_extr); rfl; rfl)
              | (refine a_idxAc rfl rfl q hm2 ?_)
              | ((with_reducible apply a_cond); rfl)
              | ((with_reducible apply a_guard); rfl)
              | (with_reducible intro _))
            all_goals first
              | (refine .pure (by simp) ?_; rw [tail k m hm (by unfold inN; grind)]; done)
              | (refine ⟨k + 1, ⟨by omega, fun i n hi hn => ?_⟩, Wk.refl _ _ _ (by simp), by omega⟩
                 rcases Nat.lt_or_ge i k with z | z
                 · exact hall i n z hn
                 · obtain rfl : i = k := by omega
                   rw [hm] at hn; cases hn
                   unfold inN; grind)
          · obtain rfl : k = 5 := by omega
            have n0 := hall 0 _ (by omega) rfl
            have n1 := hall 1 _ (by omega) rfl
            have n2 := hall 2 _ (by omega) rfl
            have n3 := hall 3 _ (by omega) rfl
            have n4 := hall 4 _ (by omega) rfl
            have q1 : decide (((5 : Nat) : Int) < 5) = false := by simp
            have hok : okD d = ((decide (1 ≤ d.origin) && decide (d.origin ≤ 3)) && (!d.att || (decide (d.origin = 3) && decide (d.layer = 0) && (decide (d.w0 = 0) && decide (d.w1 = 0) && decide (d.w2 = 0))))) := by
              rw [okD, hk, hwh, n0, n1, n2, n3, n4]
              simp [hv]
            repeat' (first
              | (with_reducible apply w_let)
              | (with_reducible apply w_and)
              | (with_reducible refine And.intro True.intro ?_)
              | ((with_reducible apply a_lss); rfl; rfl)
              | ((with_reducible apply a_leq); rfl; rfl)
              | ((with_reducible apply a_gtr); rfl; rfl)
              | ((with_reducible apply a_geq); rfl; rfl)
              | ((with_reducible apply a_eql); rfl; rfl)
              | ((with_reducible apply a_neq); rfl; rfl)
              | ((with_reducible apply a_eqlS); rfl; rfl)
              | ((with_reducible apply a_neqS); rfl; rfl)
              | ((with_reducible apply a_eqlB); rfl; rfl)
              | ((with_reducible apply a_neqB); rfl; rfl)
              | ((with_reducible apply w_add); rfl; rfl; first | assumption | (unfold inI; omega))
              | ((with_reducible apply w_sub); rfl; rfl; first | assumption | (unfold inI; omega))
              | ((with_reducible apply a_not); rfl)
              | ((with_reducible apply w_pick_t); rfl)
              | ((with_reducible apply w_pick_f); rfl)
              | ((with_reducible apply a_cond1); rfl; first | rfl | assumption)
              | ((with_reducible apply a_cond0); rfl; first | rfl | assumption)
              | ((with_reducible apply a_guard1); rfl; first | rfl | assumption)
              | ((with_reducible apply a_guard0); rfl; first | rfl | assumption)
              | ((with_reducible apply w_guard_u); rfl)
              | ((with_reducible apply a_pick1); rfl; first | rfl | assumption)
              | ((with_reducible apply a_pick0); rfl; first | rfl | assumption)
              | ((with_reducible apply a_pickN); rfl)
              | ((with_reducible apply a_condN); rfl)
              | ((with_reducible apply a_guardN); rfl)
              | ((with_reducible apply w_fad); rfl)
              | ((with_reducible apply a_fadI); rfl)
              | ((with_reducible apply w_load); rfl; rfl; rfl)
              | ((with_reducible apply w_loadI); rfl)
              | ((with_reducible apply w_loadA); rfl; rfl; first | exact Nat.le_refl _ | exact Nat.le_of_ble_eq_true rfl)
              | ((with_reducible apply a_eqA); rfl; rfl; rfl)
              | ((with_reducible apply a_loadAI); rfl; first | rfl | simp)
              | ((with_reducible apply w_new); first | rfl | simp)
              | ((with_reducible apply a_store); rfl; rfl; rfl; rfl; (first | exact Nat.le_refl _ | simp); (first | rfl | simp); (first | rfl | simp))
              | ((with_reducible apply a_lenS); rfl; intro _)
              | ((with_reducible apply a_len); rfl; (first | rfl | simp); intro _)
              | ((with_reducible apply a_build); rfl)
              | ((with_reducible apply a_extr); rfl; rfl)
              | ((with_reducible apply a_cond); rfl)
              | ((with_reducible apply a_guard); rfl)
              | (with_reducible intro _))
            all_goals
              refine .pure (by simp) ?_
              simp only [AV.v.injEq, Value.int.injEq, true_and, errD, hok]
              grind
      · have hb : errD d = 8 := errD_bad (by rw [okD]; simp [hwh])
        unfold wholeOK at hwh
        simp only [Bool.or_eq_true, Bool.and_eq_true, decide_eq_true_eq, Bool.not_eq_true', decide_eq_false_iff_not, not_or, not_and, Classical.not_not] at hwh
        obtain ⟨h0, h1⟩ := hwh
        have g0 : (!decide (d.whole = [])) = true := by simpa using h0
        by_cases gl : lgs d.whole = []
        · rw [lgV, if_pos gl] at hL
          repeat' (first
            | (with_reducible apply w_let)
            | (with_reducible apply w_and)
            | (with_reducible refine And.intro True.intro ?_)
            | ((with_reducible apply a_lss); rfl; rfl)
            | ((with_reducible apply a_leq); rfl; rfl)
            | ((with_reducible apply a_gtr); rfl; rfl)
            | ((with_reducible apply a_geq); rfl; rfl)
            | ((with_reducible apply a_eql); rfl; rfl)
            | ((with_reducible apply a_neq); rfl; rfl)
            | ((with_reducible apply a_eqlS); rfl; rfl)
            | ((with_reducible apply a_neqS); rfl; rfl)
            | ((with_reducible apply a_eqlB); rfl; rfl)
            | ((with_reducible apply a_neqB); rfl; rfl)
            | ((with_reducible apply w_add); rfl; rfl; first | assumption | (unfold inI; omega))
            | ((with_reducible apply w_sub); rfl; rfl; first | assumption | (unfold inI; omega))
            | ((with_reducible apply a_not); rfl)
            | ((with_reducible apply w_pick_t); rfl)
            | ((with_reducible apply w_pick_f); rfl)
            | ((with_reducible apply a_cond1); rfl; first | rfl | assumption)
            | ((with_reducible apply a_cond0); rfl; first | rfl | assumption)
            | ((with_reducible apply a_guard1); rfl; first | rfl | assumption)
            | ((with_reducible apply a_guard0); rfl; first | rfl | assumption)
            | ((with_reducible apply w_guard_u); rfl)
            | ((with_reducible apply a_pick1); rfl; first | rfl | assumption)
            | ((with_reducible apply a_pick0); rfl; first | rfl | assumption)
            | ((with_reducible apply a_pickN); rfl)
            | ((with_reducible apply a_condN); rfl)
            | ((with_reducible apply a_guardN); rfl)
            | ((with_reducible apply w_fad); rfl)
            | ((with_reducible apply a_fadI); rfl)
            | ((with_reducible apply w_load); rfl; rfl; rfl)
            | ((with_reducible apply w_loadI); rfl)
            | ((with_reducible apply w_loadA); rfl; rfl; first | exact Nat.le_refl _ | exact Nat.le_of_ble_eq_true rfl)
            | ((with_reducible apply a_eqA); rfl; rfl; rfl)
            | ((with_reducible apply a_loadAI); rfl; first | rfl | simp)
            | ((with_reducible apply w_new); first | rfl | simp)
            | ((with_reducible apply a_store); rfl; rfl; rfl; rfl; (first | exact Nat.le_refl _ | simp); (first | rfl | simp); (first | rfl | simp))
            | ((with_reducible apply a_lenS); rfl; intro _)
            | ((with_reducible apply a_len); rfl; (first | rfl | simp); intro _)
            | ((with_reducible apply a_build); rfl)
            | ((with_reducible apply a_extr); rfl; rfl)
            | (refine iCall_con (by kernel_rfl) (hI) ?_)
            | (refine iCall_con (by kernel_rfl) (hV) ?_)
            | (refine iCall_con (by kernel_rfl) (hL) ?_)
            | ((with_reducible apply a_cond); rfl)
            | ((with_reducible apply a_guard); rfl)
            | (with_reducible intro _))
          exact .pure (by simp) (by rw [hb])
        · rw [lgV, if_neg gl] at hL
          repeat' (first
            | (with_reducible apply w_let)
            | (with_reducible apply w_and)
            | (with_reducible refine And.intro True.intro ?_)
            | ((with_reducible apply a_lss); rfl; rfl)
            | ((with_reducible apply a_leq); rfl; rfl)
            | ((with_reducible apply a_gtr); rfl; rfl)
            | ((with_reducible apply a_geq); rfl; rfl)
            | ((with_reducible apply a_eql); rfl; rfl)
            | ((with_reducible apply a_neq); rfl; rfl)
            | ((with_reducible apply a_eqlS); rfl; rfl)
            | ((with_reducible apply a_neqS); rfl; rfl)
            | ((with_reducible apply a_eqlB); rfl; rfl)
            | ((with_reducible apply a_neqB); rfl; rfl)
            | ((with_reducible apply w_add); rfl; rfl; first | assumption | (unfold inI; omega))
            | ((with_reducible apply w_sub); rfl; rfl; first | assumption | (unfold inI; omega))
            | ((with_reducible apply a_not); rfl)
            | ((with_reducible apply w_pick_t); rfl)
            | ((with_reducible apply w_pick_f); rfl)
            | ((with_reducible apply a_cond1); rfl; first | rfl | assumption)
            | ((with_reducible apply a_cond0); rfl; first | rfl | assumption)
            | ((with_reducible apply a_guard1); rfl; first | rfl | assumption)
            | ((with_reducible apply a_guard0); rfl; first | rfl | assumption)
            | ((with_reducible apply w_guard_u); rfl)
            | ((with_reducible apply a_pick1); rfl; first | rfl | assumption)
            | ((with_reducible apply a_pick0); rfl; first | rfl | assumption)
            | ((with_reducible apply a_pickN); rfl)
            | ((with_reducible apply a_condN); rfl)
            | ((with_reducible apply a_guardN); rfl)
            | ((with_reducible apply w_fad); rfl)
            | ((with_reducible apply a_fadI); rfl)
            | ((with_reducible apply w_load); rfl; rfl; rfl)
            | ((with_reducible apply w_loadI); rfl)
            | ((with_reducible apply w_loadA); rfl; rfl; first | exact Nat.le_refl _ | exact Nat.le_of_ble_eq_true rfl)
            | ((with_reducible apply a_eqA); rfl; rfl; rfl)
            | ((with_reducible apply a_loadAI); rfl; first | rfl | simp)
            | ((with_reducible apply w_new); first | rfl | simp)
            | ((with_reducible apply a_store); rfl; rfl; rfl; rfl; (first | exact Nat.le_refl _ | simp); (first | rfl | simp); (first | rfl | simp))
            | ((with_reducible apply a_lenS); rfl; intro _)
            | ((with_reducible apply a_len); rfl; (first | rfl | simp); intro _)
            | ((with_reducible apply a_build); rfl)
            | ((with_reducible apply a_extr); rfl; rfl)
            | (refine iCall_con (by kernel_rfl) (hI) ?_)
            | (refine iCall_con (by kernel_rfl) (hV) ?_)
            | (refine iCall_con (by kernel_rfl) (hL) ?_)
            | (refine iCall_con (by kernel_rfl) (hC) ?_)
            | ((with_reducible apply a_cond); rfl)
            | ((with_reducible apply a_guard); rfl)
            | (with_reducible intro _))
          all_goals first
            | exact .pure (by simp) (by rw [hb])
            | (exfalso; grind)
    · have gv : (!decide (checkV d.value = 0)) = true := by simpa using hv
      have hb : errD d = 8 := errD_bad (by rw [okD]; simp [hv])
      repeat' (first
        | (with_reducible apply w_let)
        | (with_reducible apply w_and)
        | (with_reducible refine And.intro True.intro ?_)
        | ((with_reducible apply a_lss); rfl; rfl)
        | ((with_reducible apply a_leq); rfl; rfl)
        | ((with_reducible apply a_gtr); rfl; rfl)
        | ((with_reducible apply a_geq); rfl; rfl)
        | ((with_reducible apply a_eql); rfl; rfl)
        | ((with_reducible apply a_neq); rfl; rfl)
        | ((with_reducible apply a_eqlS); rfl; rfl)
        | ((with_reducible apply a_neqS); rfl; rfl)
        | ((with_reducible apply a_eqlB); rfl; rfl)
        | ((with_reducible apply a_neqB); rfl; rfl)
        | ((with_reducible apply w_add); rfl; rfl; first | assumption | (unfold inI; omega))
        | ((with_reducible apply w_sub); rfl; rfl; first | assumption | (unfold inI; omega))
        | ((with_reducible apply a_not); rfl)
        | ((with_reducible apply w_pick_t); rfl)
        | ((with_reducible apply w_pick_f); rfl)
        | ((with_reducible apply a_cond1); rfl; first | rfl | assumption)
        | ((with_reducible apply a_cond0); rfl; first | rfl | assumption)
        | ((with_reducible apply a_guard1); rfl; first | rfl | assumption)
        | ((with_reducible apply a_guard0); rfl; first | rfl | assumption)
        | ((with_reducible apply w_guard_u); rfl)
        | ((with_reducible apply a_pick1); rfl; first | rfl | assumption)
        | ((with_reducible apply a_pick0); rfl; first | rfl | assumption)
        | ((with_reducible apply a_pickN); rfl)
        | ((with_reducible apply a_condN); rfl)
        | ((with_reducible apply a_guardN); rfl)
        | ((with_reducible apply w_fad); rfl)
        | ((with_reducible apply a_fadI); rfl)
        | ((with_reducible apply w_load); rfl; rfl; rfl)
        | ((with_reducible apply w_loadI); rfl)
        | ((with_reducible apply w_loadA); rfl; rfl; first | exact Nat.le_refl _ | exact Nat.le_of_ble_eq_true rfl)
        | ((with_reducible apply a_eqA); rfl; rfl; rfl)
        | ((with_reducible apply a_loadAI); rfl; first | rfl | simp)
        | ((with_reducible apply w_new); first | rfl | simp)
        | ((with_reducible apply a_store); rfl; rfl; rfl; rfl; (first | exact Nat.le_refl _ | simp); (first | rfl | simp); (first | rfl | simp))
        | ((with_reducible apply a_lenS); rfl; intro _)
        | ((with_reducible apply a_len); rfl; (first | rfl | simp); intro _)
        | ((with_reducible apply a_build); rfl)
        | ((with_reducible apply a_extr); rfl; rfl)
        | (refine iCall_con (by kernel_rfl) (hI) ?_)
        | (refine iCall_con (by kernel_rfl) (hV) ?_)
        | ((with_reducible apply a_cond); rfl)
        | ((with_reducible apply a_guard); rfl)
        | (with_reducible intro _))
      exact .pure (by simp) (by rw [hb])
  · have hk : isPr d.name = false := by simpa using hk
    rw [inhV_not hk] at hI
    have hb : errD d = 8 := errD_bad (by rw [okD, hk]; rfl)
    repeat' (first
      | (with_reducible apply w_let)
      | (with_reducible apply w_and)
      | (with_reducible refine And.intro True.intro ?_)
      | ((with_reducible apply a_lss); rfl; rfl)
      | ((with_reducible apply a_leq); rfl; rfl)
      | ((with_reducible apply a_gtr); rfl; rfl)
      | ((with_reducible apply a_geq); rfl; rfl)
      | ((with_reducible apply a_eql); rfl; rfl)
      | ((with_reducible apply a_neq); rfl; rfl)
      | ((with_reducible apply a_eqlS); rfl; rfl)
      | ((with_reducible apply a_neqS); rfl; rfl)
      | ((with_reducible apply a_eqlB); rfl; rfl)
      | ((with_reducible apply a_neqB); rfl; rfl)
      | ((with_reducible apply w_add); rfl; rfl; first | assumption | (unfold inI; omega))
      | ((with_reducible apply w_sub); rfl; rfl; first | assumption | (unfold inI; omega))
      | ((with_reducible apply a_not); rfl)
      | ((with_reducible apply w_pick_t); rfl)
      | ((with_reducible apply w_pick_f); rfl)
      | ((with_reducible apply a_cond1); rfl; first | rfl | assumption)
      | ((with_reducible apply a_cond0); rfl; first | rfl | assumption)
      | ((with_reducible apply a_guard1); rfl; first | rfl | assumption)
      | ((with_reducible apply a_guard0); rfl; first | rfl | assumption)
      | ((with_reducible apply w_guard_u); rfl)
      | ((with_reducible apply a_pick1); rfl; first | rfl | assumption)
      | ((with_reducible apply a_pick0); rfl; first | rfl | assumption)
      | ((with_reducible apply a_pickN); rfl)
      | ((with_reducible apply a_condN); rfl)
      | ((with_reducible apply a_guardN); rfl)
      | ((with_reducible apply w_fad); rfl)
      | ((with_reducible apply a_fadI); rfl)
      | ((with_reducible apply w_load); rfl; rfl; rfl)
      | ((with_reducible apply w_loadI); rfl)
      | ((with_reducible apply w_loadA); rfl; rfl; first | exact Nat.le_refl _ | exact Nat.le_of_ble_eq_true rfl)
      | ((with_reducible apply a_eqA); rfl; rfl; rfl)
      | ((with_reducible apply a_loadAI); rfl; first | rfl | simp)
      | ((with_reducible apply w_new); first | rfl | simp)
      | ((with_reducible apply a_store); rfl; rfl; rfl; rfl; (first | exact Nat.le_refl _ | simp); (first | rfl | simp); (first | rfl | simp))
      | ((with_reducible apply a_lenS); rfl; intro _)
      | ((with_reducible apply a_len); rfl; (first | rfl | simp); intro _)
      | ((with_reducible apply a_build); rfl)
      | ((with_reducible apply a_extr); rfl; rfl)
      | (refine iCall_con (by kernel_rfl) (hI) ?_)
      | ((with_reducible apply a_cond); rfl)
      | ((with_reducible apply a_guard); rfl)
      | (with_reducible intro _))
    exact .pure (by simp) (by rw [hb])
end Go.Proofs.YtlapkmobmgffoaaDoor
