/-
  Declarations: checked by either way. Declarations: the reference's check; ranks. Ranks compared; two declarations: the law. Ranks, by either way: the law.
  No conditions.
-/
import Derived.Test.YtmbpiloibhbmbaaDoorR1
set_option linter.unusedVariables false
set_option linter.unusedSimpArgs false
section
namespace Go.Proofs.YtmbpiloibhbmbaaDoor
open Go Go.Aw Go.Nst
set_option maxRecDepth 1000000
theorem a_idxAc {len n : Nat} {x i c : AV} {cs : List AV} {K : AV → Prop} (ex : x = .agg cs) (ei : i = int n) (hn : n < len) (hc : cs[n]? = some c) (q : K c) : iIdxA false 1 len x i K := by
  subst ex; subst ei
  refine ⟨⟨by omega, by omega⟩, ?_⟩
  have hl := (List.getElem?_eq_some_iff.1 hc).1
  simp only [ldP, Int.toNat_natCast, Nat.mul_one]
  rw [List.drop_eq_getElem_cons hl, (List.getElem?_eq_some_iff.1 hc).2]
  exact q
theorem a_idxQ {len sz id o : Nat} {x i : AV} {K : AV → Prop} {n : Nat} (ex : x = .op id o) (ei : i = int n) (hn : n < len) (q : K (.op id (o + n * sz))) : iIdxQ len sz x i K := by
  subst ex; subst ei
  exact ⟨⟨by omega, by omega⟩, by simpa using q⟩
def numsD (d : Dc) : List Int := [d.layer, d.order, d.w0, d.w1, d.w2]
theorem numsD_all (d : Dc) : (numsD d).all inN = (inN d.layer && inN d.order && inN d.w0 && inN d.w1 && inN d.w2) := by
  simp [numsD, Bool.and_assoc]
theorem okD_nums {d : Dc} {k : Nat} {n : Int} (h : (numsD d)[k]? = some n) (hn : inN n = false) : errD d = 8 := by
  refine errD_bad ?_
  have : (numsD d).all inN = false := by
    rw [← Bool.not_eq_true, List.all_eq_true]
    intro q
    rw [q n (List.mem_of_getElem? h)] at hn; cases hn
  rw [numsD_all] at this
  rw [okD, this]
  simp
set_option maxHeartbeats 8000000 in
theorem con_dCheck (d : Dc) (hz : zVs d.value < 2 ^ 40) (hw : d.whole.length < 2 ^ 40) : Con Tryd.prog 24 [.agg (encD d)] (int (errD d)) := by
  refine (V24 _).gives (by simp [encD_pure]) (by simp) ?_
  unfold W24
  have hI := con_Inherited d.name
  have hV := con_nCheck d.value hz
  have hL := con_Longs d.whole hw
  have hC := con_contains (lgs d.whole) d.name (by have := lgs_len d.whole; omega)
  rw [encD]
  by_cases hk : isPr d.name = true
  · obtain ⟨b, e⟩ := inhV_known hk
    rw [e] at hI
    by_cases hv : checkV d.value = 0
    · have gv : (!decide (checkV d.value = 0)) = false := by simpa using hv
      by_cases hwh : wholeOK d.name d.whole = true
      · have tail : ∀ k n, (numsD d)[k]? = some n → inN n = false → errD d = 8 := fun k n => okD_nums
        by_cases h0 : d.whole = []
        · have g0 : (!decide (d.whole = [])) = false := by simpa using h0
          repeat' (first | (with_reducible first | apply w_let | apply w_and | refine And.intro True.intro ?_) | ((with_reducible first | apply a_lss | apply a_leq | apply a_gtr | apply a_geq | apply a_eql | apply a_neq); rfl; rfl) | ((with_reducible first | apply a_eqlS | apply a_neqS | apply a_eqlB | apply a_neqB); rfl; rfl) | ((with_reducible apply w_add); rfl; rfl; first | assumption | (unfold inI; omega)) | ((with_reducible apply w_sub); rfl; rfl; first | assumption | (unfold inI; omega)) | ((with_reducible apply a_not); rfl) | ((with_reducible apply w_pick_t); rfl) | ((with_reducible apply w_pick_f); rfl) | ((with_reducible apply a_cond1); rfl; first | rfl | assumption) | ((with_reducible apply a_cond0); rfl; first | rfl | assumption) | ((with_reducible apply a_guard1); rfl; first | rfl | assumption) | ((with_reducible apply a_guard0); rfl; first | rfl | assumption) | ((with_reducible apply w_guard_u); rfl) | ((with_reducible apply a_pick1); rfl; first | rfl | assumption) | ((with_reducible apply a_pick0); rfl; first | rfl | assumption) | ((with_reducible apply a_pickN); rfl) | ((with_reducible apply a_condN); rfl) | ((with_reducible apply a_guardN); rfl) | ((with_reducible apply w_fad); rfl) | ((with_reducible apply a_fadI); rfl) | ((with_reducible apply w_load); rfl; rfl; rfl) | ((with_reducible apply w_loadI); rfl) | ((with_reducible apply w_loadA); rfl; rfl; first | exact Nat.le_refl _ | exact Nat.le_of_ble_eq_true rfl) | ((with_reducible apply a_eqA); rfl; rfl; rfl) | ((with_reducible apply a_loadAI); rfl; first | rfl | simp) | ((with_reducible apply w_new); first | rfl | simp) | ((with_reducible apply a_store); rfl; rfl; rfl; rfl; (first | exact Nat.le_refl _ | simp); (first | rfl | simp); (first | rfl | simp)) | ((with_reducible apply a_lenS); rfl; intro _) | ((with_reducible apply a_len); rfl; (first | rfl | simp); intro _) | ((with_reducible apply a_build); rfl) | ((with_reducible apply a_extr); rfl; rfl) | (refine iCall_con (by kernel_rfl) (hI) ?_) | (refine iCall_con (by kernel_rfl) (hV) ?_) | (refine a_idxQ (n := 0) rfl rfl (by omega) ?_) | (refine a_idxQ (n := 1) rfl rfl (by omega) ?_) | (refine a_idxQ (n := 2) rfl rfl (by omega) ?_) | ((with_reducible apply a_cond); rfl) | ((with_reducible apply a_guard); rfl) | (with_reducible intro _))
          refine iLoop_of (α := Nat) (fun k => k ≤ 5 ∧ ∀ i n, i < k → (numsD d)[i]? = some n → inN n = true) (fun k => [int k]) (fun _ => [.blk ⟨43, [.str d.name, .sl 6 (encVs d.value), .str d.whole, bool d.imp, u1 d.origin, bool d.att, int d.layer, int d.w0, int d.w1, int d.w2, int d.order], true⟩]) (fun k => 5 - k) 0 ⟨by omega, fun i n h => by omega⟩ (Wk.refl _ _ _ (by simp)) ?_
          rintro k ⟨hk5, hall⟩
          rcases Nat.lt_or_ge k 5 with q | q
          · obtain ⟨m, hm⟩ : ∃ m, (numsD d)[k]? = some m := ⟨(numsD d)[k]'(by simpa [numsD] using q), List.getElem?_eq_getElem _⟩
            have hm2 : ([int d.layer, int d.order, int d.w0, int d.w1, int d.w2] : List AV)[k]? = some (int m) := by
              have : ([int d.layer, int d.order, int d.w0, int d.w1, int d.w2] : List AV) = (numsD d).map fun n => int n := rfl
              rw [this, List.getElem?_map, hm]; rfl
            have q1 : decide ((k : Int) < 5) = true := by simp; omega
            have hin : inI ((k : Int) + 1) := by unfold inI; omega
            repeat' (first | (with_reducible first | apply w_let | apply w_and | refine And.intro True.intro ?_) | ((with_reducible first | apply a_lss | apply a_leq | apply a_gtr | apply a_geq | apply a_eql | apply a_neq); rfl; rfl) | ((with_reducible first | apply a_eqlS | apply a_neqS | apply a_eqlB | apply a_neqB); rfl; rfl) | ((with_reducible apply w_add); rfl; rfl; first | assumption | (unfold inI; omega)) | ((with_reducible apply w_sub); rfl; rfl; first | assumption | (unfold inI; omega)) | ((with_reducible apply a_not); rfl) | ((with_reducible apply w_pick_t); rfl) | ((with_reducible apply w_pick_f); rfl) | ((with_reducible apply a_cond1); rfl; first | rfl | assumption) | ((with_reducible apply a_cond0); rfl; first | rfl | assumption) | ((with_reducible apply a_guard1); rfl; first | rfl | assumption) | ((with_reducible apply a_guard0); rfl; first | rfl | assumption) | ((with_reducible apply w_guard_u); rfl) | ((with_reducible apply a_pick1); rfl; first | rfl | assumption) | ((with_reducible apply a_pick0); rfl; first | rfl | assumption) | ((with_reducible apply a_pickN); rfl) | ((with_reducible apply a_condN); rfl) | ((with_reducible apply a_guardN); rfl) | ((with_reducible apply w_fad); rfl) | ((with_reducible apply a_fadI); rfl) | ((with_reducible apply w_load); rfl; rfl; rfl) | ((with_reducible apply w_loadI); rfl) | ((with_reducible apply w_loadA); rfl; rfl; first | exact Nat.le_refl _ | exact Nat.le_of_ble_eq_true rfl) | ((with_reducible apply a_eqA); rfl; rfl; rfl) | ((with_reducible apply a_loadAI); rfl; first | rfl | simp) | ((with_reducible apply w_new); first | rfl | simp) | ((with_reducible apply a_store); rfl; rfl; rfl; rfl; (first | exact Nat.le_refl _ | simp); (first | rfl | simp); (first | rfl | simp)) | ((with_reducible apply a_lenS); rfl; intro _) | ((with_reducible apply a_len); rfl; (first | rfl | simp); intro _) | ((with_reducible apply a_build); rfl) | ((with_reducible apply a_extr); rfl; rfl) | (refine a_idxAc rfl rfl q hm2 ?_) | ((with_reducible apply a_cond); rfl) | ((with_reducible apply a_guard); rfl) | (with_reducible intro _))
            all_goals first
              | (refine .pure (by simp) ?_; rw [tail k m hm (by unfold inN; grind)]; done)
              | (refine ⟨k + 1, ⟨by omega, fun i n hi hn => ?_⟩, Wk.refl _ _ _ (by simp), by omega⟩
                 rcases Nat.lt_or_ge i k with z | z
                 · exact hall i n z hn
                 · obtain rfl : i = k := by omega
                   rw [hm] at hn; cases hn
                   unfold inN; grind)
          · obtain rfl : k = 5 := by omega
            have n0 := hall 0 _ (by omega) rfl
            have n1 := hall 1 _ (by omega) rfl
            have n2 := hall 2 _ (by omega) rfl
            have n3 := hall 3 _ (by omega) rfl
            have n4 := hall 4 _ (by omega) rfl
            have q1 : decide (((5 : Nat) : Int) < 5) = false := by simp
            have hok : okD d = ((decide (1 ≤ d.origin) && decide (d.origin ≤ 3)) && (!d.att || (decide (d.origin = 3) && decide (d.layer = 0) && (decide (d.w0 = 0) && decide (d.w1 = 0) && decide (d.w2 = 0))))) := by
              rw [okD, hk, hwh, n0, n1, n2, n3, n4]
              simp [hv]
            repeat' (first | (with_reducible first | apply w_let | apply w_and | refine And.intro True.intro ?_) | ((with_reducible first | apply a_lss | apply a_leq | apply a_gtr | apply a_geq | apply a_eql | apply a_neq); rfl; rfl) | ((with_reducible first | apply a_eqlS | apply a_neqS | apply a_eqlB | apply a_neqB); rfl; rfl) | ((with_reducible apply w_add); rfl; rfl; first | assumption | (unfold inI; omega)) | ((with_reducible apply w_sub); rfl; rfl; first | assumption | (unfold inI; omega)) | ((with_reducible apply a_not); rfl) | ((with_reducible apply w_pick_t); rfl) | ((with_reducible apply w_pick_f); rfl) | ((with_reducible apply a_cond1); rfl; first | rfl | assumption) | ((with_reducible apply a_cond0); rfl; first | rfl | assumption) | ((with_reducible apply a_guard1); rfl; first | rfl | assumption) | ((with_reducible apply a_guard0); rfl; first | rfl | assumption) | ((with_reducible apply w_guard_u); rfl) | ((with_reducible apply a_pick1); rfl; first | rfl | assumption) | ((with_reducible apply a_pick0); rfl; first | rfl | assumption) | ((with_reducible apply a_pickN); rfl) | ((with_reducible apply a_condN); rfl) | ((with_reducible apply a_guardN); rfl) | ((with_reducible apply w_fad); rfl) | ((with_reducible apply a_fadI); rfl) | ((with_reducible apply w_load); rfl; rfl; rfl) | ((with_reducible apply w_loadI); rfl) | ((with_reducible apply w_loadA); rfl; rfl; first | exact Nat.le_refl _ | exact Nat.le_of_ble_eq_true rfl) | ((with_reducible apply a_eqA); rfl; rfl; rfl) | ((with_reducible apply a_loadAI); rfl; first | rfl | simp) | ((with_reducible apply w_new); first | rfl | simp) | ((with_reducible apply a_store); rfl; rfl; rfl; rfl; (first | exact Nat.le_refl _ | simp); (first | rfl | simp); (first | rfl | simp)) | ((with_reducible apply a_lenS); rfl; intro _) | ((with_reducible apply a_len); rfl; (first | rfl | simp); intro _) | ((with_reducible apply a_build); rfl) | ((with_reducible apply a_extr); rfl; rfl) | ((with_reducible apply a_cond); rfl) | ((with_reducible apply a_guard); rfl) | (with_reducible intro _))
            all_goals
              refine .pure (by simp) ?_
              simp only [AV.v.injEq, Value.int.injEq, true_and, errD, hok]
              grind
        · have g0 : (!decide (d.whole = [])) = true := by simpa using h0
          unfold wholeOK at hwh
          simp only [Bool.or_eq_true, Bool.and_eq_true, decide_eq_true_eq, Bool.not_eq_true', decide_eq_false_iff_not, h0, false_or] at hwh
          have gl : lgs d.whole ≠ [] := fun h => by rw [h] at hwh; simp at hwh
          rw [lgV, if_neg gl] at hL
          have g1 : decide (d.name ∈ lgs d.whole) = true := by simpa using hwh.1
          have g1n : (!decide (d.name ∈ lgs d.whole)) = false := by simpa using hwh.1
          have g2 : decide (d.whole = d.name) = false := by simpa using hwh.2
          have hwh2 : wholeOK d.name d.whole = true := by simp [wholeOK, hwh.1, hwh.2]
          have hwh := hwh2
          repeat' (first | (with_reducible first | apply w_let | apply w_and | refine And.intro True.intro ?_) | ((with_reducible first | apply a_lss | apply a_leq | apply a_gtr | apply a_geq | apply a_eql | apply a_neq); rfl; rfl) | ((with_reducible first | apply a_eqlS | apply a_neqS | apply a_eqlB | apply a_neqB); rfl; rfl) | ((with_reducible apply w_add); rfl; rfl; first | assumption | (unfold inI; omega)) | ((with_reducible apply w_sub); rfl; rfl; first | assumption | (unfold inI; omega)) | ((with_reducible apply a_not); rfl) | ((with_reducible apply w_pick_t); rfl) | ((with_reducible apply w_pick_f); rfl) | ((with_reducible apply a_cond1); rfl; first | rfl | assumption) | ((with_reducible apply a_cond0); rfl; first | rfl | assumption) | ((with_reducible apply a_guard1); rfl; first | rfl | assumption) | ((with_reducible apply a_guard0); rfl; first | rfl | assumption) | ((with_reducible apply w_guard_u); rfl) | ((with_reducible apply a_pick1); rfl; first | rfl | assumption) | ((with_reducible apply a_pick0); rfl; first | rfl | assumption) | ((with_reducible apply a_pickN); rfl) | ((with_reducible apply a_condN); rfl) | ((with_reducible apply a_guardN); rfl) | ((with_reducible apply w_fad); rfl) | ((with_reducible apply a_fadI); rfl) | ((with_reducible apply w_load); rfl; rfl; rfl) | ((with_reducible apply w_loadI); rfl) | ((with_reducible apply w_loadA); rfl; rfl; first | exact Nat.le_refl _ | exact Nat.le_of_ble_eq_true rfl) | ((with_reducible apply a_eqA); rfl; rfl; rfl) | ((with_reducible apply a_loadAI); rfl; first | rfl | simp) | ((with_reducible apply w_new); first | rfl | simp) | ((with_reducible apply a_store); rfl; rfl; rfl; rfl; (first | exact Nat.le_refl _ | simp); (first | rfl | simp); (first | rfl | simp)) | ((with_reducible apply a_lenS); rfl; intro _) | ((with_reducible apply a_len); rfl; (first | rfl | simp); intro _) | ((with_reducible apply a_build); rfl) | ((with_reducible apply a_extr); rfl; rfl) | (refine iCall_con (by kernel_rfl) (hI) ?_) | (refine iCall_con (by kernel_rfl) (hV) ?_) | (refine iCall_con (by kernel_rfl) (hL) ?_) | (refine iCall_con (by kernel_rfl) (hC) ?_) | (refine a_idxQ (n := 0) rfl rfl (by omega) ?_) | (refine a_idxQ (n := 1) rfl rfl (by omega) ?_) | (refine a_idxQ (n := 2) rfl rfl (by omega) ?_) | ((with_reducible apply a_cond); rfl) | ((with_reducible apply a_guard); rfl) | (with_reducible intro _))
          refine iLoop_of (α := Nat) (fun k => k ≤ 5 ∧ ∀ i n, i < k → (numsD d)[i]? = some n → inN n = true) (fun k => [int k]) (fun _ => [.blk ⟨43, [.str d.name, .sl 6 (encVs d.value), .str d.whole, bool d.imp, u1 d.origin, bool d.att, int d.layer, int d.w0, int d.w1, int d.w2, int d.order], true⟩]) (fun k => 5 - k) 0 ⟨by omega, fun i n h => by omega⟩ (Wk.refl _ _ _ (by simp)) ?_
          rintro k ⟨hk5, hall⟩
          rcases Nat.lt_or_ge k 5 with q | q
          · obtain ⟨m, hm⟩ : ∃ m, (numsD d)[k]? = some m := ⟨(numsD d)[k]'(by simpa [numsD] using q), List.getElem?_eq_getElem _⟩
            have hm2 : ([int d.layer, int d.order, int d.w0, int d.w1, int d.w2] : List AV)[k]? = some (int m) := by
              have : ([int d.layer, int d.order, int d.w0, int d.w1, int d.w2] : List AV) = (numsD d).map fun n => int n := rfl
              rw [this, List.getElem?_map, hm]; rfl
            have q1 : decide ((k : Int) < 5) = true := by simp; omega
            have hin : inI ((k : Int) + 1) := by unfold inI; omega
            repeat' (first | (with_reducible first | apply w_let | apply w_and | refine And.intro True.intro ?_) | ((with_reducible first | apply a_lss | apply a_leq | apply a_gtr | apply a_geq | apply a_eql | apply a_neq); rfl; rfl) | ((with_reducible first | apply a_eqlS | apply a_neqS | apply a_eqlB | apply a_neqB); rfl; rfl) | ((with_reducible apply w_add); rfl; rfl; first | assumption | (unfold inI; omega)) | ((with_reducible apply w_sub); rfl; rfl; first | assumption | (unfold inI; omega)) | ((with_reducible apply a_not); rfl) | ((with_reducible apply w_pick_t); rfl) | ((with_reducible apply w_pick_f); rfl) | ((with_reducible apply a_cond1); rfl; first | rfl | assumption) | ((with_reducible apply a_cond0); rfl; first | rfl | assumption) | ((with_reducible apply a_guard1); rfl; first | rfl | assumption) | ((with_reducible apply a_guard0); rfl; first | rfl | assumption) | ((with_reducible apply w_guard_u); rfl) | ((with_reducible apply a_pick1); rfl; first | rfl | assumption) | ((with_reducible apply a_pick0); rfl; first | rfl | assumption) | ((with_reducible apply a_pickN); rfl) | ((with_reducible apply a_condN); rfl) | ((with_reducible apply a_guardN); rfl) | ((with_reducible apply w_fad); rfl) | ((with_reducible apply a_fadI); rfl) | ((with_reducible apply w_load); rfl; rfl; rfl) | ((with_reducible apply w_loadI); rfl) | ((with_reducible apply w_loadA); rfl; rfl; first | exact Nat.le_refl _ | exact Nat.le_of_ble_eq_true rfl) | ((with_reducible apply a_eqA); rfl; rfl; rfl) | ((with_reducible apply a_loadAI); rfl; first | rfl | simp) | ((with_reducible apply w_new); first | rfl | simp) | ((with_reducible apply a_store); rfl; rfl; rfl; rfl; (first | exact Nat.le_refl _ | simp); (first | rfl | simp); (first | rfl | simp)) | ((with_reducible apply a_lenS); rfl; intro _) | ((with_reducible apply a_len); rfl; (first | rfl | simp); intro _) | ((with_reducible apply a_build); rfl) | ((with_reducible apply a_extr); rfl; rfl) | (refine a_idxAc rfl rfl q hm2 ?_) | ((with_reducible apply a_cond); rfl) | ((with_reducible apply a_guard); rfl) | (with_reducible intro _))
            all_goals first
              | (refine .pure (by simp) ?_; rw [tail k m hm (by unfold inN; grind)]; done)
              | (refine ⟨k + 1, ⟨by omega, fun i n hi hn => ?_⟩, Wk.refl _ _ _ (by simp), by omega⟩
                 rcases Nat.lt_or_ge i k with z | z
                 · exact hall i n z hn
                 · obtain rfl : i = k := by omega
                   rw [hm] at hn; cases hn
                   unfold inN; grind)
          · obtain rfl : k = 5 := by omega
            have n0 := hall 0 _ (by omega) rfl
            have n1 := hall 1 _ (by omega) rfl
            have n2 := hall 2 _ (by omega) rfl
            have n3 := hall 3 _ (by omega) rfl
            have n4 := hall 4 _ (by omega) rfl
            have q1 : decide (((5 : Nat) : Int) < 5) = false := by simp
            have hok : okD d = ((decide (1 ≤ d.origin) && decide (d.origin ≤ 3)) && (!d.att || (decide (d.origin = 3) && decide (d.layer = 0) && (decide (d.w0 = 0) && decide (d.w1 = 0) && decide (d.w2 = 0))))) := by
              rw [okD, hk, hwh, n0, n1, n2, n3, n4]
              simp [hv]
            repeat' (first | (with_reducible first | apply w_let | apply w_and | refine And.intro True.intro ?_) | ((with_reducible first | apply a_lss | apply a_leq | apply a_gtr | apply a_geq | apply a_eql | apply a_neq); rfl; rfl) | ((with_reducible first | apply a_eqlS | apply a_neqS | apply a_eqlB | apply a_neqB); rfl; rfl) | ((with_reducible apply w_add); rfl; rfl; first | assumption | (unfold inI; omega)) | ((with_reducible apply w_sub); rfl; rfl; first | assumption | (unfold inI; omega)) | ((with_reducible apply a_not); rfl) | ((with_reducible apply w_pick_t); rfl) | ((with_reducible apply w_pick_f); rfl) | ((with_reducible apply a_cond1); rfl; first | rfl | assumption) | ((with_reducible apply a_cond0); rfl; first | rfl | assumption) | ((with_reducible apply a_guard1); rfl; first | rfl | assumption) | ((with_reducible apply a_guard0); rfl; first | rfl | assumption) | ((with_reducible apply w_guard_u); rfl) | ((with_reducible apply a_pick1); rfl; first | rfl | assumption) | ((with_reducible apply a_pick0); rfl; first | rfl | assumption) | ((with_reducible apply a_pickN); rfl) | ((with_reducible apply a_condN); rfl) | ((with_reducible apply a_guardN); rfl) | ((with_reducible apply w_fad); rfl) | ((with_reducible apply a_fadI); rfl) | ((with_reducible apply w_load); rfl; rfl; rfl) | ((with_reducible apply w_loadI); rfl) | ((with_reducible apply w_loadA); rfl; rfl; first | exact Nat.le_refl _ | exact Nat.le_of_ble_eq_true rfl) | ((with_reducible apply a_eqA); rfl; rfl; rfl) | ((with_reducible apply a_loadAI); rfl; first | rfl | simp) | ((with_reducible apply w_new); first | rfl | simp) | ((with_reducible apply a_store); rfl; rfl; rfl; rfl; (first | exact Nat.le_refl _ | simp); (first | rfl | simp); (first | rfl | simp)) | ((with_reducible apply a_lenS); rfl; intro _) | ((with_reducible apply a_len); rfl; (first | rfl | simp); intro _) | ((with_reducible apply a_build); rfl) | ((with_reducible apply a_extr); rfl; rfl) | ((with_reducible apply a_cond); rfl) | ((with_reducible apply a_guard); rfl) | (with_reducible intro _))
            all_goals
              refine .pure (by simp) ?_
              simp only [AV.v.injEq, Value.int.injEq, true_and, errD, hok]
              grind
      · have hb : errD d = 8 := errD_bad (by rw [okD]; simp [hwh])
        unfold wholeOK at hwh
        simp only [Bool.or_eq_true, Bool.and_eq_true, decide_eq_true_eq, Bool.not_eq_true', decide_eq_false_iff_not, not_or, not_and, Classical.not_not] at hwh
        obtain ⟨h0, h1⟩ := hwh
        have g0 : (!decide (d.whole = [])) = true := by simpa using h0
        by_cases gl : lgs d.whole = []
        · rw [lgV, if_pos gl] at hL
          repeat' (first | (with_reducible first | apply w_let | apply w_and | refine And.intro True.intro ?_) | ((with_reducible first | apply a_lss | apply a_leq | apply a_gtr | apply a_geq | apply a_eql | apply a_neq); rfl; rfl) | ((with_reducible first | apply a_eqlS | apply a_neqS | apply a_eqlB | apply a_neqB); rfl; rfl) | ((with_reducible apply w_add); rfl; rfl; first | assumption | (unfold inI; omega)) | ((with_reducible apply w_sub); rfl; rfl; first | assumption | (unfold inI; omega)) | ((with_reducible apply a_not); rfl) | ((with_reducible apply w_pick_t); rfl) | ((with_reducible apply w_pick_f); rfl) | ((with_reducible apply a_cond1); rfl; first | rfl | assumption) | ((with_reducible apply a_cond0); rfl; first | rfl | assumption) | ((with_reducible apply a_guard1); rfl; first | rfl | assumption) | ((with_reducible apply a_guard0); rfl; first | rfl | assumption) | ((with_reducible apply w_guard_u); rfl) | ((with_reducible apply a_pick1); rfl; first | rfl | assumption) | ((with_reducible apply a_pick0); rfl; first | rfl | assumption) | ((with_reducible apply a_pickN); rfl) | ((with_reducible apply a_condN); rfl) | ((with_reducible apply a_guardN); rfl) | ((with_reducible apply w_fad); rfl) | ((with_reducible apply a_fadI); rfl) | ((with_reducible apply w_load); rfl; rfl; rfl) | ((with_reducible apply w_loadI); rfl) | ((with_reducible apply w_loadA); rfl; rfl; first | exact Nat.le_refl _ | exact Nat.le_of_ble_eq_true rfl) | ((with_reducible apply a_eqA); rfl; rfl; rfl) | ((with_reducible apply a_loadAI); rfl; first | rfl | simp) | ((with_reducible apply w_new); first | rfl | simp) | ((with_reducible apply a_store); rfl; rfl; rfl; rfl; (first | exact Nat.le_refl _ | simp); (first | rfl | simp); (first | rfl | simp)) | ((with_reducible apply a_lenS); rfl; intro _) | ((with_reducible apply a_len); rfl; (first | rfl | simp); intro _) | ((with_reducible apply a_build); rfl) | ((with_reducible apply a_extr); rfl; rfl) | (refine iCall_con (by kernel_rfl) (hI) ?_) | (refine iCall_con (by kernel_rfl) (hV) ?_) | (refine iCall_con (by kernel_rfl) (hL) ?_) | ((with_reducible apply a_cond); rfl) | ((with_reducible apply a_guard); rfl) | (with_reducible intro _))
          exact .pure (by simp) (by rw [hb])
        · rw [lgV, if_neg gl] at hL
          repeat' (first | (with_reducible first | apply w_let | apply w_and | refine And.intro True.intro ?_) | ((with_reducible first | apply a_lss | apply a_leq | apply a_gtr | apply a_geq | apply a_eql | apply a_neq); rfl; rfl) | ((with_reducible first | apply a_eqlS | apply a_neqS | apply a_eqlB | apply a_neqB); rfl; rfl) | ((with_reducible apply w_add); rfl; rfl; first | assumption | (unfold inI; omega)) | ((with_reducible apply w_sub); rfl; rfl; first | assumption | (unfold inI; omega)) | ((with_reducible apply a_not); rfl) | ((with_reducible apply w_pick_t); rfl) | ((with_reducible apply w_pick_f); rfl) | ((with_reducible apply a_cond1); rfl; first | rfl | assumption) | ((with_reducible apply a_cond0); rfl; first | rfl | assumption) | ((with_reducible apply a_guard1); rfl; first | rfl | assumption) | ((with_reducible apply a_guard0); rfl; first | rfl | assumption) | ((with_reducible apply w_guard_u); rfl) | ((with_reducible apply a_pick1); rfl; first | rfl | assumption) | ((with_reducible apply a_pick0); rfl; first | rfl | assumption) | ((with_reducible apply a_pickN); rfl) | ((with_reducible apply a_condN); rfl) | ((with_reducible apply a_guardN); rfl) | ((with_reducible apply w_fad); rfl) | ((with_reducible apply a_fadI); rfl) | ((with_reducible apply w_load); rfl; rfl; rfl) | ((with_reducible apply w_loadI); rfl) | ((with_reducible apply w_loadA); rfl; rfl; first | exact Nat.le_refl _ | exact Nat.le_of_ble_eq_true rfl) | ((with_reducible apply a_eqA); rfl; rfl; rfl) | ((with_reducible apply a_loadAI); rfl; first | rfl | simp) | ((with_reducible apply w_new); first | rfl | simp) | ((with_reducible apply a_store); rfl; rfl; rfl; rfl; (first | exact Nat.le_refl _ | simp); (first | rfl | simp); (first | rfl | simp)) | ((with_reducible apply a_lenS); rfl; intro _) | ((with_reducible apply a_len); rfl; (first | rfl | simp); intro _) | ((with_reducible apply a_build); rfl) | ((with_reducible apply a_extr); rfl; rfl) | (refine iCall_con (by kernel_rfl) (hI) ?_) | (refine iCall_con (by kernel_rfl) (hV) ?_) | (refine iCall_con (by kernel_rfl) (hL) ?_) | (refine iCall_con (by kernel_rfl) (hC) ?_) | ((with_reducible apply a_cond); rfl) | ((with_reducible apply a_guard); rfl) | (with_reducible intro _))
          all_goals first
            | exact .pure (by simp) (by rw [hb])
            | (exfalso; grind)
    · have gv : (!decide (checkV d.value = 0)) = true := by simpa using hv
      have hb : errD d = 8 := errD_bad (by rw [okD]; simp [hv])
      repeat' (first | (with_reducible first | apply w_let | apply w_and | refine And.intro True.intro ?_) | ((with_reducible first | apply a_lss | apply a_leq | apply a_gtr | apply a_geq | apply a_eql | apply a_neq); rfl; rfl) | ((with_reducible first | apply a_eqlS | apply a_neqS | apply a_eqlB | apply a_neqB); rfl; rfl) | ((with_reducible apply w_add); rfl; rfl; first | assumption | (unfold inI; omega)) | ((with_reducible apply w_sub); rfl; rfl; first | assumption | (unfold inI; omega)) | ((with_reducible apply a_not); rfl) | ((with_reducible apply w_pick_t); rfl) | ((with_reducible apply w_pick_f); rfl) | ((with_reducible apply a_cond1); rfl; first | rfl | assumption) | ((with_reducible apply a_cond0); rfl; first | rfl | assumption) | ((with_reducible apply a_guard1); rfl; first | rfl | assumption) | ((with_reducible apply a_guard0); rfl; first | rfl | assumption) | ((with_reducible apply w_guard_u); rfl) | ((with_reducible apply a_pick1); rfl; first | rfl | assumption) | ((with_reducible apply a_pick0); rfl; first | rfl | assumption) | ((with_reducible apply a_pickN); rfl) | ((with_reducible apply a_condN); rfl) | ((with_reducible apply a_guardN); rfl) | ((with_reducible apply w_fad); rfl) | ((with_reducible apply a_fadI); rfl) | ((with_reducible apply w_load); rfl; rfl; rfl) | ((with_reducible apply w_loadI); rfl) | ((with_reducible apply w_loadA); rfl; rfl; first | exact Nat.le_refl _ | exact Nat.le_of_ble_eq_true rfl) | ((with_reducible apply a_eqA); rfl; rfl; rfl) | ((with_reducible apply a_loadAI); rfl; first | rfl | simp) | ((with_reducible apply w_new); first | rfl | simp) | ((with_reducible apply a_store); rfl; rfl; rfl; rfl; (first | exact Nat.le_refl _ | simp); (first | rfl | simp); (first | rfl | simp)) | ((with_reducible apply a_lenS); rfl; intro _) | ((with_reducible apply a_len); rfl; (first | rfl | simp); intro _) | ((with_reducible apply a_build); rfl) | ((with_reducible apply a_extr); rfl; rfl) | (refine iCall_con (by kernel_rfl) (hI) ?_) | (refine iCall_con (by kernel_rfl) (hV) ?_) | ((with_reducible apply a_cond); rfl) | ((with_reducible apply a_guard); rfl) | (with_reducible intro _))
      exact .pure (by simp) (by rw [hb])
  · have hk : isPr d.name = false := by simpa using hk
    rw [inhV_not hk] at hI
    have hb : errD d = 8 := errD_bad (by rw [okD, hk]; rfl)
    repeat' (first | (with_reducible first | apply w_let | apply w_and | refine And.intro True.intro ?_) | ((with_reducible first | apply a_lss | apply a_leq | apply a_gtr | apply a_geq | apply a_eql | apply a_neq); rfl; rfl) | ((with_reducible first | apply a_eqlS | apply a_neqS | apply a_eqlB | apply a_neqB); rfl; rfl) | ((with_reducible apply w_add); rfl; rfl; first | assumption | (unfold inI; omega)) | ((with_reducible apply w_sub); rfl; rfl; first | assumption | (unfold inI; omega)) | ((with_reducible apply a_not); rfl) | ((with_reducible apply w_pick_t); rfl) | ((with_reducible apply w_pick_f); rfl) | ((with_reducible apply a_cond1); rfl; first | rfl | assumption) | ((with_reducible apply a_cond0); rfl; first | rfl | assumption) | ((with_reducible apply a_guard1); rfl; first | rfl | assumption) | ((with_reducible apply a_guard0); rfl; first | rfl | assumption) | ((with_reducible apply w_guard_u); rfl) | ((with_reducible apply a_pick1); rfl; first | rfl | assumption) | ((with_reducible apply a_pick0); rfl; first | rfl | assumption) | ((with_reducible apply a_pickN); rfl) | ((with_reducible apply a_condN); rfl) | ((with_reducible apply a_guardN); rfl) | ((with_reducible apply w_fad); rfl) | ((with_reducible apply a_fadI); rfl) | ((with_reducible apply w_load); rfl; rfl; rfl) | ((with_reducible apply w_loadI); rfl) | ((with_reducible apply w_loadA); rfl; rfl; first | exact Nat.le_refl _ | exact Nat.le_of_ble_eq_true rfl) | ((with_reducible apply a_eqA); rfl; rfl; rfl) | ((with_reducible apply a_loadAI); rfl; first | rfl | simp) | ((with_reducible apply w_new); first | rfl | simp) | ((with_reducible apply a_store); rfl; rfl; rfl; rfl; (first | exact Nat.le_refl _ | simp); (first | rfl | simp); (first | rfl | simp)) | ((with_reducible apply a_lenS); rfl; intro _) | ((with_reducible apply a_len); rfl; (first | rfl | simp); intro _) | ((with_reducible apply a_build); rfl) | ((with_reducible apply a_extr); rfl; rfl) | (refine iCall_con (by kernel_rfl) (hI) ?_) | ((with_reducible apply a_cond); rfl) | ((with_reducible apply a_guard); rfl) | (with_reducible intro _))
    exact .pure (by simp) (by rw [hb])
end Go.Proofs.YtmbpiloibhbmbaaDoor
end

section
namespace Go.Proofs.YtmbpiloibhbmbaaDoor
open Go Go.Aw Go.Nst
set_option maxRecDepth 1000000
set_option maxHeartbeats 8000000 in
theorem con_rdCheck (d : Dc) (hz : zVs d.value < 2 ^ 39) (hw : d.whole.length < 2 ^ 40) : Con Tryd.prog 28 [.agg (encD d)] (int (errD d)) := by
  refine (V28 _).gives (by simp [encD_pure]) (by simp) ?_
  unfold W28
  have hI := con_rInherited d.name
  have hV := con_rnCheck d.value hz
  have hW := con_whole d.name d.value d.whole hw
  rw [encD]
  by_cases hk : isPr d.name = true
  · obtain ⟨b, e⟩ := inhV_known hk
    rw [e] at hI
    by_cases hv : checkV d.value = 0
    · have gv : (!decide (checkV d.value = 0)) = false := by simpa using hv
      cases hwh : wholeOK d.name d.whole with
      | true =>
        rw [hwh] at hW
        have hok : okD d = ((inN d.layer && inN d.order && inN d.w0 && inN d.w1 && inN d.w2) && (decide (1 ≤ d.origin) && decide (d.origin ≤ 3)) && (!d.att || (decide (d.origin = 3) && decide (d.layer = 0) && (decide (d.w0 = 0) && decide (d.w1 = 0) && decide (d.w2 = 0))))) := by
          rw [okD, hk, hwh]; simp [hv]
        repeat' (first | (with_reducible first | apply w_let | apply w_and | refine And.intro True.intro ?_) | ((with_reducible first | apply a_lss | apply a_leq | apply a_gtr | apply a_geq | apply a_eql | apply a_neq); rfl; rfl) | ((with_reducible first | apply a_eqlS | apply a_neqS | apply a_eqlB | apply a_neqB); rfl; rfl) | ((with_reducible apply w_add); rfl; rfl; first | assumption | (unfold inI; omega)) | ((with_reducible apply w_sub); rfl; rfl; first | assumption | (unfold inI; omega)) | ((with_reducible apply a_not); rfl) | ((with_reducible apply w_pick_t); rfl) | ((with_reducible apply w_pick_f); rfl) | ((with_reducible apply a_cond1); rfl; first | rfl | assumption) | ((with_reducible apply a_cond0); rfl; first | rfl | assumption) | ((with_reducible apply a_guard1); rfl; first | rfl | assumption) | ((with_reducible apply a_guard0); rfl; first | rfl | assumption) | ((with_reducible apply w_guard_u); rfl) | ((with_reducible apply a_pick1); rfl; first | rfl | assumption) | ((with_reducible apply a_pick0); rfl; first | rfl | assumption) | ((with_reducible apply a_pickN); rfl) | ((with_reducible apply a_condN); rfl) | ((with_reducible apply a_guardN); rfl) | ((with_reducible apply w_fad); rfl) | ((with_reducible apply a_fadI); rfl) | ((with_reducible apply w_load); rfl; rfl; rfl) | ((with_reducible apply w_loadI); rfl) | ((with_reducible apply w_loadA); rfl; rfl; first | exact Nat.le_refl _ | exact Nat.le_of_ble_eq_true rfl) | ((with_reducible apply a_eqA); rfl; rfl; rfl) | ((with_reducible apply a_loadAI); rfl; first | rfl | simp) | ((with_reducible apply w_new); first | rfl | simp) | ((with_reducible apply a_store); rfl; rfl; rfl; rfl; (first | exact Nat.le_refl _ | simp); (first | rfl | simp); (first | rfl | simp)) | ((with_reducible apply a_lenS); rfl; intro _) | ((with_reducible apply a_len); rfl; (first | rfl | simp); intro _) | ((with_reducible apply a_build); rfl) | ((with_reducible apply a_extr); rfl; rfl) | (refine iCall_con (by kernel_rfl) (hI) ?_) | (refine iCall_con (by kernel_rfl) (hV) ?_) | (refine iCall_con (by kernel_rfl) (hW) ?_) | (refine iCall_con (by kernel_rfl) (con_in d.layer) ?_) | (refine iCall_con (by kernel_rfl) (con_in d.order) ?_) | (refine iCall_con (by kernel_rfl) (con_in d.w0) ?_) | (refine iCall_con (by kernel_rfl) (con_in d.w1) ?_) | (refine iCall_con (by kernel_rfl) (con_in d.w2) ?_) | (refine a_idxQ (n := 0) rfl rfl (by omega) ?_) | (refine a_idxQ (n := 1) rfl rfl (by omega) ?_) | (refine a_idxQ (n := 2) rfl rfl (by omega) ?_) | ((with_reducible apply a_cond); rfl) | ((with_reducible apply a_guard); rfl) | (with_reducible intro _))
        all_goals
          refine .pure (by simp) ?_
          simp only [AV.v.injEq, Value.int.injEq, true_and, errD, hok]
          grind
      | false =>
        rw [hwh] at hW
        have hb : errD d = 8 := errD_bad (by rw [okD, hwh]; simp)
        repeat' (first | (with_reducible first | apply w_let | apply w_and | refine And.intro True.intro ?_) | ((with_reducible first | apply a_lss | apply a_leq | apply a_gtr | apply a_geq | apply a_eql | apply a_neq); rfl; rfl) | ((with_reducible first | apply a_eqlS | apply a_neqS | apply a_eqlB | apply a_neqB); rfl; rfl) | ((with_reducible apply w_add); rfl; rfl; first | assumption | (unfold inI; omega)) | ((with_reducible apply w_sub); rfl; rfl; first | assumption | (unfold inI; omega)) | ((with_reducible apply a_not); rfl) | ((with_reducible apply w_pick_t); rfl) | ((with_reducible apply w_pick_f); rfl) | ((with_reducible apply a_cond1); rfl; first | rfl | assumption) | ((with_reducible apply a_cond0); rfl; first | rfl | assumption) | ((with_reducible apply a_guard1); rfl; first | rfl | assumption) | ((with_reducible apply a_guard0); rfl; first | rfl | assumption) | ((with_reducible apply w_guard_u); rfl) | ((with_reducible apply a_pick1); rfl; first | rfl | assumption) | ((with_reducible apply a_pick0); rfl; first | rfl | assumption) | ((with_reducible apply a_pickN); rfl) | ((with_reducible apply a_condN); rfl) | ((with_reducible apply a_guardN); rfl) | ((with_reducible apply w_fad); rfl) | ((with_reducible apply a_fadI); rfl) | ((with_reducible apply w_load); rfl; rfl; rfl) | ((with_reducible apply w_loadI); rfl) | ((with_reducible apply w_loadA); rfl; rfl; first | exact Nat.le_refl _ | exact Nat.le_of_ble_eq_true rfl) | ((with_reducible apply a_eqA); rfl; rfl; rfl) | ((with_reducible apply a_loadAI); rfl; first | rfl | simp) | ((with_reducible apply w_new); first | rfl | simp) | ((with_reducible apply a_store); rfl; rfl; rfl; rfl; (first | exact Nat.le_refl _ | simp); (first | rfl | simp); (first | rfl | simp)) | ((with_reducible apply a_lenS); rfl; intro _) | ((with_reducible apply a_len); rfl; (first | rfl | simp); intro _) | ((with_reducible apply a_build); rfl) | ((with_reducible apply a_extr); rfl; rfl) | (refine iCall_con (by kernel_rfl) (hI) ?_) | (refine iCall_con (by kernel_rfl) (hV) ?_) | (refine iCall_con (by kernel_rfl) (hW) ?_) | ((with_reducible apply a_cond); rfl) | ((with_reducible apply a_guard); rfl) | (with_reducible intro _))
        exact .pure (by simp) (by rw [hb])
    · have gv : (!decide (checkV d.value = 0)) = true := by simpa using hv
      have hb : errD d = 8 := errD_bad (by rw [okD]; simp [hv])
      repeat' (first | (with_reducible first | apply w_let | apply w_and | refine And.intro True.intro ?_) | ((with_reducible first | apply a_lss | apply a_leq | apply a_gtr | apply a_geq | apply a_eql | apply a_neq); rfl; rfl) | ((with_reducible first | apply a_eqlS | apply a_neqS | apply a_eqlB | apply a_neqB); rfl; rfl) | ((with_reducible apply w_add); rfl; rfl; first | assumption | (unfold inI; omega)) | ((with_reducible apply w_sub); rfl; rfl; first | assumption | (unfold inI; omega)) | ((with_reducible apply a_not); rfl) | ((with_reducible apply w_pick_t); rfl) | ((with_reducible apply w_pick_f); rfl) | ((with_reducible apply a_cond1); rfl; first | rfl | assumption) | ((with_reducible apply a_cond0); rfl; first | rfl | assumption) | ((with_reducible apply a_guard1); rfl; first | rfl | assumption) | ((with_reducible apply a_guard0); rfl; first | rfl | assumption) | ((with_reducible apply w_guard_u); rfl) | ((with_reducible apply a_pick1); rfl; first | rfl | assumption) | ((with_reducible apply a_pick0); rfl; first | rfl | assumption) | ((with_reducible apply a_pickN); rfl) | ((with_reducible apply a_condN); rfl) | ((with_reducible apply a_guardN); rfl) | ((with_reducible apply w_fad); rfl) | ((with_reducible apply a_fadI); rfl) | ((with_reducible apply w_load); rfl; rfl; rfl) | ((with_reducible apply w_loadI); rfl) | ((with_reducible apply w_loadA); rfl; rfl; first | exact Nat.le_refl _ | exact Nat.le_of_ble_eq_true rfl) | ((with_reducible apply a_eqA); rfl; rfl; rfl) | ((with_reducible apply a_loadAI); rfl; first | rfl | simp) | ((with_reducible apply w_new); first | rfl | simp) | ((with_reducible apply a_store); rfl; rfl; rfl; rfl; (first | exact Nat.le_refl _ | simp); (first | rfl | simp); (first | rfl | simp)) | ((with_reducible apply a_lenS); rfl; intro _) | ((with_reducible apply a_len); rfl; (first | rfl | simp); intro _) | ((with_reducible apply a_build); rfl) | ((with_reducible apply a_extr); rfl; rfl) | (refine iCall_con (by kernel_rfl) (hI) ?_) | (refine iCall_con (by kernel_rfl) (hV) ?_) | ((with_reducible apply a_cond); rfl) | ((with_reducible apply a_guard); rfl) | (with_reducible intro _))
      exact .pure (by simp) (by rw [hb])
  · have hk : isPr d.name = false := by simpa using hk
    rw [inhV_not hk] at hI
    have hb : errD d = 8 := errD_bad (by rw [okD, hk]; rfl)
    repeat' (first | (with_reducible first | apply w_let | apply w_and | refine And.intro True.intro ?_) | ((with_reducible first | apply a_lss | apply a_leq | apply a_gtr | apply a_geq | apply a_eql | apply a_neq); rfl; rfl) | ((with_reducible first | apply a_eqlS | apply a_neqS | apply a_eqlB | apply a_neqB); rfl; rfl) | ((with_reducible apply w_add); rfl; rfl; first | assumption | (unfold inI; omega)) | ((with_reducible apply w_sub); rfl; rfl; first | assumption | (unfold inI; omega)) | ((with_reducible apply a_not); rfl) | ((with_reducible apply w_pick_t); rfl) | ((with_reducible apply w_pick_f); rfl) | ((with_reducible apply a_cond1); rfl; first | rfl | assumption) | ((with_reducible apply a_cond0); rfl; first | rfl | assumption) | ((with_reducible apply a_guard1); rfl; first | rfl | assumption) | ((with_reducible apply a_guard0); rfl; first | rfl | assumption) | ((with_reducible apply w_guard_u); rfl) | ((with_reducible apply a_pick1); rfl; first | rfl | assumption) | ((with_reducible apply a_pick0); rfl; first | rfl | assumption) | ((with_reducible apply a_pickN); rfl) | ((with_reducible apply a_condN); rfl) | ((with_reducible apply a_guardN); rfl) | ((with_reducible apply w_fad); rfl) | ((with_reducible apply a_fadI); rfl) | ((with_reducible apply w_load); rfl; rfl; rfl) | ((with_reducible apply w_loadI); rfl) | ((with_reducible apply w_loadA); rfl; rfl; first | exact Nat.le_refl _ | exact Nat.le_of_ble_eq_true rfl) | ((with_reducible apply a_eqA); rfl; rfl; rfl) | ((with_reducible apply a_loadAI); rfl; first | rfl | simp) | ((with_reducible apply w_new); first | rfl | simp) | ((with_reducible apply a_store); rfl; rfl; rfl; rfl; (first | exact Nat.le_refl _ | simp); (first | rfl | simp); (first | rfl | simp)) | ((with_reducible apply a_lenS); rfl; intro _) | ((with_reducible apply a_len); rfl; (first | rfl | simp); intro _) | ((with_reducible apply a_build); rfl) | ((with_reducible apply a_extr); rfl; rfl) | (refine iCall_con (by kernel_rfl) (hI) ?_) | ((with_reducible apply a_cond); rfl) | ((with_reducible apply a_guard); rfl) | (with_reducible intro _))
    exact .pure (by simp) (by rw [hb])
/-! ### Ranks -/
def rkL (d : Dc) : List Int := [if d.imp then 7 - d.origin else d.origin, if d.att then 1 else 0, if d.imp then 1000000 - d.layer else d.layer, d.w0, d.w1, d.w2, d.order]
def rkR (l : List Int) : List (List AV) := l.map fun n => [int n]
def rkV (d : Dc) : AV := .sl 1 (rkR (rkL d))
theorem rows_int : ∀ l : List Int, PureR (rkR l)
  | [] => by simp [rkR, PureR]
  | n :: l => by have := rows_int l; unfold rkR at this ⊢; simp only [List.map_cons, PureR]; exact ⟨by simp, this⟩
theorem rkV_pure (d : Dc) : Aw.Pure (rkV d) := by unfold rkV; rw [Aw.Pure]; exact rows_int _
def rkA (d : Dc) : AV := .agg ((rkL d).map fun n => int n)
theorem a_convI {k k' : IntKind} {x : AV} {n m : Int} {K : AV → Prop} (e : x = .v (.int k' n)) (hm : k.wrap n = m) (q : K (.v (.int k m))) : iConv k x K := by subst hm; exact ⟨k', n, e, q⟩
theorem wrap_in {n : Int} (h : inI n) : IntKind.i64.wrap n = n := by rw [IntKind.wrap_i64]; unfold inI at h; omega
theorem okD_bd {d : Dc} (h : okD d = true) : inI d.origin ∧ inI (7 - d.origin) ∧ inI (1000000 - d.layer) := by
  unfold okD inN at h
  simp only [Bool.and_eq_true, decide_eq_true_eq] at h
  unfold inI
  omega
set_option maxHeartbeats 2000000 in
theorem con_rank (d : Dc) (h : okD d = true) : Con Tryd.prog 27 [.agg (encD d)] (rkV d) := by
  refine (V27 _).gives (by simp [encD_pure]) (rkV_pure d) ?_
  unfold W27
  obtain ⟨s0, s1, s2⟩ := okD_bd h
  have hw := wrap_in s0
  rw [encD]
  cases hi : d.imp <;> cases ha : d.att
  all_goals
    repeat' (first | (with_reducible first | apply w_let | apply w_and | refine And.intro True.intro ?_) | ((with_reducible first | apply a_lss | apply a_leq | apply a_gtr | apply a_geq | apply a_eql | apply a_neq); rfl; rfl) | ((with_reducible first | apply a_eqlS | apply a_neqS | apply a_eqlB | apply a_neqB); rfl; rfl) | ((with_reducible apply w_add); rfl; rfl; first | assumption | (unfold inI; omega)) | ((with_reducible apply w_sub); rfl; rfl; first | assumption | (unfold inI; omega)) | ((with_reducible apply a_not); rfl) | ((with_reducible apply w_pick_t); rfl) | ((with_reducible apply w_pick_f); rfl) | ((with_reducible apply a_cond1); rfl; first | rfl | assumption) | ((with_reducible apply a_cond0); rfl; first | rfl | assumption) | ((with_reducible apply a_guard1); rfl; first | rfl | assumption) | ((with_reducible apply a_guard0); rfl; first | rfl | assumption) | ((with_reducible apply w_guard_u); rfl) | ((with_reducible apply a_pick1); rfl; first | rfl | assumption) | ((with_reducible apply a_pick0); rfl; first | rfl | assumption) | ((with_reducible apply a_pickN); rfl) | ((with_reducible apply a_condN); rfl) | ((with_reducible apply a_guardN); rfl) | ((with_reducible apply w_fad); rfl) | ((with_reducible apply a_fadI); rfl) | ((with_reducible apply w_load); rfl; rfl; rfl) | ((with_reducible apply w_loadI); rfl) | ((with_reducible apply w_loadA); rfl; rfl; first | exact Nat.le_refl _ | exact Nat.le_of_ble_eq_true rfl) | ((with_reducible apply a_eqA); rfl; rfl; rfl) | ((with_reducible apply a_loadAI); rfl; first | rfl | simp) | ((with_reducible apply w_new); first | rfl | simp) | ((with_reducible apply a_store); rfl; rfl; rfl; rfl; (first | exact Nat.le_refl _ | simp); (first | rfl | simp); (first | rfl | simp)) | ((with_reducible apply a_lenS); rfl; intro _) | ((with_reducible apply a_len); rfl; (first | rfl | simp); intro _) | ((with_reducible apply a_build); rfl) | ((with_reducible apply a_extr); rfl; rfl) | (refine a_convI rfl hw ?_) | (refine a_idxQ (n := 0) rfl rfl (by omega) ?_) | (refine a_idxQ (n := 1) rfl rfl (by omega) ?_) | (refine a_idxQ (n := 2) rfl rfl (by omega) ?_) | (refine a_mkSlP rfl ?_) | ((with_reducible apply a_cond); rfl) | ((with_reducible apply a_guard); rfl) | (with_reducible intro _))
    exact .pure (by simp [chunks, setAll, rep0]) (by simp [rkV, rkR, rkL, hi, ha, chunks, setAll, rep0])
set_option maxHeartbeats 2000000 in
theorem con_Ranked (d : Dc) (h : okD d = true) : Con Tryd.prog 43 [.agg (encD d)] (rkA d) := by
  refine (V43 _).gives (by simp [encD_pure]) (by simp [rkA, rkL]) ?_
  unfold W43
  obtain ⟨s0, s1, s2⟩ := okD_bd h
  have hw := wrap_in s0
  rw [encD]
  cases hi : d.imp <;> cases ha : d.att
  all_goals
    repeat' (first | (with_reducible first | apply w_let | apply w_and | refine And.intro True.intro ?_) | ((with_reducible first | apply a_lss | apply a_leq | apply a_gtr | apply a_geq | apply a_eql | apply a_neq); rfl; rfl) | ((with_reducible first | apply a_eqlS | apply a_neqS | apply a_eqlB | apply a_neqB); rfl; rfl) | ((with_reducible apply w_add); rfl; rfl; first | assumption | (unfold inI; omega)) | ((with_reducible apply w_sub); rfl; rfl; first | assumption | (unfold inI; omega)) | ((with_reducible apply a_not); rfl) | ((with_reducible apply w_pick_t); rfl) | ((with_reducible apply w_pick_f); rfl) | ((with_reducible apply a_cond1); rfl; first | rfl | assumption) | ((with_reducible apply a_cond0); rfl; first | rfl | assumption) | ((with_reducible apply a_guard1); rfl; first | rfl | assumption) | ((with_reducible apply a_guard0); rfl; first | rfl | assumption) | ((with_reducible apply w_guard_u); rfl) | ((with_reducible apply a_pick1); rfl; first | rfl | assumption) | ((with_reducible apply a_pick0); rfl; first | rfl | assumption) | ((with_reducible apply a_pickN); rfl) | ((with_reducible apply a_condN); rfl) | ((with_reducible apply a_guardN); rfl) | ((with_reducible apply w_fad); rfl) | ((with_reducible apply a_fadI); rfl) | ((with_reducible apply w_load); rfl; rfl; rfl) | ((with_reducible apply w_loadI); rfl) | ((with_reducible apply w_loadA); rfl; rfl; first | exact Nat.le_refl _ | exact Nat.le_of_ble_eq_true rfl) | ((with_reducible apply a_eqA); rfl; rfl; rfl) | ((with_reducible apply a_loadAI); rfl; first | rfl | simp) | ((with_reducible apply w_new); first | rfl | simp) | ((with_reducible apply a_store); rfl; rfl; rfl; rfl; (first | exact Nat.le_refl _ | simp); (first | rfl | simp); (first | rfl | simp)) | ((with_reducible apply a_lenS); rfl; intro _) | ((with_reducible apply a_len); rfl; (first | rfl | simp); intro _) | ((with_reducible apply a_build); rfl) | ((with_reducible apply a_extr); rfl; rfl) | (refine a_convI rfl hw ?_) | (refine a_idxQ (n := 0) rfl rfl (by omega) ?_) | (refine a_idxQ (n := 1) rfl rfl (by omega) ?_) | (refine a_idxQ (n := 2) rfl rfl (by omega) ?_) | ((with_reducible apply a_cond); rfl) | ((with_reducible apply a_guard); rfl) | (with_reducible intro _))
    exact .pure (by simp [setAll]) (by simp [rkA, rkL, hi, ha, setAll])
end Go.Proofs.YtmbpiloibhbmbaaDoor
end

section
namespace Go.Proofs.YtmbpiloibhbmbaaDoor
open Go Go.Aw Go.Nst
set_option maxRecDepth 1000000
/-! ### Comparing -/
def cmpI (a b : Int) : Int := if a < b then -1 else if b < a then 1 else 0
theorem con_nan (n : Int) : Con Tryd.prog 52 [int n] (bool false) := by
  refine (V52 _).gives (by simp) (by simp) ?_
  unfold W52
  simp
  exact .pure (by simp) rfl
theorem con_cmp (a b : Int) : Con Tryd.prog 38 [int a, int b] (int (cmpI a b)) := by
  refine (V38 _ _).gives (by simp) (by simp) ?_
  unfold W38
  refine iCall_con (by kernel_rfl) (con_nan a) (iCall_con (by kernel_rfl) (con_nan b) ?_)
  simp
  exact ⟨fun h => .pure (by simp) (by unfold cmpI; rw [if_pos h]), fun h => ⟨fun h2 => .pure (by simp) (by unfold cmpI; rw [if_neg (by omega), if_pos h2]), fun h2 => .pure (by simp) (by unfold cmpI; rw [if_neg (by omega), if_neg (by omega)])⟩⟩
def lexL : List Int → List Int → Int
  | a :: xs, b :: ys => if cmpI a b = 0 then lexL xs ys else cmpI a b
  | _, _ => 0
theorem lexL_drop {a b : List Int} {k : Nat} {x y : Int} (h1 : a[k]? = some x) (h2 : b[k]? = some y) : lexL (a.drop k) (b.drop k) = if cmpI x y = 0 then lexL (a.drop (k + 1)) (b.drop (k + 1)) else cmpI x y := by
  rw [List.drop_eq_getElem_cons (List.getElem?_eq_some_iff.1 h1).1, List.drop_eq_getElem_cons (List.getElem?_eq_some_iff.1 h2).1, lexL, (List.getElem?_eq_some_iff.1 h1).2, (List.getElem?_eq_some_iff.1 h2).2]
theorem con_lex (a b : List Int) (hl : b.length = a.length) (hn : a.length < 2 ^ 40) : Con Tryd.prog 26 [.sl 1 (rkR a), .sl 1 (rkR b)] (int (lexL a b)) := by
  refine (V26 _ _).gives (by simp [rows_int]) (by simp) ?_
  unfold W26
  refine a_len (n := a.length) rfl (by simp [rkR]) fun _ => ?_
  refine iLoop_of (α := Nat) (fun k => k ≤ a.length ∧ lexL a b = lexL (a.drop k) (b.drop k)) (fun k => [int k]) (fun _ => []) (fun k => a.length - k) 0 (by simp) (Wk.refl _ _ _ (by simp)) ?_
  rintro k ⟨hk, hf⟩
  refine a_lss rfl rfl ?_
  rcases Nat.lt_or_ge k a.length with q | q
  · obtain ⟨x, hx⟩ : ∃ x, a[k]? = some x := ⟨a[k], List.getElem?_eq_getElem q⟩
    obtain ⟨y, hy⟩ : ∃ x, b[k]? = some x := ⟨b[k]'(by omega), List.getElem?_eq_getElem _⟩
    have e := lexL_drop hx hy
    refine a_cond1 rfl (by simpa using q) ?_
    refine a_idx (f := fun n => [int n]) rfl rfl rfl hx ?_
    refine w_loadI rfl ?_
    refine a_len (n := b.length) rfl (by simp [rkR]) fun _ => ?_
    refine a_geq rfl rfl ?_
    refine a_cond0 rfl (by simp; omega) ?_
    refine a_idx (f := fun n => [int n]) rfl rfl rfl hy ?_
    refine w_loadI rfl ?_
    refine w_call rfl (by kernel_rfl) (con_cmp x y) ?_
    refine a_neq rfl rfl ?_
    refine a_cond rfl (fun hc => ?_) (fun hc => ?_)
    · rw [if_neg (by simpa using hc)] at e
      exact .pure (by simp) (by rw [hf, e])
    · rw [if_pos (by simpa using hc)] at e
      refine w_add rfl rfl (by unfold inI; omega) ?_
      refine w_and ?_
      exact ⟨k + 1, ⟨q, by rw [hf, e]⟩, Wk.refl _ _ _ (by simp), by omega⟩
  · have hk : k = a.length := by omega
    subst hk
    rw [List.drop_length] at hf
    have hf : lexL a b = 0 := hf
    refine a_cond0 rfl (by simp) ?_
    refine a_len (n := a.length) rfl (by simp [rkR]) fun _ => ?_
    refine a_len (n := b.length) rfl (by simp [rkR]) fun _ => ?_
    refine a_lss rfl rfl ?_
    refine a_cond0 rfl (by simp [hl]) ?_
    exact .pure (by simp) (by rw [hf])
theorem setAll_mid : ∀ (b p a r : List AV), a.length = b.length → setAll (p ++ (a ++ r)) p.length b = p ++ (b ++ r)
  | [], p, a, r, h => by simp at h; subst h; rfl
  | c :: b, p, x :: a, r, h => by
    rw [setAll]
    have e : (p ++ (x :: a ++ r)).set p.length c = (p ++ [c]) ++ (a ++ r) := by simp
    have := setAll_mid b (p ++ [c]) a r (by simpa using h)
    rw [e, show p.length + 1 = (p ++ [c]).length by simp, this]
    simp
theorem a_mkSl2 {sz : Nat} {z v w : AV} {a b : List AV} {K : AV → Prop} (hv : vcells v = a) (hw : vcells w = b) (la : a.length = sz) (lb : b.length = sz) (hz : (vcells z).length = sz) (sa : a.all scal = true) (sb : b.all scal = true) (q : K (.sl sz [a, b])) : iMkSlP 2 sz z [(0, sz, v), (sz, sz, w)] K := by
  subst hv; subst hw
  have e1 : setAll (vcells z ++ vcells z) 0 (vcells v) = vcells v ++ vcells z := by
    have := setAll_mid (vcells v) [] (vcells z) (vcells z) (by omega)
    simpa using this
  have e2 : setAll (vcells v ++ vcells z) sz (vcells w) = vcells v ++ vcells w := by
    have := setAll_mid (vcells w) (vcells v) (vcells z) [] (by omega)
    rw [la] at this
    simpa using this
  have : bfill (rep0 2 (vcells z)) [(0, sz, v), (sz, sz, w)] = some (vcells v ++ vcells w) := by
    simp only [bfill, rep0, List.append_nil]
    rw [if_pos ⟨la, by rw [List.length_append]; omega, sa⟩, e1, if_pos ⟨lb, by rw [List.length_append]; omega, sb⟩, e2]
  unfold iMkSlP
  rw [this]
  have e3 : chunks sz 2 (vcells v ++ vcells w) = [vcells v, vcells w] := by
    simp only [chunks]
    rw [List.take_append_of_le_length (by omega), List.take_of_length_le (by omega), List.drop_append_of_le_length (by omega), List.drop_of_length_le (by omega), List.nil_append, List.take_of_length_le (by omega)]
  simp only
  rw [e3]
  exact q
theorem con_compare (a b : Dc) (ha : okD a = true) (hb : okD b = true) : Con Tryd.prog 18 [.agg (encD a), .agg (encD b)] (int (lexL (rkL a) (rkL b))) := by
  refine (V18 _ _).gives (by simp [encD_pure]) (by simp) ?_
  unfold W18
  have h1 := con_rank a ha
  have h2 := con_rank b hb
  have h3 := con_lex (rkL a) (rkL b) rfl (by simp [rkL])
  rw [encD] at h1 h2 ⊢
  rw [encD]
  repeat' (first | (with_reducible first | apply w_let | apply w_and | refine And.intro True.intro ?_) | ((with_reducible first | apply a_lss | apply a_leq | apply a_gtr | apply a_geq | apply a_eql | apply a_neq); rfl; rfl) | ((with_reducible first | apply a_eqlS | apply a_neqS | apply a_eqlB | apply a_neqB); rfl; rfl) | ((with_reducible apply w_add); rfl; rfl; first | assumption | (unfold inI; omega)) | ((with_reducible apply w_sub); rfl; rfl; first | assumption | (unfold inI; omega)) | ((with_reducible apply a_not); rfl) | ((with_reducible apply w_pick_t); rfl) | ((with_reducible apply w_pick_f); rfl) | ((with_reducible apply a_cond1); rfl; first | rfl | assumption) | ((with_reducible apply a_cond0); rfl; first | rfl | assumption) | ((with_reducible apply a_guard1); rfl; first | rfl | assumption) | ((with_reducible apply a_guard0); rfl; first | rfl | assumption) | ((with_reducible apply w_guard_u); rfl) | ((with_reducible apply a_pick1); rfl; first | rfl | assumption) | ((with_reducible apply a_pick0); rfl; first | rfl | assumption) | ((with_reducible apply a_pickN); rfl) | ((with_reducible apply a_condN); rfl) | ((with_reducible apply a_guardN); rfl) | ((with_reducible apply w_fad); rfl) | ((with_reducible apply a_fadI); rfl) | ((with_reducible apply w_load); rfl; rfl; rfl) | ((with_reducible apply w_loadI); rfl) | ((with_reducible apply w_loadA); rfl; rfl; first | exact Nat.le_refl _ | exact Nat.le_of_ble_eq_true rfl) | ((with_reducible apply a_eqA); rfl; rfl; rfl) | ((with_reducible apply a_loadAI); rfl; first | rfl | simp) | ((with_reducible apply w_new); first | rfl | simp) | ((with_reducible apply a_store); rfl; rfl; rfl; rfl; (first | exact Nat.le_refl _ | simp); (first | rfl | simp); (first | rfl | simp)) | ((with_reducible apply a_lenS); rfl; intro _) | ((with_reducible apply a_len); rfl; (first | rfl | simp); intro _) | ((with_reducible apply a_build); rfl) | ((with_reducible apply a_extr); rfl; rfl) | (refine w_callQ rfl (by kernel_rfl) h1 ?_) | (refine w_callQ rfl (by kernel_rfl) h2 ?_) | (refine w_callQ rfl (by kernel_rfl) h3 ?_) | ((with_reducible apply a_cond); rfl) | ((with_reducible apply a_guard); rfl) | (with_reducible intro _))
  exact .pure (by simp) rfl
/-! ### Lists -/
def smallD (d : Dc) : Prop := zVs d.value < 2 ^ 39 ∧ d.name.length < 2 ^ 39 ∧ d.whole.length < 2 ^ 39
def encDs (l : List Dc) : List (List AV) := l.map encD
theorem encDs_pure : ∀ l, PureR (encDs l)
  | [] => by simp [encDs, PureR]
  | d :: l => by have := encDs_pure l; unfold encDs at this ⊢; simp only [List.map_cons, PureR]; exact ⟨encD_pure d, this⟩
def eL (l : List Dc) : Int := if l.all okD then 0 else 8
theorem eL_bad {l : List Dc} {k : Nat} {d : Dc} (h : l[k]? = some d) (hd : okD d = false) : eL l = 8 := by
  unfold eL
  rw [if_neg]
  intro q
  rw [List.all_eq_true.1 q d (List.mem_of_getElem? h)] at hd
  cases hd
theorem con_check (l : List Dc) (hs : ∀ d ∈ l, smallD d) (hl : l.length < 2 ^ 40) : Con Tryd.prog 14 [.sl 11 (encDs l)] (int (eL l)) := by
  refine (V14 _).gives (by simp [encDs_pure]) (by simp) ?_
  unfold W14
  refine a_len (n := l.length) rfl (by simp [encDs]) fun _ => ?_
  refine iLoop_of (α := Nat) (fun k => k ≤ l.length ∧ (l.take k).all okD = true) (fun k => [int k]) (fun _ => []) (fun k => l.length - k) 0 (by simp) (Wk.refl _ _ _ (by simp)) ?_
  rintro k ⟨hk, hf⟩
  refine a_lss rfl rfl ?_
  rcases Nat.lt_or_ge k l.length with q | q
  · obtain ⟨d, hd⟩ : ∃ x, l[k]? = some x := ⟨l[k], List.getElem?_eq_getElem q⟩
    obtain ⟨z1, z2, z3⟩ := hs d (List.mem_of_getElem? hd)
    have hC := con_dCheck d (by omega) (by omega)
    refine a_cond1 rfl (by simpa using q) ?_
    refine a_idx (f := encD) rfl rfl rfl hd ?_
    refine a_loadAI rfl (by simp [encD]) ?_
    refine w_new rfl ?_
    refine a_store (cs := encD d) rfl rfl rfl rfl (Nat.le_refl _) rfl rfl ?_
    refine w_loadA rfl rfl (Nat.le_refl _) ?_
    refine w_call rfl (by kernel_rfl) hC ?_
    refine a_neq rfl rfl ?_
    cases ho : okD d with
    | true =>
      refine a_cond0 rfl (by simp [errD, ho]) ?_
      refine w_add rfl rfl (by unfold inI; omega) ?_
      refine w_and ?_
      exact ⟨k + 1, ⟨q, by rw [List.take_add_one, hd, List.all_append, hf]; simp [ho]⟩, Wk.back (M := 0) (by simp) (by simp) rfl rfl (by simp) (by simp [Bd]), by omega⟩
    | false =>
      refine a_cond1 rfl (by simp [errD, ho]) ?_
      exact .pure (by simp) (by rw [eL_bad hd ho, errD, ho]; rfl)
  · have hk : k = l.length := by omega
    subst hk
    rw [List.take_length] at hf
    refine a_cond0 rfl (by simp) ?_
    exact .pure (by simp) (by unfold eL; rw [if_pos hf])
theorem con_All (l : List Dc) (hs : ∀ d ∈ l, smallD d) (hl : l.length < 2 ^ 40) : Con Tryd.prog 19 [.sl 11 (encDs l)] (int (eL l)) := by
  refine (V19 _).gives (by simp [encDs_pure]) (by simp) ?_
  unfold W19
  refine iLoop_of (α := Nat) (fun k => k ≤ l.length ∧ (l.take k).all okD = true) (fun k => [int k]) (fun _ => []) (fun k => l.length - k) 0 (by simp) (Wk.refl _ _ _ (by simp)) ?_
  rintro k ⟨hk, hf⟩
  refine a_len (n := l.length) rfl (by simp [encDs]) fun _ => ?_
  refine a_lss rfl rfl ?_
  rcases Nat.lt_or_ge k l.length with q | q
  · obtain ⟨d, hd⟩ : ∃ x, l[k]? = some x := ⟨l[k], List.getElem?_eq_getElem q⟩
    obtain ⟨z1, z2, z3⟩ := hs d (List.mem_of_getElem? hd)
    have hC := con_rdCheck d (by omega) (by omega)
    refine a_cond1 rfl (by simpa using q) ?_
    refine a_idx (f := encD) rfl rfl rfl hd ?_
    refine a_loadAI rfl (by simp [encD]) ?_
    refine w_call rfl (by kernel_rfl) hC ?_
    refine a_neq rfl rfl ?_
    cases ho : okD d with
    | true =>
      refine a_cond0 rfl (by simp [errD, ho]) ?_
      refine w_add rfl rfl (by unfold inI; omega) ?_
      refine w_and ?_
      exact ⟨k + 1, ⟨q, by rw [List.take_add_one, hd, List.all_append, hf]; simp [ho]⟩, Wk.refl _ _ _ (by simp), by omega⟩
    | false =>
      refine a_cond1 rfl (by simp [errD, ho]) ?_
      exact .pure (by simp) (by rw [eL_bad hd ho, errD, ho]; rfl)
  · have hk : k = l.length := by omega
    subst hk
    rw [List.take_length] at hf
    refine a_cond0 rfl (by simp) ?_
    exact .pure (by simp) (by unfold eL; rw [if_pos hf])
/-! ### One before another -/
theorem con_Less (a b : Dc) (ha : okD a = true) (hb : okD b = true) : Con Tryd.prog 29 [.agg (encD a), .agg (encD b)] (bool (decide (lexL (rkL a) (rkL b) < 0))) := by
  refine (V29 _ _).gives (by simp [encD_pure]) (by simp) ?_
  unfold W29
  have h1 := con_Ranked a ha
  have h2 := con_Ranked b hb
  rw [encD] at h1 h2 ⊢
  rw [encD]
  refine w_new rfl ?_
  refine w_new rfl ?_
  refine w_loadA rfl rfl (Nat.le_refl _) ?_
  refine w_callC rfl (by kernel_rfl) h1 ?_
  refine w_loadA rfl rfl (Nat.le_refl _) ?_
  refine w_callC rfl (by kernel_rfl) h2 ?_
  refine n_store (h' := [_, _, _, _, _, _]) (id := 4) (o := 0) (cs := (rkL a).map fun n => int n) rfl rfl rfl rfl (Nat.le_refl _) rfl rfl rfl ?_
  refine n_store (h' := [_, _, _, _, _, _]) (id := 5) (o := 0) (cs := (rkL b).map fun n => int n) rfl rfl rfl rfl (Nat.le_refl _) rfl rfl rfl ?_
  refine iLoop_of (α := Nat) (fun k => k ≤ 7 ∧ lexL (rkL a) (rkL b) = lexL ((rkL a).drop k) ((rkL b).drop k)) (fun k => [int k]) (fun _ => _) (fun k => 7 - k) 0 ⟨by omega, rfl⟩ (Wk.refl _ _ _ (by simp)) ?_
  rintro k ⟨hk, hf⟩
  refine a_lss rfl rfl ?_
  rcases Nat.lt_or_ge k 7 with q | q
  · obtain ⟨x, hx⟩ : ∃ x, (rkL a)[k]? = some x := ⟨(rkL a)[k]'(by simpa [rkL] using q), List.getElem?_eq_getElem _⟩
    obtain ⟨y, hy⟩ : ∃ x, (rkL b)[k]? = some x := ⟨(rkL b)[k]'(by simpa [rkL] using q), List.getElem?_eq_getElem _⟩
    have e := lexL_drop hx hy
    have ex : ((rkL a).map fun n => int n)[0 + k * 1]? = some (int x) := by rw [Nat.zero_add, Nat.mul_one, List.getElem?_map, hx]; rfl
    have ey : ((rkL b).map fun n => int n)[0 + k * 1]? = some (int y) := by rw [Nat.zero_add, Nat.mul_one, List.getElem?_map, hy]; rfl
    refine a_cond1 rfl (by simp; omega) ?_
    refine a_idxQ (id := 4) (o := 0) rfl rfl q ?_
    refine w_load rfl rfl ex ?_
    refine a_idxQ (id := 5) (o := 0) rfl rfl q ?_
    refine w_load rfl rfl ey ?_
    refine a_neq rfl rfl ?_
    refine a_cond rfl (fun hc => ?_) (fun hc => ?_)
    · refine a_idxQ (id := 4) (o := 0) rfl rfl q ?_
      refine w_load rfl rfl ex ?_
      refine a_idxQ (id := 5) (o := 0) rfl rfl q ?_
      refine w_load rfl rfl ey ?_
      refine a_lss rfl rfl ?_
      refine .pure (by simp) ?_
      have hc : x ≠ y := by simpa using hc
      have e0 : cmpI x y ≠ 0 := by unfold cmpI; split <;> (try split) <;> omega
      rw [if_neg e0] at e
      rw [hf, e]
      simp only [AV.v.injEq, Value.bool.injEq, decide_eq_decide]
      unfold cmpI
      split <;> (try split) <;> omega
    · have hc : x = y := by simpa using hc
      subst hc
      rw [if_pos (by simp [cmpI])] at e
      refine w_add rfl rfl (by unfold inI; omega) ?_
      refine w_and ?_
      exact ⟨k + 1, ⟨by omega, by rw [hf, e]⟩, Wk.refl _ _ _ (by simp), by omega⟩
  · obtain rfl : k = 7 := by omega
    have hf : lexL (rkL a) (rkL b) = 0 := hf
    refine a_cond0 rfl (by simp) ?_
    exact .pure (by simp) (by rw [hf]; rfl)
def befV (a b : Dc) : AV := if eL [a, b] = 0 then .tup [bool (decide (lexL (rkL a) (rkL b) < 0)), int 0] else .tup [ff, int 8]
theorem befV_pure (a b : Dc) : Aw.Pure (befV a b) := by unfold befV; split <;> simp
theorem eL_two {a b : Dc} (h : eL [a, b] = 0) : okD a = true ∧ okD b = true := by
  unfold eL at h
  split at h
  · rename_i q; simpa using q
  · cases h
theorem eL_not {l : List Dc} (h : eL l ≠ 0) : eL l = 8 := by
  unfold eL at h ⊢
  split
  · rename_i q; rw [if_pos q] at h; exact absurd rfl h
  · rfl
end Go.Proofs.YtmbpiloibhbmbaaDoor
end

section
namespace Go.Proofs.YtmbpiloibhbmbaaDoor
open Go Go.Aw Go.Nst
set_option maxRecDepth 1000000
def rankT (d : Dc) : AV := if okD d = true then .tup [rkV d, int 0] else .tup [.v (.slice none 0 0), int 8]
theorem rankT_pure (d : Dc) : Aw.Pure (rankT d) := by unfold rankT; split <;> simp [rkV_pure]
def gD (d : Dc) : Bool := greatV d.value || decide ((100 : Int) < d.name.length) || decide ((100 : Int) < d.whole.length)
def great2 (a b : Dc) : Bool := gD a || gD b || decide ((1500 : Int) < szVs 300 0 a.value + szVs 300 0 b.value)
def accG (a b : Dc) : Nat → Int
  | 0 => 0
  | 1 => szVs 300 0 a.value
  | _ => szVs 300 0 a.value + szVs 300 0 b.value
theorem con_Great2 (a b : Dc) (ha : smallD a) (hb : smallD b) : Con Tryd.prog 4 [.sl 11 (encDs [a, b])] (bool (great2 a b)) := by
  refine (V4 _).gives (by simp [encDs_pure]) (by simp) ?_
  unfold W4
  refine iLoop_of (α := Nat) (fun k => k ≤ 2 ∧ ∀ i d, i < k → [a, b][i]? = some d → gD d = false) (fun k => [int (accG a b k), int k]) (fun _ => []) (fun k => 2 - k) 0 ⟨by omega, fun i d h => by omega⟩ (Wk.refl _ _ _ (by simp)) ?_
  rintro k ⟨hk, hall⟩
  refine a_len (n := 2) rfl rfl fun _ => ?_
  refine a_lss rfl rfl ?_
  rcases Nat.lt_or_ge k 2 with q | q
  · obtain ⟨d, hd⟩ : ∃ x, [a, b][k]? = some x := ⟨[a, b][k]'(by simpa using q), List.getElem?_eq_getElem _⟩
    obtain ⟨z1, z2, z3⟩ : smallD d := by
      have := List.mem_of_getElem? hd
      simp at this
      rcases this with rfl | rfl <;> assumption
    have q1 : decide ((k : Int) < ((2 : Nat) : Int)) = true := by simp; omega
    have q2 : decide ((k : Int) ≤ 40) = true := by simp; omega
    have hG := con_vGreat d.value z1
    have hS := con_Size d.value 300 z1 (by omega) (by omega)
    obtain ⟨b1, b2, _⟩ := szVs_le 300 0 d.value
    obtain ⟨c1, c2, _⟩ := szVs_le 300 0 a.value
    obtain ⟨e1, e2, _⟩ := szVs_le 300 0 b.value
    have hacc : accG a b (k + 1) = accG a b k + szVs 300 0 d.value := by
      obtain rfl | rfl : k = 0 ∨ k = 1 := by omega
      · simp at hd; subst hd; simp [accG]
      · simp at hd; subst hd; simp [accG]
    have hi1 : inI (accG a b k + szVs 300 0 d.value) := by
      obtain ⟨x1, x2, x3⟩ := ha
      obtain ⟨y1, y2, y3⟩ := hb
      obtain rfl | rfl : k = 0 ∨ k = 1 := by omega
      · simp [accG]; unfold inI; omega
      · simp [accG]; unfold inI; omega
    have hin : inI ((k : Int) + 1) := by unfold inI; omega
    repeat' (first | (with_reducible first | apply w_let | apply w_and | refine And.intro True.intro ?_) | ((with_reducible first | apply a_lss | apply a_leq | apply a_gtr | apply a_geq | apply a_eql | apply a_neq); rfl; rfl) | ((with_reducible first | apply a_eqlS | apply a_neqS | apply a_eqlB | apply a_neqB); rfl; rfl) | ((with_reducible apply w_add); rfl; rfl; first | assumption | (unfold inI; omega)) | ((with_reducible apply w_sub); rfl; rfl; first | assumption | (unfold inI; omega)) | ((with_reducible apply a_not); rfl) | ((with_reducible apply w_pick_t); rfl) | ((with_reducible apply w_pick_f); rfl) | ((with_reducible apply a_cond1); rfl; first | rfl | assumption) | ((with_reducible apply a_cond0); rfl; first | rfl | assumption) | ((with_reducible apply a_guard1); rfl; first | rfl | assumption) | ((with_reducible apply a_guard0); rfl; first | rfl | assumption) | ((with_reducible apply w_guard_u); rfl) | ((with_reducible apply a_pick1); rfl; first | rfl | assumption) | ((with_reducible apply a_pick0); rfl; first | rfl | assumption) | ((with_reducible apply a_pickN); rfl) | ((with_reducible apply a_condN); rfl) | ((with_reducible apply a_guardN); rfl) | ((with_reducible apply w_fad); rfl) | ((with_reducible apply a_fadI); rfl) | ((with_reducible apply w_load); rfl; rfl; rfl) | ((with_reducible apply w_loadI); rfl) | ((with_reducible apply w_loadA); rfl; rfl; first | exact Nat.le_refl _ | exact Nat.le_of_ble_eq_true rfl) | ((with_reducible apply a_eqA); rfl; rfl; rfl) | ((with_reducible apply a_loadAI); rfl; first | rfl | simp) | ((with_reducible apply w_new); first | rfl | simp) | ((with_reducible apply a_store); rfl; rfl; rfl; rfl; (first | exact Nat.le_refl _ | simp); (first | rfl | simp); (first | rfl | simp)) | ((with_reducible apply a_lenS); rfl; intro _) | ((with_reducible apply a_len); rfl; (first | rfl | simp); intro _) | ((with_reducible apply a_build); rfl) | ((with_reducible apply a_extr); rfl; rfl) | (refine iCall_con (by kernel_rfl) (hG) ?_) | (refine iCall_con (by kernel_rfl) (hS) ?_) | (refine a_idx (f := encD) rfl rfl rfl hd ?_) | ((with_reducible apply a_cond); rfl) | ((with_reducible apply a_guard); rfl) | (with_reducible intro _))
    all_goals first
      | (refine ⟨k + 1, ⟨by omega, fun i x hi hx => ?_⟩, Wk.le (by simp) (by rw [hacc]; simp), by omega⟩
         rcases Nat.lt_or_ge i k with z | z
         · exact hall i x z hx
         · obtain rfl : i = k := by omega
           rw [hd] at hx; cases hx
           unfold gD; grind)
      | (refine .pure (by simp) ?_
         simp only [nx_zero, nx_one, AV.v.injEq, Value.bool.injEq]
         have hg : gD d = true := by unfold gD; grind
         have := List.mem_of_getElem? hd
         simp at this
         unfold great2
         rcases this with rfl | rfl <;> simp [hg])
  · obtain rfl : k = 2 := by omega
    have g1 := hall 0 a (by omega) rfl
    have g2 := hall 1 b (by omega) rfl
    have q1 : decide (((2 : Nat) : Int) < ((2 : Nat) : Int)) = false := by simp
    repeat' (first | (with_reducible first | apply w_let | apply w_and | refine And.intro True.intro ?_) | ((with_reducible first | apply a_lss | apply a_leq | apply a_gtr | apply a_geq | apply a_eql | apply a_neq); rfl; rfl) | ((with_reducible first | apply a_eqlS | apply a_neqS | apply a_eqlB | apply a_neqB); rfl; rfl) | ((with_reducible apply w_add); rfl; rfl; first | assumption | (unfold inI; omega)) | ((with_reducible apply w_sub); rfl; rfl; first | assumption | (unfold inI; omega)) | ((with_reducible apply a_not); rfl) | ((with_reducible apply w_pick_t); rfl) | ((with_reducible apply w_pick_f); rfl) | ((with_reducible apply a_cond1); rfl; first | rfl | assumption) | ((with_reducible apply a_cond0); rfl; first | rfl | assumption) | ((with_reducible apply a_guard1); rfl; first | rfl | assumption) | ((with_reducible apply a_guard0); rfl; first | rfl | assumption) | ((with_reducible apply w_guard_u); rfl) | ((with_reducible apply a_pick1); rfl; first | rfl | assumption) | ((with_reducible apply a_pick0); rfl; first | rfl | assumption) | ((with_reducible apply a_pickN); rfl) | ((with_reducible apply a_condN); rfl) | ((with_reducible apply a_guardN); rfl) | ((with_reducible apply w_fad); rfl) | ((with_reducible apply a_fadI); rfl) | ((with_reducible apply w_load); rfl; rfl; rfl) | ((with_reducible apply w_loadI); rfl) | ((with_reducible apply w_loadA); rfl; rfl; first | exact Nat.le_refl _ | exact Nat.le_of_ble_eq_true rfl) | ((with_reducible apply a_eqA); rfl; rfl; rfl) | ((with_reducible apply a_loadAI); rfl; first | rfl | simp) | ((with_reducible apply w_new); first | rfl | simp) | ((with_reducible apply a_store); rfl; rfl; rfl; rfl; (first | exact Nat.le_refl _ | simp); (first | rfl | simp); (first | rfl | simp)) | ((with_reducible apply a_lenS); rfl; intro _) | ((with_reducible apply a_len); rfl; (first | rfl | simp); intro _) | ((with_reducible apply a_build); rfl) | ((with_reducible apply a_extr); rfl; rfl) | ((with_reducible apply a_cond); rfl) | ((with_reducible apply a_guard); rfl) | (with_reducible intro _))
    all_goals
      refine .pure (by simp) ?_
      simp only [nx_zero, nx_one, AV.v.injEq, Value.bool.injEq, great2, g1, g2, accG] at *
      grind
end Go.Proofs.YtmbpiloibhbmbaaDoor
end
