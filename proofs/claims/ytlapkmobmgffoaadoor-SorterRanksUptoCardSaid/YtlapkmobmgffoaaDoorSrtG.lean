/-
  Ranks, by either way: the law.
  No conditions: contracts.
-/
import Derived.Test.YtlapkmobmgffoaaDoorSrtF
set_option linter.unusedVariables false
set_option linter.unusedSimpArgs false
namespace Go.Proofs.YtlapkmobmgffoaaDoor
open Go Go.Aw Go.Nst
set_option maxRecDepth 1000000
def rankT (d : Dc) : AV := if okD d = true then .tup [rkV d, int 0] else .tup [.v (.slice none 0 0), int 8]
theorem rankT_pure (d : Dc) : Aw.Pure (rankT d) := by unfold rankT; split <;> simp [rkV_pure]
theorem con_Rank (d : Dc) (hs : smallD d) : Con Tryd.prog 7 [.agg (encD d)] (rankT d) := by
  refine (V7 _).gives (by simp [encD_pure]) (rankT_pure d) ?_
  unfold W7
  obtain ⟨z1, z2, z3⟩ := hs
  refine w_new rfl ?_
  refine w_loadA rfl rfl (Nat.le_refl _) ?_
  refine w_call rfl (by kernel_rfl) (con_dCheck d (by omega) (by omega)) ?_
  refine a_neq rfl rfl ?_
  unfold rankT
  cases ho : okD d with
  | true =>
    refine a_cond0 rfl (by simp [errD, ho]) ?_
    refine w_loadA rfl rfl (Nat.le_refl _) ?_
    refine w_call rfl (by kernel_rfl) (con_rank d ho) ?_
    exact .pure (by simp [rkV_pure]) rfl
  | false =>
    refine a_cond1 rfl (by simp [errD, ho]) ?_
    exact .pure (by simp) (by simp [errD, ho])
theorem con_rRank (d : Dc) (hs : smallD d) : Con Tryd.prog 8 [.agg (encD d)] (rankT d) := by
  refine (V8 _).gives (by simp [encD_pure]) (rankT_pure d) ?_
  unfold W8
  obtain ⟨z1, z2, z3⟩ := hs
  refine w_new rfl ?_
  refine w_loadA rfl rfl (Nat.le_refl _) ?_
  refine w_call rfl (by kernel_rfl) (con_rdCheck d (by omega) (by omega)) ?_
  refine a_neq rfl rfl ?_
  unfold rankT
  cases ho : okD d with
  | true =>
    refine a_cond0 rfl (by simp [errD, ho]) ?_
    refine w_loadA rfl rfl (Nat.le_refl _) ?_
    refine w_call rfl (by kernel_rfl) (con_Ranked d ho) ?_
    refine n_new (n := 1) (h' := [_, _]) rfl rfl rfl rfl ?_
    refine n_store (h' := [_, _]) (cs := (rkL d).map fun n => int n) rfl rfl rfl rfl (Nat.le_refl _) rfl rfl rfl ?_
    refine a_mkSl0 ?_
    refine ⟨⟨by simp [rkL, setAll], by decide, by decide, by decide, by unfold maxLen; decide⟩, ?_⟩
    refine n_app0 (n := 2) (h' := [_, _, _]) (k := 7) (rows := rkR (rkL d)) rfl ((srcR_own rfl (by simp [rkL, setAll])).trans rfl) rfl rfl (by unfold roomA maxLen; decide) rfl rfl ?_
    refine Gives.of ?_
    simp only [tl, tlA, tlL]
    rw [tlR_pure _ _ _ _ (rows_int _)]
    simp [rkV, Le, LeL]
  | false =>
    refine a_cond1 rfl (by simp [errD, ho]) ?_
    exact .pure (by simp) (by simp [errD, ho])
theorem con_sameInts (l : List Int) (hl : l.length < 2 ^ 40) : Con Tryd.prog 11 [.sl 1 (rkR l), .sl 1 (rkR l)] (bool true) := by
  refine (V11 _ _).gives (by simp [rows_int]) (by simp) ?_
  unfold W11
  refine a_len (n := l.length) rfl (by simp [rkR]) fun _ => ?_
  refine a_len (n := l.length) rfl (by simp [rkR]) fun _ => ?_
  refine a_neq rfl rfl ?_
  refine a_cond0 rfl (by simp) ?_
  refine iLoop_of (α := Nat) (fun k => k ≤ l.length) (fun k => [int k]) (fun _ => []) (fun k => l.length - k) 0 (by simp) (Wk.refl _ _ _ (by simp)) ?_
  intro k hk
  refine a_len (n := l.length) rfl (by simp [rkR]) fun _ => ?_
  refine a_lss rfl rfl ?_
  rcases Nat.lt_or_ge k l.length with q | q
  · obtain ⟨x, hx⟩ : ∃ s, l[k]? = some s := ⟨l[k], List.getElem?_eq_getElem q⟩
    refine a_cond1 rfl (by simpa using q) ?_
    refine a_idx (f := fun n => [int n]) rfl rfl rfl hx ?_
    refine w_loadI rfl ?_
    refine a_idx (f := fun n => [int n]) rfl rfl rfl hx ?_
    refine w_loadI rfl ?_
    refine a_neq rfl rfl ?_
    refine a_cond0 rfl (by simp) ?_
    refine w_add rfl rfl (by unfold inI; omega) ?_
    refine w_and ?_
    exact ⟨k + 1, q, Wk.refl _ _ _ (by simp), by omega⟩
  · refine a_cond0 rfl (by simp; omega) ?_
    exact .pure (by simp) rfl
/-! ### Not great -/
def gD (d : Dc) : Bool := greatV d.value || decide ((100 : Int) < d.name.length) || decide ((100 : Int) < d.whole.length)
def great2 (a b : Dc) : Bool := gD a || gD b || decide ((1500 : Int) < szVs 300 0 a.value + szVs 300 0 b.value)
def accG (a b : Dc) : Nat → Int
  | 0 => 0
  | 1 => szVs 300 0 a.value
  | _ => szVs 300 0 a.value + szVs 300 0 b.value
theorem con_Great2 (a b : Dc) (ha : smallD a) (hb : smallD b) : Con Tryd.prog 6 [.sl 11 (encDs [a, b])] (bool (great2 a b)) := by
  refine (V6 _).gives (by simp [encDs_pure]) (by simp) ?_
  unfold W6
  refine iLoop_of (α := Nat) (fun k => k ≤ 2 ∧ ∀ i d, i < k → [a, b][i]? = some d → gD d = false) (fun k => [int (accG a b k), int k]) (fun _ => []) (fun k => 2 - k) 0 ⟨by omega, fun i d h => by omega⟩ (Wk.refl _ _ _ (by simp)) ?_
  rintro k ⟨hk, hall⟩
  refine a_len (n := 2) rfl rfl fun _ => ?_
  refine a_lss rfl rfl ?_
  rcases Nat.lt_or_ge k 2 with q | q
  · obtain ⟨d, hd⟩ : ∃ x, [a, b][k]? = some x := ⟨[a, b][k]'(by simpa using q), List.getElem?_eq_getElem _⟩
    obtain ⟨z1, z2, z3⟩ : smallD d := by
      have := List.mem_of_getElem? hd
      simp at this
      rcases this with rfl | rfl <;> assumption
    have q1 : decide ((k : Int) < ((2 : Nat) : Int)) = true := by simp; omega
    have q2 : decide ((k : Int) ≤ 40) = true := by simp; omega
    have hG := con_vGreat d.value z1
    have hS := con_Size d.value 300 z1 (by omega) (by omega)
    obtain ⟨b1, b2, _⟩ := szVs_le 300 0 d.value
    obtain ⟨c1, c2, _⟩ := szVs_le 300 0 a.value
    obtain ⟨e1, e2, _⟩ := szVs_le 300 0 b.value
    have hacc : accG a b (k + 1) = accG a b k + szVs 300 0 d.value := by
      obtain rfl | rfl : k = 0 ∨ k = 1 := by omega
      · simp at hd; subst hd; simp [accG]
      · simp at hd; subst hd; simp [accG]
    have hi1 : inI (accG a b k + szVs 300 0 d.value) := by
      obtain ⟨x1, x2, x3⟩ := ha
      obtain ⟨y1, y2, y3⟩ := hb
      obtain rfl | rfl : k = 0 ∨ k = 1 := by omega
      · simp [accG]; unfold inI; omega
      · simp [accG]; unfold inI; omega
    have hin : inI ((k : Int) + 1) := by unfold inI; omega
    repeat' (first
      | (with_reducible apply w_let)
      | (with_reducible apply w_and)
      | (with_reducible refine And.intro True.intro ?_)
      | ((with_reducible apply a_lss); rfl; rfl)
      | ((with_reducible apply a_leq); rfl; rfl)
      | ((with_reducible apply a_gtr); rfl; rfl)
      | ((with_reducible apply a_geq); rfl; rfl)
      | ((with_reducible apply a_eql); rfl; rfl)
      | ((with_reducible apply a_neq); rfl; rfl)
      | ((with_reducible apply a_eqlS); rfl; rfl)
      | ((with_reducible apply a_neqS); rfl; rfl)
      | ((with_reducible apply a_eqlB); rfl; rfl)
      | ((with_reducible apply a_neqB); rfl; rfl)
      | ((with_reducible apply w_add); rfl; rfl; first | assumption | (unfold inI; omega))
      | ((with_reducible apply w_sub); rfl; rfl; first | assumption | (unfold inI; omega))
      | ((with_reducible apply a_not); rfl)
      | ((with_reducible apply w_pick_t); rfl)
      | ((with_reducible apply w_pick_f); rfl)
      | ((with_reducible apply a_cond1); rfl; first | rfl | assumption)
      | ((with_reducible apply a_cond0); rfl; first | rfl | assumption)
      | ((with_reducible apply a_guard1); rfl; first | rfl | assumption)
      | ((with_reducible apply a_guard0); rfl; first | rfl | assumption)
      | ((with_reducible apply w_guard_u); rfl)
      | ((with_reducible apply a_pick1); rfl; first | rfl | assumption)
      | ((with_reducible apply a_pick0); rfl; first | rfl | assumption)
      | ((with_reducible apply a_pickN); rfl)
      | ((with_reducible apply a_condN); rfl)
      | ((with_reducible apply a_guardN); rfl)
      | ((with_reducible apply w_fad); rfl)
      | ((with_reducible apply a_fadI); rfl)
      | ((with_reducible apply w_load); rfl; rfl; rfl)
      | ((with_reducible apply w_loadI); rfl)
      | ((with_reducible apply w_loadA); rfl; rfl; first | exact Nat.le_refl _ | exact Nat.le_of_ble_eq_true rfl)
      | ((with_reducible apply a_eqA); rfl; rfl; rfl)
      | ((with_reducible apply a_loadAI); rfl; first | rfl | simp)
      | ((with_reducible apply w_new); first | rfl | simp)
      | ((with_reducible apply a_store); rfl; rfl; rfl; rfl; (first | exact Nat.le_refl _ | simp); (first | rfl | simp); (first | rfl | simp))
      | ((with_reducible apply a_lenS); rfl; intro _)
      | ((with_reducible apply a_len); rfl; (first | rfl | simp); intro _)
      | ((with_reducible apply a_build); rfl)
      | ((with_reducible apply a_extr); rfl; rfl)
      | (refine iCall_con (by kernel_rfl) (hG) ?_)
      | (refine iCall_con (by kernel_rfl) (hS) ?_)
      | (refine a_idx (f := encD) rfl rfl rfl hd ?_)
      | ((with_reducible apply a_cond); rfl)
      | ((with_reducible apply a_guard); rfl)
      | (with_reducible intro _))
    all_goals first
      | (refine ⟨k + 1, ⟨by omega, fun i x hi hx => ?_⟩, Wk.le (by simp) (by rw [hacc]; simp), by omega⟩
         rcases Nat.lt_or_ge i k with z | z
         · exact hall i x z hx
         · obtain rfl : i = k := by omega
           rw [hd] at hx; cases hx
           unfold gD; grind)
      | (refine .pure (by simp) ?_
         simp only [nx_zero, nx_one, AV.v.injEq, Value.bool.injEq]
         have hg : gD d = true := by unfold gD; grind
         have := List.mem_of_getElem? hd
         simp at this
         unfold great2
         rcases this with rfl | rfl <;> simp [hg])
  · obtain rfl : k = 2 := by omega
    have g1 := hall 0 a (by omega) rfl
    have g2 := hall 1 b (by omega) rfl
    have q1 : decide (((2 : Nat) : Int) < ((2 : Nat) : Int)) = false := by simp
    repeat' (first
      | (with_reducible apply w_let)
      | (with_reducible apply w_and)
      | (with_reducible refine And.intro True.intro ?_)
      | ((with_reducible apply a_lss); rfl; rfl)
      | ((with_reducible apply a_leq); rfl; rfl)
      | ((with_reducible apply a_gtr); rfl; rfl)
      | ((with_reducible apply a_geq); rfl; rfl)
      | ((with_reducible apply a_eql); rfl; rfl)
      | ((with_reducible apply a_neq); rfl; rfl)
      | ((with_reducible apply a_eqlS); rfl; rfl)
      | ((with_reducible apply a_neqS); rfl; rfl)
      | ((with_reducible apply a_eqlB); rfl; rfl)
      | ((with_reducible apply a_neqB); rfl; rfl)
      | ((with_reducible apply w_add); rfl; rfl; first | assumption | (unfold inI; omega))
      | ((with_reducible apply w_sub); rfl; rfl; first | assumption | (unfold inI; omega))
      | ((with_reducible apply a_not); rfl)
      | ((with_reducible apply w_pick_t); rfl)
      | ((with_reducible apply w_pick_f); rfl)
      | ((with_reducible apply a_cond1); rfl; first | rfl | assumption)
      | ((with_reducible apply a_cond0); rfl; first | rfl | assumption)
      | ((with_reducible apply a_guard1); rfl; first | rfl | assumption)
      | ((with_reducible apply a_guard0); rfl; first | rfl | assumption)
      | ((with_reducible apply w_guard_u); rfl)
      | ((with_reducible apply a_pick1); rfl; first | rfl | assumption)
      | ((with_reducible apply a_pick0); rfl; first | rfl | assumption)
      | ((with_reducible apply a_pickN); rfl)
      | ((with_reducible apply a_condN); rfl)
      | ((with_reducible apply a_guardN); rfl)
      | ((with_reducible apply w_fad); rfl)
      | ((with_reducible apply a_fadI); rfl)
      | ((with_reducible apply w_load); rfl; rfl; rfl)
      | ((with_reducible apply w_loadI); rfl)
      | ((with_reducible apply w_loadA); rfl; rfl; first | exact Nat.le_refl _ | exact Nat.le_of_ble_eq_true rfl)
      | ((with_reducible apply a_eqA); rfl; rfl; rfl)
      | ((with_reducible apply a_loadAI); rfl; first | rfl | simp)
      | ((with_reducible apply w_new); first | rfl | simp)
      | ((with_reducible apply a_store); rfl; rfl; rfl; rfl; (first | exact Nat.le_refl _ | simp); (first | rfl | simp); (first | rfl | simp))
      | ((with_reducible apply a_lenS); rfl; intro _)
      | ((with_reducible apply a_len); rfl; (first | rfl | simp); intro _)
      | ((with_reducible apply a_build); rfl)
      | ((with_reducible apply a_extr); rfl; rfl)
      | ((with_reducible apply a_cond); rfl)
      | ((with_reducible apply a_guard); rfl)
      | (with_reducible intro _))
    all_goals
      refine .pure (by simp) ?_
      simp only [nx_zero, nx_one, AV.v.injEq, Value.bool.injEq, great2, g1, g2, accG] at *
      grind
end Go.Proofs.YtlapkmobmgffoaaDoor
