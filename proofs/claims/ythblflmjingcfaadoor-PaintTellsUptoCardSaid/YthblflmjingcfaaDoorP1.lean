/-
  Histories: checked, searched; by either way. Histories: searched by either way.
  No conditions.
-/
import Derived.Test.YthblflmjingcfaaDoorR1
import Derived.Test.YthblflmjingcfaaDoorWPnt
set_option linter.unusedVariables false
set_option linter.unusedSimpArgs false
section
namespace Go.Proofs.YthblflmjingcfaaDoor
open Go Go.Aw
set_option maxRecDepth 100000
theorem lt32 {n : Nat} (h : (32 : Int) < n) : 32 < n := by omega
theorem le32 {n : Nat} (h : (n : Int) ≤ 32) : ¬ 32 < n := by omega
abbrev lessS := Op.bytesLess
theorem lessS_irr : ∀ a : Str, lessS a a = false
  | [] => rfl
  | x :: a => by
    have := lessS_irr a
    simp only [lessS, Op.bytesLess] at this ⊢
    simp [this]
theorem lessS_trans : ∀ {a b c : Str}, lessS a b = true → lessS b c = true → lessS a c = true
  | [], [], _, h, _ => by simp [lessS, Op.bytesLess] at h
  | [], _ :: _, [], _, h => by simp [lessS, Op.bytesLess] at h
  | [], _ :: _, _ :: _, _, _ => rfl
  | _ :: _, [], _, h, _ => by simp [lessS, Op.bytesLess] at h
  | _ :: _, _ :: _, [], _, h => by simp [lessS, Op.bytesLess] at h
  | x :: a, y :: b, z :: c, h1, h2 => by
    have ih := @lessS_trans a b c
    simp only [lessS, Op.bytesLess, Bool.or_eq_true, Bool.and_eq_true, decide_eq_true_eq, beq_iff_eq] at h1 h2 ih ⊢
    rcases h1 with h1 | ⟨rfl, h1⟩ <;> rcases h2 with h2 | ⟨rfl, h2⟩
    · exact .inl (UInt8.lt_trans h1 h2)
    · exact .inl h1
    · exact .inl h2
    · exact .inr ⟨rfl, ih h1 h2⟩
def okAt (l : List Str) (k : Nat) : Bool := decide ((l.getD k []).length ≤ 64) && (decide (k = 0) || lessS (l.getD (k - 1) []) (l.getD k []))
def histB (l : List Str) : Bool := (List.range l.length).all (okAt l)
def hE (l : List Str) : Int := if 32 < l.length then 4 else if histB l = true then 0 else 8
theorem histB_of {l : List Str} (h : ∀ i, i < l.length → okAt l i = true) : histB l = true := by
  unfold histB
  exact List.all_eq_true.2 fun i hi => h i (by simpa using hi)
theorem histB_not {l : List Str} {i : Nat} (hi : i < l.length) (h : okAt l i = false) : histB l = false := by
  unfold histB
  rw [Bool.eq_false_iff]
  intro q
  rw [List.all_eq_true.1 q i (by simpa using hi)] at h
  cases h
theorem hist_sorted {l : List Str} (h : histB l = true) : ∀ (q p : Nat) (a b : Str), p < q → l[p]? = some a → l[q]? = some b → lessS a b = true := by
  have at' : ∀ k, k < l.length → okAt l k = true := fun k hk => List.all_eq_true.1 h k (by simpa using hk)
  intro q
  induction q with
  | zero => intro p a b hp; omega
  | succ q ih =>
    intro p a b hp ha hb
    have hq := (List.getElem?_eq_some_iff.1 hb).1
    have ho := at' (q + 1) hq
    unfold okAt at ho
    simp only [Bool.and_eq_true, Bool.or_eq_true, decide_eq_true_eq] at ho
    obtain ⟨c, hc⟩ : ∃ c, l[q]? = some c := ⟨l[q]'(by omega), List.getElem?_eq_getElem _⟩
    have hcb : lessS c b = true := by
      rcases ho.2 with h0 | h0
      · omega
      · simpa [List.getD_eq_getElem?_getD, hc, hb] using h0
    rcases Nat.lt_or_ge p q with z | z
    · exact lessS_trans (ih p a c z ha hc) hcb
    · obtain rfl : p = q := by omega
      rw [ha] at hc; cases hc; exact hcb
theorem a_geqS {x y : AV} {a b : List UInt8} {K : AV → Prop} (ex : x = .str a) (ey : y = .str b) (q : K (.v (.bool (!Op.bytesLess a b)))) : iBin .geq x y K := by subst ex; subst ey; exact q
theorem a_lssS {x y : AV} {a b : List UInt8} {K : AV → Prop} (ex : x = .str a) (ey : y = .str b) (q : K (.v (.bool (Op.bytesLess a b)))) : iBin .lss x y K := by subst ex; subst ey; exact q
set_option maxHeartbeats 1000000 in
theorem con_pCheck (l : List Str) (hl : l.length < 2 ^ 40) : Con Tryd.prog 11 [.sl 1 (encSt l)] (int (hE l)) := by
  refine (V11 _).gives (by simp [encSt_pure]) (by simp) ?_
  unfold W11
  refine a_len (n := l.length) rfl (by simp [encSt]) fun _ => ?_
  refine a_gtr rfl rfl ?_
  refine a_cond rfl (fun hc => .pure (by simp) (by unfold hE; rw [if_pos (lt32 (by simpa using hc))])) (fun hc => ?_)
  have h32 : ¬ 32 < l.length := le32 (by simpa using hc)
  refine a_len (n := l.length) rfl (by simp [encSt]) fun _ => ?_
  refine iLoop_of (α := Nat) (fun k => k ≤ l.length ∧ ∀ i, i < k → okAt l i = true) (fun k => [int k]) (fun _ => []) (fun k => l.length - k) 0 ⟨by omega, fun i h => by omega⟩ (Wk.refl _ _ _ (by simp)) ?_
  rintro k ⟨hk, hall⟩
  rcases Nat.lt_or_ge k l.length with q | q
  · obtain ⟨s, hs⟩ : ∃ x, l[k]? = some x := ⟨l[k], List.getElem?_eq_getElem q⟩
    have q1 : decide ((k : Int) < l.length) = true := by simpa using q
    have hin : inI ((k : Int) + 1) := by unfold inI; omega
    have hok : okAt l k = (decide (s.length ≤ 64) && (decide (k = 0) || lessS (l.getD (k - 1) []) s)) := by
      unfold okAt
      rw [List.getD_eq_getElem?_getD (i := k), hs]; rfl
    rcases Nat.eq_zero_or_pos k with hk0 | hk0
    · subst hk0
      repeat' (first | (with_reducible first | apply w_let | apply w_and | refine And.intro True.intro ?_) | ((with_reducible first | apply a_lss | apply a_leq | apply a_gtr | apply a_geq | apply a_eql | apply a_neq); rfl; rfl) | ((with_reducible first | apply a_eqlS | apply a_neqS | apply a_eqlB | apply a_neqB); rfl; rfl) | ((with_reducible apply w_add); rfl; rfl; first | assumption | (unfold inI; omega)) | ((with_reducible apply w_sub); rfl; rfl; first | assumption | (unfold inI; omega)) | ((with_reducible apply a_not); rfl) | ((with_reducible apply w_pick_t); rfl) | ((with_reducible apply w_pick_f); rfl) | ((with_reducible apply a_cond1); rfl; first | rfl | assumption) | ((with_reducible apply a_cond0); rfl; first | rfl | assumption) | ((with_reducible apply a_guard1); rfl; first | rfl | assumption) | ((with_reducible apply a_guard0); rfl; first | rfl | assumption) | ((with_reducible apply w_guard_u); rfl) | ((with_reducible apply a_pick1); rfl; first | rfl | assumption) | ((with_reducible apply a_pick0); rfl; first | rfl | assumption) | ((with_reducible apply a_pickN); rfl) | ((with_reducible apply a_condN); rfl) | ((with_reducible apply a_guardN); rfl) | ((with_reducible apply w_fad); rfl) | ((with_reducible apply a_fadI); rfl) | ((with_reducible apply w_load); rfl; rfl; rfl) | ((with_reducible apply w_loadI); rfl) | ((with_reducible apply w_loadA); rfl; rfl; first | exact Nat.le_refl _ | exact Nat.le_of_ble_eq_true rfl) | ((with_reducible apply a_eqA); rfl; rfl; rfl) | ((with_reducible apply a_loadAI); rfl; first | rfl | simp) | ((with_reducible apply w_new); first | rfl | simp) | ((with_reducible apply a_store); rfl; rfl; rfl; rfl; (first | exact Nat.le_refl _ | simp); (first | rfl | simp); (first | rfl | simp)) | ((with_reducible apply a_lenS); rfl; intro _) | ((with_reducible apply a_len); rfl; (first | rfl | simp); intro _) | ((with_reducible apply a_build); rfl) | ((with_reducible apply a_extr); rfl; rfl) | (refine a_idx (f := fun s => [.str s]) rfl rfl rfl hs ?_) | ((with_reducible apply a_cond); rfl) | ((with_reducible apply a_guard); rfl) | (with_reducible intro _))
      all_goals first
        | (refine .pure (by simp) ?_; unfold hE; rw [if_neg h32, if_neg (by rw [histB_not q (by rw [hok]; grind)]; simp)]; done)
        | (refine ⟨1, ⟨q, fun i hi => ?_⟩, Wk.refl _ _ _ (by simp), by omega⟩
           obtain rfl : i = 0 := by omega
           rw [hok]; grind)
        | (exfalso; grind)
    · obtain ⟨p, hp⟩ : ∃ x, l[k - 1]? = some x := ⟨l[k - 1]'(by omega), List.getElem?_eq_getElem _⟩
      have hsub : inI ((k : Int) - 1) := by unfold inI; omega
      have ek : ((k : Int) - 1) = ((k - 1 : Nat) : Int) := by omega
      have gk : decide ((0 : Int) < k) = true := by simp; omega
      have hok2 : okAt l k = (decide (s.length ≤ 64) && lessS p s) := by
        rw [hok, List.getD_eq_getElem?_getD, hp]
        simp [show k ≠ 0 by omega]
      repeat' (first | (with_reducible first | apply w_let | apply w_and | refine And.intro True.intro ?_) | ((with_reducible first | apply a_lss | apply a_leq | apply a_gtr | apply a_geq | apply a_eql | apply a_neq); rfl; rfl) | ((with_reducible first | apply a_eqlS | apply a_neqS | apply a_eqlB | apply a_neqB); rfl; rfl) | ((with_reducible apply w_add); rfl; rfl; first | assumption | (unfold inI; omega)) | ((with_reducible apply w_sub); rfl; rfl; first | assumption | (unfold inI; omega)) | ((with_reducible apply a_not); rfl) | ((with_reducible apply w_pick_t); rfl) | ((with_reducible apply w_pick_f); rfl) | ((with_reducible apply a_cond1); rfl; first | rfl | assumption) | ((with_reducible apply a_cond0); rfl; first | rfl | assumption) | ((with_reducible apply a_guard1); rfl; first | rfl | assumption) | ((with_reducible apply a_guard0); rfl; first | rfl | assumption) | ((with_reducible apply w_guard_u); rfl) | ((with_reducible apply a_pick1); rfl; first | rfl | assumption) | ((with_reducible apply a_pick0); rfl; first | rfl | assumption) | ((with_reducible apply a_pickN); rfl) | ((with_reducible apply a_condN); rfl) | ((with_reducible apply a_guardN); rfl) | ((with_reducible apply w_fad); rfl) | ((with_reducible apply a_fadI); rfl) | ((with_reducible apply w_load); rfl; rfl; rfl) | ((with_reducible apply w_loadI); rfl) | ((with_reducible apply w_loadA); rfl; rfl; first | exact Nat.le_refl _ | exact Nat.le_of_ble_eq_true rfl) | ((with_reducible apply a_eqA); rfl; rfl; rfl) | ((with_reducible apply a_loadAI); rfl; first | rfl | simp) | ((with_reducible apply w_new); first | rfl | simp) | ((with_reducible apply a_store); rfl; rfl; rfl; rfl; (first | exact Nat.le_refl _ | simp); (first | rfl | simp); (first | rfl | simp)) | ((with_reducible apply a_lenS); rfl; intro _) | ((with_reducible apply a_len); rfl; (first | rfl | simp); intro _) | ((with_reducible apply a_build); rfl) | ((with_reducible apply a_extr); rfl; rfl) | (refine a_idx (f := fun s => [.str s]) rfl rfl rfl hs ?_) | (refine a_idx (f := fun s => [.str s]) rfl rfl (congrArg (fun n => AV.v (.int .i64 n)) ek) hp ?_) | ((with_reducible apply a_geqS); rfl; rfl) | ((with_reducible apply a_cond); rfl) | ((with_reducible apply a_guard); rfl) | (with_reducible intro _))
      all_goals first
        | (refine .pure (by simp) ?_; unfold hE; rw [if_neg h32, if_neg (by rw [histB_not q (by rw [hok2]; grind)]; simp)]; done)
        | (refine ⟨k + 1, ⟨q, fun i hi => ?_⟩, Wk.refl _ _ _ (by simp), by omega⟩
           rcases Nat.lt_or_ge i k with z | z
           · exact hall i z
           · obtain rfl : i = k := by omega
             rw [hok2]; grind)
        | (exfalso; grind)
  · have hk : k = l.length := by omega
    subst hk
    have q1 : decide ((l.length : Int) < l.length) = false := by simp
    repeat' (first | (with_reducible first | apply w_let | apply w_and | refine And.intro True.intro ?_) | ((with_reducible first | apply a_lss | apply a_leq | apply a_gtr | apply a_geq | apply a_eql | apply a_neq); rfl; rfl) | ((with_reducible first | apply a_eqlS | apply a_neqS | apply a_eqlB | apply a_neqB); rfl; rfl) | ((with_reducible apply w_add); rfl; rfl; first | assumption | (unfold inI; omega)) | ((with_reducible apply w_sub); rfl; rfl; first | assumption | (unfold inI; omega)) | ((with_reducible apply a_not); rfl) | ((with_reducible apply w_pick_t); rfl) | ((with_reducible apply w_pick_f); rfl) | ((with_reducible apply a_cond1); rfl; first | rfl | assumption) | ((with_reducible apply a_cond0); rfl; first | rfl | assumption) | ((with_reducible apply a_guard1); rfl; first | rfl | assumption) | ((with_reducible apply a_guard0); rfl; first | rfl | assumption) | ((with_reducible apply w_guard_u); rfl) | ((with_reducible apply a_pick1); rfl; first | rfl | assumption) | ((with_reducible apply a_pick0); rfl; first | rfl | assumption) | ((with_reducible apply a_pickN); rfl) | ((with_reducible apply a_condN); rfl) | ((with_reducible apply a_guardN); rfl) | ((with_reducible apply w_fad); rfl) | ((with_reducible apply a_fadI); rfl) | ((with_reducible apply w_load); rfl; rfl; rfl) | ((with_reducible apply w_loadI); rfl) | ((with_reducible apply w_loadA); rfl; rfl; first | exact Nat.le_refl _ | exact Nat.le_of_ble_eq_true rfl) | ((with_reducible apply a_eqA); rfl; rfl; rfl) | ((with_reducible apply a_loadAI); rfl; first | rfl | simp) | ((with_reducible apply w_new); first | rfl | simp) | ((with_reducible apply a_store); rfl; rfl; rfl; rfl; (first | exact Nat.le_refl _ | simp); (first | rfl | simp); (first | rfl | simp)) | ((with_reducible apply a_lenS); rfl; intro _) | ((with_reducible apply a_len); rfl; (first | rfl | simp); intro _) | ((with_reducible apply a_build); rfl) | ((with_reducible apply a_extr); rfl; rfl) | ((with_reducible apply a_cond); rfl) | ((with_reducible apply a_guard); rfl) | (with_reducible intro _))
    exact .pure (by simp) (by unfold hE; rw [if_neg h32, if_pos (histB_of hall)])
end Go.Proofs.YthblflmjingcfaaDoor
end

section
namespace Go.Proofs.YthblflmjingcfaaDoor
open Go Go.Aw
set_option maxRecDepth 100000
set_option maxHeartbeats 1000000 in
theorem con_rpCheck (l : List Str) (hl : l.length < 2 ^ 40) : Con Tryd.prog 12 [.sl 1 (encSt l)] (int (hE l)) := by
  refine (V12 _).gives (by simp [encSt_pure]) (by simp) ?_
  unfold W12
  refine a_len (n := l.length) rfl (by simp [encSt]) fun _ => ?_
  refine a_gtr rfl rfl ?_
  refine a_cond rfl (fun hc => .pure (by simp) (by unfold hE; rw [if_pos (lt32 (by simpa using hc))])) (fun hc => ?_)
  have h32 : ¬ 32 < l.length := le32 (by simpa using hc)
  refine iLoop_of (α := Nat) (fun k => k ≤ l.length ∧ ∀ i, i < k → okAt l i = true) (fun k => [int k]) (fun _ => []) (fun k => l.length - k) 0 ⟨by omega, fun i h => by omega⟩ (Wk.refl _ _ _ (by simp)) ?_
  rintro k ⟨hk, hall⟩
  refine a_len (n := l.length) rfl (by simp [encSt]) fun _ => ?_
  rcases Nat.lt_or_ge k l.length with q | q
  · obtain ⟨s, hs⟩ : ∃ x, l[k]? = some x := ⟨l[k], List.getElem?_eq_getElem q⟩
    have q1 : decide ((k : Int) < l.length) = true := by simpa using q
    have hin : inI ((k : Int) + 1) := by unfold inI; omega
    have hok : okAt l k = (decide (s.length ≤ 64) && (decide (k = 0) || lessS (l.getD (k - 1) []) s)) := by
      unfold okAt
      rw [List.getD_eq_getElem?_getD (i := k), hs]; rfl
    rcases Nat.eq_zero_or_pos k with hk0 | hk0
    · subst hk0
      repeat' (first | (with_reducible first | apply w_let | apply w_and | refine And.intro True.intro ?_) | ((with_reducible first | apply a_lss | apply a_leq | apply a_gtr | apply a_geq | apply a_eql | apply a_neq); rfl; rfl) | ((with_reducible first | apply a_eqlS | apply a_neqS | apply a_eqlB | apply a_neqB); rfl; rfl) | ((with_reducible apply w_add); rfl; rfl; first | assumption | (unfold inI; omega)) | ((with_reducible apply w_sub); rfl; rfl; first | assumption | (unfold inI; omega)) | ((with_reducible apply a_not); rfl) | ((with_reducible apply w_pick_t); rfl) | ((with_reducible apply w_pick_f); rfl) | ((with_reducible apply a_cond1); rfl; first | rfl | assumption) | ((with_reducible apply a_cond0); rfl; first | rfl | assumption) | ((with_reducible apply a_guard1); rfl; first | rfl | assumption) | ((with_reducible apply a_guard0); rfl; first | rfl | assumption) | ((with_reducible apply w_guard_u); rfl) | ((with_reducible apply a_pick1); rfl; first | rfl | assumption) | ((with_reducible apply a_pick0); rfl; first | rfl | assumption) | ((with_reducible apply a_pickN); rfl) | ((with_reducible apply a_condN); rfl) | ((with_reducible apply a_guardN); rfl) | ((with_reducible apply w_fad); rfl) | ((with_reducible apply a_fadI); rfl) | ((with_reducible apply w_load); rfl; rfl; rfl) | ((with_reducible apply w_loadI); rfl) | ((with_reducible apply w_loadA); rfl; rfl; first | exact Nat.le_refl _ | exact Nat.le_of_ble_eq_true rfl) | ((with_reducible apply a_eqA); rfl; rfl; rfl) | ((with_reducible apply a_loadAI); rfl; first | rfl | simp) | ((with_reducible apply w_new); first | rfl | simp) | ((with_reducible apply a_store); rfl; rfl; rfl; rfl; (first | exact Nat.le_refl _ | simp); (first | rfl | simp); (first | rfl | simp)) | ((with_reducible apply a_lenS); rfl; intro _) | ((with_reducible apply a_len); rfl; (first | rfl | simp); intro _) | ((with_reducible apply a_build); rfl) | ((with_reducible apply a_extr); rfl; rfl) | (refine a_lenSQ rfl ?_) | (refine a_idx (f := fun s => [.str s]) rfl rfl rfl hs ?_) | ((with_reducible apply a_cond); rfl) | ((with_reducible apply a_guard); rfl) | (with_reducible intro _))
      all_goals first
        | (refine .pure (by simp) ?_; unfold hE; rw [if_neg h32, if_neg (by rw [histB_not q (by rw [hok]; grind)]; simp)]; done)
        | (refine ⟨1, ⟨q, fun i hi => ?_⟩, Wk.refl _ _ _ (by simp), by omega⟩
           obtain rfl : i = 0 := by omega
           rw [hok]; grind)
        | (exfalso; grind)
    · obtain ⟨p, hp⟩ : ∃ x, l[k - 1]? = some x := ⟨l[k - 1]'(by omega), List.getElem?_eq_getElem _⟩
      have hsub : inI ((k : Int) - 1) := by unfold inI; omega
      have ek : ((k : Int) - 1) = ((k - 1 : Nat) : Int) := by omega
      have gk : decide ((0 : Int) < k) = true := by simp; omega
      have hok2 : okAt l k = (decide (s.length ≤ 64) && lessS p s) := by
        rw [hok, List.getD_eq_getElem?_getD, hp]
        simp [show k ≠ 0 by omega]
      repeat' (first | (with_reducible first | apply w_let | apply w_and | refine And.intro True.intro ?_) | ((with_reducible first | apply a_lss | apply a_leq | apply a_gtr | apply a_geq | apply a_eql | apply a_neq); rfl; rfl) | ((with_reducible first | apply a_eqlS | apply a_neqS | apply a_eqlB | apply a_neqB); rfl; rfl) | ((with_reducible apply w_add); rfl; rfl; first | assumption | (unfold inI; omega)) | ((with_reducible apply w_sub); rfl; rfl; first | assumption | (unfold inI; omega)) | ((with_reducible apply a_not); rfl) | ((with_reducible apply w_pick_t); rfl) | ((with_reducible apply w_pick_f); rfl) | ((with_reducible apply a_cond1); rfl; first | rfl | assumption) | ((with_reducible apply a_cond0); rfl; first | rfl | assumption) | ((with_reducible apply a_guard1); rfl; first | rfl | assumption) | ((with_reducible apply a_guard0); rfl; first | rfl | assumption) | ((with_reducible apply w_guard_u); rfl) | ((with_reducible apply a_pick1); rfl; first | rfl | assumption) | ((with_reducible apply a_pick0); rfl; first | rfl | assumption) | ((with_reducible apply a_pickN); rfl) | ((with_reducible apply a_condN); rfl) | ((with_reducible apply a_guardN); rfl) | ((with_reducible apply w_fad); rfl) | ((with_reducible apply a_fadI); rfl) | ((with_reducible apply w_load); rfl; rfl; rfl) | ((with_reducible apply w_loadI); rfl) | ((with_reducible apply w_loadA); rfl; rfl; first | exact Nat.le_refl _ | exact Nat.le_of_ble_eq_true rfl) | ((with_reducible apply a_eqA); rfl; rfl; rfl) | ((with_reducible apply a_loadAI); rfl; first | rfl | simp) | ((with_reducible apply w_new); first | rfl | simp) | ((with_reducible apply a_store); rfl; rfl; rfl; rfl; (first | exact Nat.le_refl _ | simp); (first | rfl | simp); (first | rfl | simp)) | ((with_reducible apply a_lenS); rfl; intro _) | ((with_reducible apply a_len); rfl; (first | rfl | simp); intro _) | ((with_reducible apply a_build); rfl) | ((with_reducible apply a_extr); rfl; rfl) | (refine a_lenSQ rfl ?_) | (refine a_idx (f := fun s => [.str s]) rfl rfl rfl hs ?_) | (refine a_idx (f := fun s => [.str s]) rfl rfl (congrArg (fun n => AV.v (.int .i64 n)) ek) hp ?_) | ((with_reducible apply a_geqS); rfl; rfl) | ((with_reducible apply a_cond); rfl) | ((with_reducible apply a_guard); rfl) | (with_reducible intro _))
      all_goals first
        | (refine .pure (by simp) ?_; unfold hE; rw [if_neg h32, if_neg (by rw [histB_not q (by rw [hok2]; grind)]; simp)]; done)
        | (refine ⟨k + 1, ⟨q, fun i hi => ?_⟩, Wk.refl _ _ _ (by simp), by omega⟩
           rcases Nat.lt_or_ge i k with z | z
           · exact hall i z
           · obtain rfl : i = k := by omega
             rw [hok2]; grind)
        | (exfalso; grind)
  · have hk : k = l.length := by omega
    subst hk
    have q1 : decide ((l.length : Int) < l.length) = false := by simp
    repeat' (first | (with_reducible first | apply w_let | apply w_and | refine And.intro True.intro ?_) | ((with_reducible first | apply a_lss | apply a_leq | apply a_gtr | apply a_geq | apply a_eql | apply a_neq); rfl; rfl) | ((with_reducible first | apply a_eqlS | apply a_neqS | apply a_eqlB | apply a_neqB); rfl; rfl) | ((with_reducible apply w_add); rfl; rfl; first | assumption | (unfold inI; omega)) | ((with_reducible apply w_sub); rfl; rfl; first | assumption | (unfold inI; omega)) | ((with_reducible apply a_not); rfl) | ((with_reducible apply w_pick_t); rfl) | ((with_reducible apply w_pick_f); rfl) | ((with_reducible apply a_cond1); rfl; first | rfl | assumption) | ((with_reducible apply a_cond0); rfl; first | rfl | assumption) | ((with_reducible apply a_guard1); rfl; first | rfl | assumption) | ((with_reducible apply a_guard0); rfl; first | rfl | assumption) | ((with_reducible apply w_guard_u); rfl) | ((with_reducible apply a_pick1); rfl; first | rfl | assumption) | ((with_reducible apply a_pick0); rfl; first | rfl | assumption) | ((with_reducible apply a_pickN); rfl) | ((with_reducible apply a_condN); rfl) | ((with_reducible apply a_guardN); rfl) | ((with_reducible apply w_fad); rfl) | ((with_reducible apply a_fadI); rfl) | ((with_reducible apply w_load); rfl; rfl; rfl) | ((with_reducible apply w_loadI); rfl) | ((with_reducible apply w_loadA); rfl; rfl; first | exact Nat.le_refl _ | exact Nat.le_of_ble_eq_true rfl) | ((with_reducible apply a_eqA); rfl; rfl; rfl) | ((with_reducible apply a_loadAI); rfl; first | rfl | simp) | ((with_reducible apply w_new); first | rfl | simp) | ((with_reducible apply a_store); rfl; rfl; rfl; rfl; (first | exact Nat.le_refl _ | simp); (first | rfl | simp); (first | rfl | simp)) | ((with_reducible apply a_lenS); rfl; intro _) | ((with_reducible apply a_len); rfl; (first | rfl | simp); intro _) | ((with_reducible apply a_build); rfl) | ((with_reducible apply a_extr); rfl; rfl) | ((with_reducible apply a_cond); rfl) | ((with_reducible apply a_guard); rfl) | (with_reducible intro _))
    exact .pure (by simp) (by unfold hE; rw [if_neg h32, if_pos (histB_of hall)])
theorem con_rIn (l : List Str) (t : Str) (hl : l.length < 2 ^ 40) : Con Tryd.prog 22 [.sl 1 (encSt l), .str t] (bool (decide (t ∈ l))) := by
  refine (V22 _ _).gives (by simp [encSt_pure]) (by simp) ?_
  unfold W22
  refine iLoop_of (α := Nat) (fun k => k ≤ l.length ∧ t ∉ l.take k) (fun k => [int k]) (fun _ => []) (fun k => l.length - k) 0 (by simp) (Wk.refl _ _ _ (by simp)) ?_
  rintro k ⟨hk, hnot⟩
  refine a_len (n := l.length) rfl (by simp [encSt]) fun _ => ?_
  refine a_lss rfl rfl ?_
  rcases Nat.lt_or_ge k l.length with q | q
  · obtain ⟨s, hs⟩ : ∃ x, l[k]? = some x := ⟨l[k], List.getElem?_eq_getElem q⟩
    refine a_cond1 rfl (by simpa using q) ?_
    refine a_idx (f := fun s => [.str s]) rfl rfl rfl hs ?_
    refine w_loadI rfl ?_
    refine a_eqlS rfl rfl ?_
    refine a_cond rfl (fun hc => ?_) (fun hc => ?_)
    · have hc : s = t := by simpa using hc
      have : t ∈ l := by rw [← hc]; exact List.mem_of_getElem? hs
      exact .pure (by simp) (by simp [this])
    · have hc : s ≠ t := by simpa using hc
      refine w_add rfl rfl (by unfold inI; omega) ?_
      refine w_and ?_
      exact ⟨k + 1, ⟨q, by rw [List.take_add_one, hs]; simp; exact ⟨hnot, fun h => hc h.symm⟩⟩, Wk.refl _ _ _ (by simp), by omega⟩
  · have hk : k = l.length := by omega
    subst hk
    rw [List.take_length] at hnot
    refine a_cond0 rfl (by simp) ?_
    exact .pure (by simp) (by simp [hnot])
theorem con_nanS (s : Str) : Con Tryd.prog 54 [.str s] (bool false) := by
  refine (V54 _).gives (by simp) (by simp) ?_
  unfold W54
  refine a_neqS rfl rfl ?_
  exact .pure (by simp) (by simp)
theorem con_nanS2 (s : Str) : Con Tryd.prog 40 [.str s] (bool false) := by
  refine (V40 _).gives (by simp) (by simp) ?_
  unfold W40
  refine a_neqS rfl rfl ?_
  exact .pure (by simp) (by simp)
theorem con_lessS (a b : Str) : Con Tryd.prog 39 [.str a, .str b] (bool (lessS a b)) := by
  refine (V39 _ _).gives (by simp) (by simp) ?_
  unfold W39
  repeat' (first | (with_reducible first | apply w_let | apply w_and | refine And.intro True.intro ?_) | ((with_reducible first | apply a_lss | apply a_leq | apply a_gtr | apply a_geq | apply a_eql | apply a_neq); rfl; rfl) | ((with_reducible first | apply a_eqlS | apply a_neqS | apply a_eqlB | apply a_neqB); rfl; rfl) | ((with_reducible apply w_add); rfl; rfl; first | assumption | (unfold inI; omega)) | ((with_reducible apply w_sub); rfl; rfl; first | assumption | (unfold inI; omega)) | ((with_reducible apply a_not); rfl) | ((with_reducible apply w_pick_t); rfl) | ((with_reducible apply w_pick_f); rfl) | ((with_reducible apply a_cond1); rfl; first | rfl | assumption) | ((with_reducible apply a_cond0); rfl; first | rfl | assumption) | ((with_reducible apply a_guard1); rfl; first | rfl | assumption) | ((with_reducible apply a_guard0); rfl; first | rfl | assumption) | ((with_reducible apply w_guard_u); rfl) | ((with_reducible apply a_pick1); rfl; first | rfl | assumption) | ((with_reducible apply a_pick0); rfl; first | rfl | assumption) | ((with_reducible apply a_pickN); rfl) | ((with_reducible apply a_condN); rfl) | ((with_reducible apply a_guardN); rfl) | ((with_reducible apply w_fad); rfl) | ((with_reducible apply a_fadI); rfl) | ((with_reducible apply w_load); rfl; rfl; rfl) | ((with_reducible apply w_loadI); rfl) | ((with_reducible apply w_loadA); rfl; rfl; first | exact Nat.le_refl _ | exact Nat.le_of_ble_eq_true rfl) | ((with_reducible apply a_eqA); rfl; rfl; rfl) | ((with_reducible apply a_loadAI); rfl; first | rfl | simp) | ((with_reducible apply w_new); first | rfl | simp) | ((with_reducible apply a_store); rfl; rfl; rfl; rfl; (first | exact Nat.le_refl _ | simp); (first | rfl | simp); (first | rfl | simp)) | ((with_reducible apply a_lenS); rfl; intro _) | ((with_reducible apply a_len); rfl; (first | rfl | simp); intro _) | ((with_reducible apply a_build); rfl) | ((with_reducible apply a_extr); rfl; rfl) | (refine iCall_con (by kernel_rfl) (con_nanS a) ?_) | (refine iCall_con (by kernel_rfl) (con_nanS b) ?_) | ((with_reducible apply a_lssS); rfl; rfl) | ((with_reducible apply a_cond); rfl) | ((with_reducible apply a_guard); rfl) | (with_reducible intro _))
  all_goals exact .pure (by simp) rfl
theorem wrap_half {n : Int} (h0 : 0 ≤ n) (h : n < 2 ^ 62) : IntKind.u64.wrap n = n := by
  simp [IntKind.wrap, IntKind.bits, IntKind.signed]; omega
/-- How many stand before. -/
def before (l : List Str) (t : Str) : Nat := l.countP fun s => lessS s t
theorem before_eq {l : List Str} {t : Str} {i : Nat} (hi : i ≤ l.length) (h1 : ∀ p a, p < i → l[p]? = some a → lessS a t = true) (h2 : ∀ p a, i ≤ p → l[p]? = some a → lessS a t = false) : before l t = i := by
  have e := List.countP_append (p := fun s => lessS s t) (l₁ := l.take i) (l₂ := l.drop i)
  rw [List.take_append_drop] at e
  unfold before
  rw [e]
  have a1 : (l.take i).countP (fun s => lessS s t) = (l.take i).length := by
    rw [List.countP_eq_length]
    intro x hx
    obtain ⟨p, hp⟩ := List.mem_iff_getElem?.1 hx
    rw [List.getElem?_take] at hp
    split at hp
    · exact h1 p x (by assumption) hp
    · cases hp
  have a2 : (l.drop i).countP (fun s => lessS s t) = 0 := by
    rw [List.countP_eq_zero]
    intro x hx
    obtain ⟨p, hp⟩ := List.mem_iff_getElem?.1 hx
    rw [List.getElem?_drop] at hp
    rw [h2 (i + p) x (by omega) hp]; simp
  rw [a1, a2, List.length_take]
  omega
set_option maxHeartbeats 2000000 in
theorem con_bsearch (l : List Str) (t : Str) (hl : l.length < 2 ^ 40) (hs : histB l = true) : Con Tryd.prog 21 [.sl 1 (encSt l), .str t] (.tup [int (before l t), bool (decide (t ∈ l))]) := by
  refine (V21 _ _).gives (by simp [encSt_pure]) (by simp) ?_
  unfold W21
  have srt := hist_sorted hs
  refine a_len (n := l.length) rfl (by simp [encSt]) fun _ => ?_
  refine iLoop_of (α := Nat × Nat) (fun x => x.1 ≤ x.2 ∧ x.2 ≤ l.length ∧ (∀ p a, p < x.1 → l[p]? = some a → lessS a t = true) ∧ (∀ p a, x.2 ≤ p → l[p]? = some a → lessS a t = false)) (fun x => [int x.1, int x.2]) (fun _ => []) (fun x => x.2 - x.1) (0, l.length) ⟨by simp, by simp, fun p a h => by simp at h, fun p a h e => by have := (List.getElem?_eq_some_iff.1 e).1; simp at h; omega⟩ (Wk.refl _ _ _ (by simp)) ?_
  rintro ⟨i, j⟩ ⟨hij, hj, hlo, hhi⟩
  simp only at hij hj hlo hhi
  refine a_lss rfl rfl ?_
  rcases Nat.lt_or_ge i j with q | q
  · have hsum : inI ((i : Int) + j) := by unfold inI; omega
    have w1 : IntKind.u64.wrap ((i : Int) + j) = (i : Int) + j := wrap_half (by omega) (by omega)
    have eh : (((i : Int) + j).fdiv (2 ^ (min (1 : Int).toNat IntKind.u64.bits))) = (((i + j) / 2 : Nat) : Int) := by
      have : min (1 : Int).toNat IntKind.u64.bits = 1 := rfl
      rw [this]
      simp [Int.fdiv_eq_ediv_of_nonneg]
    have w2 : IntKind.i64.wrap ((((i + j) / 2 : Nat) : Int)) = (((i + j) / 2 : Nat) : Int) := by rw [IntKind.wrap_i64]; omega
    obtain ⟨m, hm⟩ : ∃ m, (i + j) / 2 = m := ⟨_, rfl⟩
    rw [hm] at eh w2
    have m1 : i ≤ m := by omega
    have m2 : m < j := by omega
    obtain ⟨s, hsm⟩ : ∃ x, l[m]? = some x := ⟨l[m]'(by omega), List.getElem?_eq_getElem _⟩
    refine a_cond1 rfl (by simpa using q) ?_
    refine w_add rfl rfl hsum ?_
    refine ⟨_, _, rfl, ?_⟩
    rw [w1]
    refine ⟨by omega, ?_⟩
    simp only
    rw [eh]
    refine ⟨_, _, rfl, ?_⟩
    rw [w2]
    refine a_idx (f := fun s => [.str s]) rfl rfl rfl hsm ?_
    refine w_loadI rfl ?_
    refine w_call rfl (by kernel_rfl) (con_lessS s t) ?_
    refine a_cond rfl (fun hc => ?_) (fun hc => ?_)
    · refine w_add rfl rfl (by unfold inI; omega) ?_
      refine ⟨trivial, ?_⟩
      refine ⟨(m + 1, j), ⟨by show m + 1 ≤ j; omega, hj, fun p a hp ha => ?_, hhi⟩, Wk.refl _ _ _ (by simp), by show j - (m + 1) < j - i; omega⟩
      have hp : p < m + 1 := hp
      rcases Nat.lt_or_ge p m with z | z
      · exact lessS_trans (srt m p a s z ha hsm) hc
      · obtain rfl : p = m := by omega
        rw [hsm] at ha; cases ha; exact hc
    · refine ⟨trivial, ?_⟩
      refine ⟨(i, m), ⟨m1, by show m ≤ l.length; omega, hlo, fun p a hp ha => ?_⟩, Wk.refl _ _ _ (by simp), by show m - i < j - i; omega⟩
      have hp : m ≤ p := hp
      rcases Nat.lt_or_ge m p with z | z
      · cases hh : lessS a t with
        | false => rfl
        | true =>
          have := lessS_trans (srt p m s a z hsm ha) hh
          rw [hc] at this; cases this
      · obtain rfl : p = m := by omega
        rw [hsm] at ha; cases ha; exact hc
  · obtain rfl : i = j := by omega
    have eb : before l t = i := before_eq hj hlo hhi
    rw [eb]
    have hmem : t ∈ l ↔ l[i]? = some t := by
      constructor
      · intro h
        obtain ⟨p, hp⟩ := List.mem_iff_getElem?.1 h
        rcases Nat.lt_trichotomy p i with z | z | z
        · have := hlo p t z hp
          rw [lessS_irr] at this; cases this
        · subst z; exact hp
        · have hp' := (List.getElem?_eq_some_iff.1 hp).1
          obtain ⟨a, ha⟩ : ∃ x, l[i]? = some x := ⟨l[i]'(by omega), List.getElem?_eq_getElem _⟩
          have h1 := srt p i a t z ha hp
          rw [hhi i a (Nat.le_refl _) ha] at h1; cases h1
      · intro h; exact List.mem_of_getElem? h
    refine a_cond0 rfl (by simp) ?_
    refine a_lss rfl rfl ?_
    rcases Nat.lt_or_ge i l.length with z | z
    · obtain ⟨a, ha⟩ : ∃ x, l[i]? = some x := ⟨l[i], List.getElem?_eq_getElem z⟩
      have z1 : decide ((i : Int) < l.length) = true := by simpa using z
      rw [ha] at hmem
      simp only [Option.some.injEq] at hmem
      repeat' (first | (with_reducible first | apply w_let | apply w_and | refine And.intro True.intro ?_) | ((with_reducible first | apply a_lss | apply a_leq | apply a_gtr | apply a_geq | apply a_eql | apply a_neq); rfl; rfl) | ((with_reducible first | apply a_eqlS | apply a_neqS | apply a_eqlB | apply a_neqB); rfl; rfl) | ((with_reducible apply w_add); rfl; rfl; first | assumption | (unfold inI; omega)) | ((with_reducible apply w_sub); rfl; rfl; first | assumption | (unfold inI; omega)) | ((with_reducible apply a_not); rfl) | ((with_reducible apply w_pick_t); rfl) | ((with_reducible apply w_pick_f); rfl) | ((with_reducible apply a_cond1); rfl; first | rfl | assumption) | ((with_reducible apply a_cond0); rfl; first | rfl | assumption) | ((with_reducible apply a_guard1); rfl; first | rfl | assumption) | ((with_reducible apply a_guard0); rfl; first | rfl | assumption) | ((with_reducible apply w_guard_u); rfl) | ((with_reducible apply a_pick1); rfl; first | rfl | assumption) | ((with_reducible apply a_pick0); rfl; first | rfl | assumption) | ((with_reducible apply a_pickN); rfl) | ((with_reducible apply a_condN); rfl) | ((with_reducible apply a_guardN); rfl) | ((with_reducible apply w_fad); rfl) | ((with_reducible apply a_fadI); rfl) | ((with_reducible apply w_load); rfl; rfl; rfl) | ((with_reducible apply w_loadI); rfl) | ((with_reducible apply w_loadA); rfl; rfl; first | exact Nat.le_refl _ | exact Nat.le_of_ble_eq_true rfl) | ((with_reducible apply a_eqA); rfl; rfl; rfl) | ((with_reducible apply a_loadAI); rfl; first | rfl | simp) | ((with_reducible apply w_new); first | rfl | simp) | ((with_reducible apply a_store); rfl; rfl; rfl; rfl; (first | exact Nat.le_refl _ | simp); (first | rfl | simp); (first | rfl | simp)) | ((with_reducible apply a_lenS); rfl; intro _) | ((with_reducible apply a_len); rfl; (first | rfl | simp); intro _) | ((with_reducible apply a_build); rfl) | ((with_reducible apply a_extr); rfl; rfl) | (refine iCall_con (by kernel_rfl) (con_nanS2 a) ?_) | (refine iCall_con (by kernel_rfl) (con_nanS2 t) ?_) | (refine a_idx (f := fun s => [.str s]) rfl rfl rfl ha ?_) | ((with_reducible apply a_cond); rfl) | ((with_reducible apply a_guard); rfl) | (with_reducible intro _))
      all_goals
        refine .pure (by simp) ?_
        simp_all
    · have z1 : decide ((i : Int) < l.length) = false := by simpa using z
      rw [List.getElem?_eq_none z] at hmem
      repeat' (first | (with_reducible first | apply w_let | apply w_and | refine And.intro True.intro ?_) | ((with_reducible first | apply a_lss | apply a_leq | apply a_gtr | apply a_geq | apply a_eql | apply a_neq); rfl; rfl) | ((with_reducible first | apply a_eqlS | apply a_neqS | apply a_eqlB | apply a_neqB); rfl; rfl) | ((with_reducible apply w_add); rfl; rfl; first | assumption | (unfold inI; omega)) | ((with_reducible apply w_sub); rfl; rfl; first | assumption | (unfold inI; omega)) | ((with_reducible apply a_not); rfl) | ((with_reducible apply w_pick_t); rfl) | ((with_reducible apply w_pick_f); rfl) | ((with_reducible apply a_cond1); rfl; first | rfl | assumption) | ((with_reducible apply a_cond0); rfl; first | rfl | assumption) | ((with_reducible apply a_guard1); rfl; first | rfl | assumption) | ((with_reducible apply a_guard0); rfl; first | rfl | assumption) | ((with_reducible apply w_guard_u); rfl) | ((with_reducible apply a_pick1); rfl; first | rfl | assumption) | ((with_reducible apply a_pick0); rfl; first | rfl | assumption) | ((with_reducible apply a_pickN); rfl) | ((with_reducible apply a_condN); rfl) | ((with_reducible apply a_guardN); rfl) | ((with_reducible apply w_fad); rfl) | ((with_reducible apply a_fadI); rfl) | ((with_reducible apply w_load); rfl; rfl; rfl) | ((with_reducible apply w_loadI); rfl) | ((with_reducible apply w_loadA); rfl; rfl; first | exact Nat.le_refl _ | exact Nat.le_of_ble_eq_true rfl) | ((with_reducible apply a_eqA); rfl; rfl; rfl) | ((with_reducible apply a_loadAI); rfl; first | rfl | simp) | ((with_reducible apply w_new); first | rfl | simp) | ((with_reducible apply a_store); rfl; rfl; rfl; rfl; (first | exact Nat.le_refl _ | simp); (first | rfl | simp); (first | rfl | simp)) | ((with_reducible apply a_lenS); rfl; intro _) | ((with_reducible apply a_len); rfl; (first | rfl | simp); intro _) | ((with_reducible apply a_build); rfl) | ((with_reducible apply a_extr); rfl; rfl) | (refine iCall_con (by kernel_rfl) (con_nanS2 t) ?_) | ((with_reducible apply a_cond); rfl) | ((with_reducible apply a_guard); rfl) | (with_reducible intro _))
      all_goals
        refine .pure (by simp) ?_
        simp_all
def wasV (l : List Str) (t : Str) : AV := if hE l = 0 then .tup [bool (decide (t ∈ l)), int 0] else .tup [ff, int (hE l)]
theorem wasV_pure (l : List Str) (t : Str) : Aw.Pure (wasV l t) := by unfold wasV; split <;> simp
theorem con_Was (l : List Str) (t : Str) (hl : l.length < 2 ^ 40) : Con Tryd.prog 7 [.sl 1 (encSt l), .str t] (wasV l t) := by
  refine (V7 _ _).gives (by simp [encSt_pure]) (wasV_pure l t) ?_
  unfold W7
  refine w_call rfl (by kernel_rfl) (con_pCheck l hl) ?_
  refine a_neq rfl rfl ?_
  unfold wasV
  by_cases h : hE l = 0
  · have hs : histB l = true := by
      unfold hE at h
      split at h
      · cases h
      · split at h
        · assumption
        · cases h
    refine a_cond0 rfl (by simp [h]) ?_
    refine w_call rfl (by kernel_rfl) (con_bsearch l t hl hs) ?_
    refine a_extr rfl rfl ?_
    refine a_extr rfl rfl ?_
    exact .pure (by simp) (by rw [if_pos h])
  · refine a_cond1 rfl (by simp [h]) ?_
    exact .pure (by simp) (by rw [if_neg h])
theorem con_rWas (l : List Str) (t : Str) (hl : l.length < 2 ^ 40) : Con Tryd.prog 8 [.sl 1 (encSt l), .str t] (wasV l t) := by
  refine (V8 _ _).gives (by simp [encSt_pure]) (wasV_pure l t) ?_
  unfold W8
  refine w_call rfl (by kernel_rfl) (con_rpCheck l hl) ?_
  refine a_neq rfl rfl ?_
  unfold wasV
  by_cases h : hE l = 0
  · refine a_cond0 rfl (by simp [h]) ?_
    refine w_call rfl (by kernel_rfl) (con_rIn l t hl) ?_
    exact .pure (by simp) (by rw [if_pos h])
  · refine a_cond1 rfl (by simp [h]) ?_
    exact .pure (by simp) (by rw [if_neg h])
end Go.Proofs.YthblflmjingcfaaDoor
end
