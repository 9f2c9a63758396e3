/-
  Sorting in place, whole; copies; a list sorted. A list sorted; its winner; values and declarations held against each other. Lists of declarations that are not great. Values and declarations held against each other. The reference's order of places, and what it says of lists. The reference's sorted lists and winners; copies; sorting by either way: the law.
  No conditions.
-/
import Derived.Test.YtmbpiloibhbmbaaDoorS1
import Derived.Test.YtmbpiloibhbmbaaDoorR2
import Derived.Test.YtmbpiloibhbmbaaDoorWPlc
set_option linter.unusedVariables false
set_option linter.unusedSimpArgs false
section
namespace Go.Proofs.YtmbpiloibhbmbaaDoor
open Go Go.Aw Go.Nst Go.Stb
set_option maxRecDepth 1000000
theorem w_mulI {x y : AV} {a b c : Int} {K : AV → Prop} (ex : x = int a) (ey : y = int b) (hc : a * b = c) (i : inI c) (q : K (int c)) : iBin .mul x y K := by subst ex; subst ey; subst hc; simpa using ⟨i, q⟩
theorem w_addE {x y : AV} {a b c : Int} {K : AV → Prop} (ex : x = int a) (ey : y = int b) (hc : a + b = c) (i : inI c) (q : K (int c)) : iBin .add x y K := by subst hc; exact w_add ex ey i q
def stX (D : List Dc) : Nat → List Dc
  | 0 => D
  | 1 => stab ltD (D.take 20) ++ D.drop 20
  | _ => stab ltD (D.take 20) ++ stab ltD (D.drop 20)
theorem stab_nilD : stab ltD ([] : List Dc) = [] := rfl
theorem stX_two {D : List Dc} (h : D.length ≤ 20) : stX D 2 = stab ltD D := by
  rw [stX, List.take_of_length_le h, List.drop_of_length_le h, stab_nilD, List.append_nil]
  all_goals simp
set_option maxHeartbeats 2000000 in
theorem acc_stable {h : Heap} {id : Nat} (hid : id < h.length) (t : TypeId) (D : List Dc) (hok : ∀ d ∈ D, okD d = true) (n : Nat) (hn : n = D.length) (h40 : n ≤ 40) :
    ACall Tryd.prog 25 [.own id 0 n 11, int n, cmpF] (h.set id (blkD t D)) fun r hh => r = .tup [] ∧ hh = h.set id (blkD t (stab ltD D)) := by
  have ok1 : ∀ d ∈ D.take 20, okD d = true := fun d hd => hok d (List.mem_of_mem_take hd)
  have ok2 : ∀ d ∈ D.drop 20, okD d = true := fun d hd => hok d (List.mem_of_mem_drop hd)
  have l1 : (stab ltD (D.take 20)).length = min 20 n := by rw [stab_len, List.length_take, hn]
  have l2 : (D.drop 20).length = n - 20 := by rw [List.length_drop, hn]
  have l1' : (D.take 20).length = min 20 n := by rw [List.length_take, hn]
  have n40 : n < 2 ^ 40 := by omega
  have eD : D = [] ++ (D.take 20 ++ D.drop 20) := by simp
  refine (V25 _ _ _).acall ?_
  unfold W25
  refine iLoop_of (α := Nat) (fun k => 20 * k ≤ n) (fun k => [int ((20 * k : Nat) : Int), int ((20 * k + 20 : Nat) : Int)]) (fun k => h.set id (blkD t (stX D k))) (fun k => n - 20 * k) 0 (by omega) (Wk.refl _ _ _ (by simp)) ?_
  intro k hk
  refine a_leq rfl rfl ?_
  by_cases q : 20 * k + 20 ≤ n
  · refine a_cond1 rfl (by simp; omega) ?_
    obtain rfl | rfl : k = 0 ∨ k = 1 := by omega
    · refine k_call (by kernel_rfl) rfl (by
        rw [show stX D 0 = [] ++ (D.take 20 ++ D.drop 20) from eD]
        exact acc_insSort hid t [] (D.take 20) (D.drop 20) ok1 n (20 * 0) (20 * 0 + 20) (by rw [← eD, hn]) rfl (by rw [l1']; simp; omega) n40) ?_
      rintro _ _ ⟨rfl, rfl⟩
      refine w_addE (c := ((20 * 1 + 20 : Nat) : Int)) rfl rfl (by omega) (by unfold inI; omega) ?_
      refine w_and ?_
      exact ⟨1, by omega, wk_D (by simp) rfl rfl, by omega⟩
    · refine k_call (by kernel_rfl) rfl (by
        rw [show stX D 1 = stab ltD (D.take 20) ++ (D.drop 20 ++ []) by simp [stX]]
        exact acc_insSort hid t (stab ltD (D.take 20)) (D.drop 20) [] ok2 n (20 * 1) (20 * 1 + 20) (by simp only [List.length_append, List.length_nil]; omega) (by omega) (by omega) n40) ?_
      rintro _ _ ⟨rfl, rfl⟩
      refine w_addE (c := ((20 * 2 + 20 : Nat) : Int)) rfl rfl (by omega) (by unfold inI; omega) ?_
      refine w_and ?_
      exact ⟨2, by omega, wk_D (by simp) rfl (by simp [stX]), by omega⟩
  · refine a_cond0 rfl (by simp; omega) ?_
    have hcall : ACall Tryd.prog 36 [.own id 0 n 11, int ((20 * k : Nat) : Int), int n, cmpF] (h.set id (blkD t (stX D k))) fun r hh => r = .tup [] ∧ hh = h.set id (blkD t (stX D 2)) := by
      obtain rfl | rfl | rfl : k = 0 ∨ k = 1 ∨ k = 2 := by omega
      · have := acc_insSort hid t [] D [] hok n (20 * 0) n (by simp [hn]) rfl (by simp [hn]) n40
        rw [stX_two (by omega)]
        simpa [stX] using this
      · have := acc_insSort hid t (stab ltD (D.take 20)) (D.drop 20) [] ok2 n (20 * 1) n (by simp only [List.length_append, List.length_nil]; omega) (by omega) (by omega) n40
        simpa [stX] using this
      · have := acc_insSort hid t (stX D 2) [] [] (by simp) n (20 * 2) n (by simp [stX, stab_len]; omega) (by simp [stX, stab_len]; omega) (by simp [stX, stab_len]; omega) n40
        simpa [stab_nilD] using this
    refine k_call (by kernel_rfl) rfl hcall ?_
    rintro _ _ ⟨rfl, rfl⟩
    have hm : n > 20 → mrg ltD (stab ltD (D.take 20)) (stab ltD (D.drop 20)) = stab ltD D := fun _ => by rw [mrg_stab ltD_wk, List.take_append_drop]
    have hsym : n > 20 → ACall Tryd.prog 37 [.own id 0 n 11, int ((0 : Nat) : Int), int ((20 : Nat) : Int), int n, cmpF] (h.set id (blkD t (stX D 2))) fun r hh => r = .tup [] ∧ hh = h.set id (blkD t (stab ltD D)) := fun q => by
      have := acc_sym hid t n n40 40 [] (stab ltD (D.take 20)) (stab ltD (D.drop 20)) [] 0 20 n (by rw [l1, stab_len, l2]; omega) (by omega) (by rw [stab_len]; omega) (stab_srt ltD_wk _) (stab_srt ltD_wk _)
        (fun d hd => ok1 d ((stab_perm _).mem_iff.1 hd)) (fun d hd => ok2 d ((stab_perm _).mem_iff.1 hd)) rfl (by rw [l1]; simp; omega) (by rw [l1, stab_len, l2]; simp; omega) (by simp only [List.length_append, List.length_nil, stab_len]; omega)
      rw [hm q] at this
      simpa [stX] using this
    refine iLoop_of (α := Nat) (fun k => k ≤ 1) (fun k => [int ((20 * (k + 1) : Nat) : Int)]) (fun k => h.set id (blkD t (if k = 0 then stX D 2 else stab ltD D))) (fun k => 1 - k) 0 (by omega) (wk_D (by simp) rfl (by simp)) ?_
    intro k hk
    refine a_lss rfl rfl ?_
    by_cases q : 20 * (k + 1) < n
    · obtain rfl : k = 0 := by omega
      have q : n > 20 := by omega
      rw [if_pos rfl]
      refine a_cond1 rfl (by simp; omega) ?_
      refine w_mulI (c := ((40 : Nat) : Int)) rfl rfl (by omega) (by unfold inI; omega) ?_
      refine iLoop_of (α := Nat) (fun k => k = 0 ∨ k = 1 ∧ n = 40) (fun k => [int ((40 * k : Nat) : Int), int ((40 * k + 40 : Nat) : Int)]) (fun k => h.set id (blkD t (if k = 0 then stX D 2 else stab ltD D))) (fun k => 1 - k) 0 (.inl rfl) (wk_D (by simp) rfl (by simp)) ?_
      intro k hk
      refine a_leq rfl rfl ?_
      obtain rfl | ⟨rfl, rfl⟩ := hk
      · rw [if_pos rfl]
        by_cases q4 : n = 40
        · refine a_cond1 rfl (by simp; omega) ?_
          refine w_addE (c := ((20 : Nat) : Int)) rfl rfl (by omega) (by unfold inI; omega) ?_
          refine k_call (by kernel_rfl) (by rw [q4]; rfl) (hsym q) ?_
          rintro _ _ ⟨rfl, rfl⟩
          refine w_mulI (c := ((40 : Nat) : Int)) rfl rfl (by omega) (by unfold inI; omega) ?_
          refine w_addE (c := ((80 : Nat) : Int)) rfl rfl (by omega) (by unfold inI; omega) ?_
          refine w_and ?_
          exact ⟨1, .inr ⟨rfl, q4⟩, wk_D (by simp) rfl (by simp), by omega⟩
        · refine a_cond0 rfl (by simp; omega) ?_
          refine w_let ?_
          refine w_addE (c := ((20 : Nat) : Int)) rfl rfl (by omega) (by unfold inI; omega) ?_
          refine a_lss rfl rfl ?_
          refine a_cond1 rfl (by simp; omega) ?_
          refine k_call (by kernel_rfl) rfl (hsym q) ?_
          rintro _ _ ⟨rfl, rfl⟩
          refine w_and ?_
          refine w_mulI (c := ((40 : Nat) : Int)) rfl rfl (by omega) (by unfold inI; omega) ?_
          refine w_and ?_
          exact ⟨1, by omega, wk_D (by simp) rfl (by simp), by omega⟩
      · rw [if_neg (by omega)]
        refine a_cond0 rfl (by simp) ?_
        refine w_let ?_
        refine w_addE (c := ((60 : Nat) : Int)) rfl rfl (by omega) (by unfold inI; omega) ?_
        refine a_lss rfl rfl ?_
        refine a_cond0 rfl (by simp) ?_
        refine w_and ?_
        refine w_mulI (c := ((40 : Nat) : Int)) rfl rfl (by omega) (by unfold inI; omega) ?_
        refine w_and ?_
        exact ⟨1, by omega, wk_D (by simp) rfl (by simp), by omega⟩
    · refine a_cond0 rfl (by simp; omega) ?_
      refine ⟨_, _, Wk.refl _ _ _ (by simp), rfl, ?_⟩
      split
      · rename_i e; subst e; rw [stX_two (by omega)]
      · rfl
theorem acc_sortSt {h : Heap} {id : Nat} (hid : id < h.length) (t : TypeId) (D : List Dc) (hok : ∀ d ∈ D, okD d = true) (n : Nat) (hn : n = D.length) (h40 : n ≤ 40) :
    ACall Tryd.prog 17 [.own id 0 n 11, cmpF] (h.set id (blkD t D)) fun r hh => r = .tup [] ∧ hh = h.set id (blkD t (stab ltD D)) := by
  refine (V17 _ _).acall ?_
  unfold W17
  rw [iLen_o]
  intro _
  refine k_call (by kernel_rfl) rfl (acc_stable hid t D hok n hn h40) ?_
  rintro _ _ ⟨rfl, rfl⟩
  exact ⟨_, _, Wk.refl _ _ _ (by simp), rfl, rfl⟩
/-! ### Nothing, sorted -/
theorem con_ins0 : Con Tryd.prog 36 [.sl 11 [], int 0, int 0, cmpF] (.tup []) := by
  refine (V36 _ _ _ _).gives (by simp) (by simp) ?_
  unfold W36
  refine w_add rfl rfl (by unfold inI; omega) ?_
  refine iLoop_of (α := Unit) (fun _ => True) (fun _ => [int 1]) (fun _ => []) (fun _ => 0) () trivial (Wk.refl _ _ _ (by simp)) ?_
  intro _ _
  refine a_lss rfl rfl ?_
  refine a_cond0 rfl (by simp) ?_
  exact .pure (by simp) rfl
theorem con_stab0 : Con Tryd.prog 25 [.sl 11 [], int 0, cmpF] (.tup []) := by
  refine (V25 _ _ _).gives (by simp) (by simp) ?_
  unfold W25
  refine iLoop_of (α := Unit) (fun _ => True) (fun _ => [int 0, int 20]) (fun _ => []) (fun _ => 0) () trivial (Wk.refl _ _ _ (by simp)) ?_
  intro _ _
  refine a_leq rfl rfl ?_
  refine a_cond0 rfl (by simp) ?_
  refine w_call rfl (by kernel_rfl) con_ins0 ?_
  refine iLoop_of (α := Unit) (fun _ => True) (fun _ => [int 20]) (fun _ => []) (fun _ => 0) () trivial (Wk.refl _ _ _ (by simp)) ?_
  intro _ _
  refine a_lss rfl rfl ?_
  refine a_cond0 rfl (by simp) ?_
  exact .pure (by simp) rfl
theorem con_sortSt0 : Con Tryd.prog 17 [.sl 11 [], cmpF] (.tup []) := by
  refine (V17 _ _).gives (by simp) (by simp) ?_
  unfold W17
  refine a_len (n := 0) rfl rfl fun _ => ?_
  refine w_call rfl (by kernel_rfl) con_stab0 ?_
  exact .pure (by simp) rfl
/-! ### Copies of values -/
def ClP (n : Nat) : Prop := ∀ (l : List Vl), zVs l ≤ n → Con Tryd.prog 16 [.sl 6 (encVs l)] (.sl 6 (encVs l))
theorem encVs_snoc {l : List Vl} {k : Nat} {x : Vl} (h : l[k]? = some x) : encVs (l.take (k + 1)) = encVs (l.take k) ++ [encV x] := by
  rw [encVs_map, encVs_map, List.take_add_one, h]; simp
theorem cl_step {n : Nat} (hn : n < 2 ^ 39) (hP : ∀ n', n' < n → ClP n') : ClP n := by
  intro l hz
  refine (V16 _).gives (by simp [pureVs]) (by rw [Aw.Pure]; exact pureVs l) ?_
  unfold W16
  have hlen : (encVs l).length = l.length := by simp [encVs_map]
  have hll := zVs_len l
  refine a_len (n := l.length) rfl hlen fun _ => ?_
  refine iLoop_of (α := Nat) (fun k => k ≤ l.length) (fun k => [.sb 0 6 (encVs (l.take k)), int k]) (fun k => [.tok 57 6 k]) (fun k => l.length - k) 0 (by simp) ?_ ?_
  · have a := Wk.nil (n := 0) (s := [.v (.slice none 0 0), int 0]) (h := []) (by simp) 0 rfl
    have b := Wk.tok (n := 0) (s := [.emp, int 0]) (h := []) (by simp) 0 57 6 rfl
    simpa [encVs] using a.trans b
  intro k hk
  refine a_lss rfl rfl ?_
  rcases Nat.lt_or_ge k l.length with q | q
  · obtain ⟨x, hx⟩ : ∃ x, l[k]? = some x := ⟨l[k], List.getElem?_eq_getElem q⟩
    have hzv := zVs_mem (List.mem_of_getElem? hx)
    have d1 := encVs_snoc hx
    have pr := pureVs (l.take (k + 1))
    obtain ⟨kd, tx, nu, un', fl, l2⟩ := x
    rw [zV] at hzv
    have hrec := hP (zVs l2) (by omega) l2 (Nat.le_refl _)
    obtain ⟨R, hR⟩ : ∃ R, encVs (l.take k) = R := ⟨_, rfl⟩
    have hRl : R.length = k := by rw [← hR, encVs_map, List.length_map, List.length_take]; omega
    rw [hR] at d1 ⊢
    refine a_cond1 rfl (by simpa using q) ?_
    refine a_idx (f := encV) rfl (encVs_map l) rfl hx ?_
    rw [encV] at d1 ⊢
    refine a_loadAI rfl rfl ?_
    refine n_new (n := 1) (h' := [_, _]) rfl rfl rfl rfl ?_
    refine n_store (h' := [_, _]) (id := 1) (o := 0) (cs := [u1 kd, .str tx, int nu, .str un', bool fl, .sl 6 (encVs l2)]) rfl rfl rfl rfl (Nat.le_refl _) rfl rfl rfl ?_
    refine w_fad rfl ?_
    refine w_loadA (id := 1) rfl rfl (by show 5 ≤ 6; decide) ?_
    refine w_fad rfl ?_
    refine w_load (id := 1) rfl rfl rfl ?_
    refine w_callQ rfl (by kernel_rfl) hrec ?_
    refine a_build (cs := [u1 kd, .str tx, int nu, .str un', bool fl, .sl 6 (encVs l2)]) rfl ?_
    refine a_mkSlP (cs := [u1 kd, .str tx, int nu, .str un', bool fl, .sl 6 (encVs l2)]) rfl ?_
    refine n_appB (h' := [_, _]) (id := 0) (k := k) (base := R) (rows := [[u1 kd, .str tx, int nu, .str un', bool fl, .sl 6 (encVs l2)]]) rfl rfl hRl.symm srcR_sl rfl (by unfold roomA maxLen; simp; omega) rfl ?_
    refine w_add rfl rfl (by unfold inI; omega) ?_
    refine w_and ?_
    refine ⟨k + 1, q, ?_, by omega⟩
    rw [d1] at pr ⊢
    exact Wk.back (n := 0) (M := 1) (by simp) (by simp) rfl rfl (by simp [entB]) (by
      have hb := Bd_pure 1 (.sl 6 (R ++ [[u1 kd, .str tx, int nu, .str un', bool fl, .sl 6 (encVs l2)]])) (by rw [Aw.Pure]; exact pr)
      rw [Bd] at hb
      simp [Bd, hb])
  · obtain rfl : k = l.length := by omega
    rw [List.take_length]
    refine a_cond0 rfl (by simp) ?_
    refine Gives.of ?_
    have pr := pureVs l
    simp [tl, tlA]
    rw [tlR_pure _ _ _ _ pr]
theorem con_clone (l : List Vl) (hz : zVs l < 2 ^ 39) : Con Tryd.prog 16 [.sl 6 (encVs l)] (.sl 6 (encVs l)) := by
  have : ∀ n, n < 2 ^ 39 → ClP n := by
    intro n
    induction n using Nat.strongRecOn with
    | _ n ih => exact fun hn => cl_step hn fun n' h => ih n' h (by omega)
  exact this _ hz l (Nat.le_refl _)
end Go.Proofs.YtmbpiloibhbmbaaDoor
end

section
namespace Go.Proofs.YtmbpiloibhbmbaaDoor
open Go Go.Aw Go.Nst Go.Stb
set_option maxRecDepth 1000000
theorem encDs_rows (l : List Dc) : (encDs l).all (rowOK 11) = true := rows_ok (fun d => ⟨encD_len d, encD_scal d⟩) l
theorem encDs_flat (l : List Dc) : (encDs l).flatten = flD l := rfl
theorem encDs_len (l : List Dc) : (encDs l).length = l.length := by simp [encDs]
theorem acc_Clone (d : Dc) (l : List Dc) (hl : l.length < 2 ^ 38) : ACall Tryd.prog 15 [.sl 11 (encDs (d :: l))] [] fun r hh => r = .own 0 0 (d :: l).length 11 ∧ hh = [blkD 43 (d :: l)] := by
  refine (V15 _).acall ?_
  unfold W15
  show iIsN false (some false) _
  rw [iIsN_some]
  refine a_cond0 rfl rfl ?_
  refine n_mkSl0 rfl ?_
  refine n_appO (n := 0) (h' := [blkD 43 (d :: l)]) (k := (d :: l).length) rfl srcR_sl (encDs_rows _) (by simp [encDs]) (encDs_len _) (by unfold roomA maxLen; simp; omega) rfl rfl ?_
  exact ⟨_, _, Wk.refl _ _ _ (by simp), rfl, rfl⟩
theorem flD_at {D : List Dc} {k c : Nat} {d : Dc} (h : D[k]? = some d) (hc : c < 11) : (flD D)[k * 11 + c]? = (encD d)[c]? := by
  have := congrArg (fun l => l[c]?) (flD_get h)
  simp only [List.getElem?_take, List.getElem?_drop, if_pos hc] at this
  exact this
theorem setAll_one (l : List AV) (i : Nat) (c : AV) : setAll l i [c] = l.set i c := rfl
def sortT (l : List Dc) : AV := if eL l = 0 then .tup [.sl 11 (encDs (stab ltD l)), int 0] else .tup [.v (.slice none 0 0), int 8]
theorem sortT_pure (l : List Dc) : Aw.Pure (sortT l) := by unfold sortT; split <;> simp [encDs_pure]
theorem eL_all {l : List Dc} (h : eL l = 0) : ∀ d ∈ l, okD d = true := by
  unfold eL at h
  split at h
  · rename_i q; exact List.all_eq_true.1 q
  · cases h
theorem eL_of {l : List Dc} (h : ∀ d ∈ l, okD d = true) : eL l = 0 := by unfold eL; rw [if_pos (List.all_eq_true.2 h)]
set_option maxHeartbeats 1000000 in
theorem con_Sort (l : List Dc) (hs : ∀ d ∈ l, smallD d) (hl : l.length ≤ 40) : Con Tryd.prog 6 [.sl 11 (encDs l)] (sortT l) := by
  refine (V6 _).gives (by simp [encDs_pure]) (sortT_pure l) ?_
  unfold W6
  refine w_call rfl (by kernel_rfl) (con_check l hs (by omega)) ?_
  refine a_neq rfl rfl ?_
  unfold sortT
  by_cases h0 : eL l = 0
  rotate_left
  · refine a_cond1 rfl (by simp [h0]) ?_
    exact .pure (by simp) (by rw [if_neg h0, eL_not h0])
  refine a_cond0 rfl (by simp [h0]) ?_
  rw [if_pos h0]
  cases l with
  | nil =>
    refine w_call rfl (by kernel_rfl) con_Clone0 ?_
    refine a_len (n := 0) rfl rfl fun _ => ?_
    refine iLoop_of (α := Unit) (fun _ => True) (fun _ => [int 0]) (fun _ => []) (fun _ => 0) () trivial (Wk.refl _ _ _ (by simp)) ?_
    intro _ _
    refine a_lss rfl rfl ?_
    refine a_cond0 rfl (by simp) ?_
    refine w_call rfl (by kernel_rfl) con_sortSt0 ?_
    exact .pure (by simp) rfl
  | cons d0 l =>
    refine k_call (by kernel_rfl) rfl (acc_Clone d0 l (by simp at hl; omega)) ?_
    rintro _ _ ⟨rfl, rfl⟩
    have hall := eL_all h0
    obtain ⟨D, hD⟩ : ∃ D, D = d0 :: l := ⟨_, rfl⟩
    rw [← hD] at hl hs hall ⊢
    rw [iLen_o]
    intro _
    refine iLoop_of (α := Nat) (fun k => k ≤ D.length) (fun k => [int k]) (fun _ => [blkD 43 D]) (fun k => D.length - k) 0 (by omega) (Wk.refl _ _ _ (by simp)) ?_
    intro k hk
    refine a_lss rfl rfl ?_
    rcases Nat.lt_or_ge k D.length with q | q
    · obtain ⟨d, hd⟩ : ∃ x, D[k]? = some x := ⟨_, List.getElem?_eq_getElem q⟩
      obtain ⟨z1, _, _⟩ := hs d (List.mem_of_getElem? hd)
      have hc : (flD D)[k * 11 + 0 + 1]? = some (.sl 6 (encVs d.value)) := by rw [Nat.add_zero, flD_at hd (by omega)]; rfl
      refine a_cond1 rfl (by simpa using q) ?_
      refine s_idx (j := k) rfl rfl q ?_
      refine w_fad rfl ?_
      refine w_fad rfl ?_
      refine w_load rfl rfl hc ?_
      refine w_call rfl (by kernel_rfl) (con_clone d.value z1) ?_
      refine s_idx (j := k) rfl rfl q ?_
      refine w_fad rfl ?_
      refine w_fad rfl ?_
      refine n_store (h' := [blkD 43 D]) (id := 0) (b := ⟨43, flD D, true⟩) (cs := [.sl 6 (encVs d.value)]) rfl rfl rfl rfl (by rw [flD_len]; simp; omega) rfl rfl (by rw [setAll_one, set_same hc]; rfl) ?_
      refine w_add rfl rfl (by unfold inI; omega) ?_
      refine w_and ?_
      exact ⟨k + 1, q, Wk.refl _ _ _ (by simp), by omega⟩
    · refine a_cond0 rfl (by simp; omega) ?_
      refine k_call (by kernel_rfl) rfl (acc_sortSt (h := [blkD 43 D]) (id := 0) (by simp) 43 D hall D.length rfl hl) ?_
      rintro _ _ ⟨rfl, rfl⟩
      refine Gives.of ?_
      show Le (.tup [tl 0 [blkD 43 (stab ltD D)] 3 (.own 0 0 D.length 11), int 0]) _
      rw [told_own (b := ⟨43, flD (stab ltD D), true⟩) rfl rfl (by rw [flD_len, stab_len]; exact Nat.le_refl _)]
      have e : chunks 11 D.length (flD (stab ltD D)) = encDs (stab ltD D) := by
        have := chunks_rows (encDs (stab ltD D)) (encDs_rows _)
        rw [encDs_len, stab_len] at this
        exact this
      rw [e, mapR_pure _ (encDs_pure _)]
      exact Le.refl _
/-! ### The winner -/
def dc0 : Dc := ⟨[], [], [], false, 0, false, 0, 0, 0, 0, 0⟩
def winN (l : List Dc) (name : Str) (k : Nat) : Option Nat := (List.range k).foldl (winF (ltI ltD dc0 l) (fun i => decide ((l.getD i dc0).name = name))) none
theorem winN_succ (l : List Dc) (name : Str) (k : Nat) : winN l name (k + 1) = winF (ltI ltD dc0 l) (fun i => decide ((l.getD i dc0).name = name)) (winN l name k) k := by
  unfold winN; rw [List.range_succ, List.foldl_append]; rfl
theorem winN_or (l : List Dc) (name : Str) (k : Nat) : winN l name (k + 1) = some k ∨ winN l name (k + 1) = winN l name k := by
  rw [winN_succ]
  unfold winF
  exact (Classical.em _).elim (fun c => .inl (if_pos c)) (fun c => .inr (if_neg c))
theorem winN_lt (l : List Dc) (name : Str) : ∀ (k i : Nat), winN l name k = some i → i < k
  | 0, i, h => by cases h
  | k + 1, i, h => by
    rcases winN_or l name k with e | e
    · rw [e] at h; cases h; omega
    · have := winN_lt l name k i (e ▸ h); omega
theorem winN_no {l : List Dc} {name : Str} {k : Nat} {d : Dc} (hd : l[k]? = some d) (h : d.name ≠ name) : winN l name (k + 1) = winN l name k := by
  rw [winN_succ]
  unfold winF
  simp [List.getD_eq_getElem?_getD, hd, h]
theorem winN_first {l : List Dc} {name : Str} {k : Nat} {d : Dc} (hd : l[k]? = some d) (h : d.name = name) (ha : winN l name k = none) : winN l name (k + 1) = some k := by
  rw [winN_succ, ha]
  unfold winF
  simp [List.getD_eq_getElem?_getD, hd, h]
theorem winN_more {l : List Dc} {name : Str} {k i : Nat} {d y : Dc} (hd : l[k]? = some d) (h : d.name = name) (ha : winN l name k = some i) (hy : l[i]? = some y) : winN l name (k + 1) = if ltD d y = false then some k else some i := by
  rw [winN_succ, ha]
  unfold winF
  simp [List.getD_eq_getElem?_getD, hd, h, hy, Stb.ltI]
def atI : Option Nat → Int
  | none => -1
  | some i => i
def winT (l : List Dc) (name : Str) : AV := if eL l = 0 then (match winN l name l.length with | none => .tup [int 0, int 6] | some i => .tup [int i, int 0]) else .tup [int 0, int 8]
theorem atI_some (i : Nat) : decide (atI (some i) < 0) = false := by show decide ((i : Int) < 0) = false; simp
theorem winT_flat (l : List Dc) (name : Str) : ∃ a b, winT l name = .tup [int a, int b] := by
  unfold winT
  split
  · split <;> exact ⟨_, _, rfl⟩
  · exact ⟨_, _, rfl⟩
theorem winT_pure (l : List Dc) (name : Str) : Aw.Pure (winT l name) := by obtain ⟨a, b, e⟩ := winT_flat l name; rw [e]; simp
set_option maxHeartbeats 2000000 in
theorem con_Winner (l : List Dc) (name : Str) (hs : ∀ d ∈ l, smallD d) (hl : l.length ≤ 40) : Con Tryd.prog 8 [.sl 11 (encDs l), .str name] (winT l name) := by
  refine (V8 _ _).gives (by simp [encDs_pure]) (winT_pure l name) ?_
  unfold W8
  refine w_call rfl (by kernel_rfl) (con_check l hs (by omega)) ?_
  refine a_neq rfl rfl ?_
  unfold winT
  by_cases h0 : eL l = 0
  rotate_left
  · refine a_cond1 rfl (by simp [h0]) ?_
    exact .pure (by simp) (by rw [if_neg h0, eL_not h0])
  refine a_cond0 rfl (by simp [h0]) ?_
  rw [if_pos h0]
  have hall := eL_all h0
  refine a_len (n := l.length) rfl (encDs_len l) fun _ => ?_
  refine iLoop_of (α := Nat) (fun k => k ≤ l.length) (fun k => [int (atI (winN l name k)), int k]) (fun _ => []) (fun k => l.length - k) 0 (by omega) (Wk.refl _ _ _ (by simp)) ?_
  intro k hk
  refine a_lss rfl rfl ?_
  rcases Nat.lt_or_ge k l.length with q | q
  · obtain ⟨d, hd⟩ : ∃ x, l[k]? = some x := ⟨_, List.getElem?_eq_getElem q⟩
    have od := hall d (List.mem_of_getElem? hd)
    refine a_cond1 rfl (by simpa using q) ?_
    refine w_let ?_
    refine a_idx (f := encD) rfl rfl rfl hd ?_
    refine a_loadAI rfl (encD_len d) ?_
    refine n_new (n := 0) (h' := [_]) rfl rfl rfl rfl ?_
    refine n_store (h' := [blkD 43 [d]]) (id := 0) (o := 0) (cs := encD d) rfl rfl rfl rfl (Nat.le_refl _) rfl rfl (by simp only [List.set, flD_cons, flD_nil]; rfl) ?_
    refine w_fad rfl ?_
    refine w_fad rfl ?_
    refine w_load (c := .str d.name) rfl rfl rfl ?_
    refine a_eqlS rfl rfl ?_
    have fin : ∀ v, winN l name (k + 1) = v → Aw.Wk 0 [int (atI v), int ((k : Int) + 1)] [blkD 43 [d]] [int (atI (winN l name (k + 1))), int ((k + 1 : Nat) : Int)] [] := fun v e => by
      rw [e]
      exact Wk.back (M := 0) (by simp) (by simp) rfl (by simp) (by simp) (by simp [Bd])
    by_cases hn : d.name = name
    · have e1 : decide (d.name = name) = true := by simpa using hn
      rw [e1]
      refine w_let ?_
      refine a_guard1 rfl rfl ?_
      refine a_lss rfl rfl ?_
      cases ha : winN l name k with
      | none =>
        have hw := winN_first hd hn ha
        refine w_let ?_
        refine a_guard0 rfl (by simp [atI]) ?_
        refine w_let ?_
        refine a_guard1 rfl rfl ?_
        refine a_pick1 rfl (by simp [atI]) ?_
        refine a_pick1 rfl rfl ?_
        refine a_cond1 rfl rfl ?_
        refine w_and ?_
        refine w_add rfl rfl (by unfold inI; omega) ?_
        refine w_and ?_
        exact ⟨k + 1, q, fin (some k) hw, by omega⟩
      | some i =>
        have hi := winN_lt l name k i ha
        obtain ⟨y, hy⟩ : ∃ x, l[i]? = some x := ⟨l[i]'(by omega), List.getElem?_eq_getElem _⟩
        have oy := hall y (List.mem_of_getElem? hy)
        have hw := winN_more hd hn ha hy
        refine w_let ?_
        refine a_guard1 rfl (atI_some i) ?_
        refine w_loadA (id := 0) (n := 11) rfl rfl (by rw [List.drop_zero, flD_len]; simp) ?_
        rw [List.drop_zero, show List.take 11 (flD [d]) = encD d from rfl]
        refine a_idx (f := encD) (n := i) rfl rfl (by rfl) hy ?_
        refine a_loadAI rfl (encD_len y) ?_
        refine w_callQ rfl (by kernel_rfl) (con_compare d y od oy) ?_
        refine a_geq rfl rfl ?_
        refine w_let ?_
        refine a_guard1 rfl rfl ?_
        refine a_pick0 rfl (atI_some i) ?_
        refine a_pick1 rfl rfl ?_
        refine a_cond rfl (fun hc => ?_) (fun hc => ?_)
        · have e2 : ltD d y = false := by unfold ltD; simp at hc ⊢; omega
          rw [e2] at hw
          simp only [if_true, Bool.true_eq_false, if_false] at hw
          refine w_and ?_
          refine w_add rfl rfl (by unfold inI; omega) ?_
          refine w_and ?_
          exact ⟨k + 1, q, fin (some k) hw, by omega⟩
        · have e2 : ltD d y = true := by unfold ltD; simp at hc ⊢; omega
          rw [e2] at hw
          simp only [if_true, Bool.true_eq_false, if_false] at hw
          refine w_and ?_
          refine w_add rfl rfl (by unfold inI; omega) ?_
          refine w_and ?_
          exact ⟨k + 1, q, fin (some i) hw, by omega⟩
    · have e1 : decide (d.name = name) = false := by simpa using hn
      rw [e1]
      refine w_let ?_
      refine a_guard0 rfl rfl ?_
      refine w_let ?_
      refine w_guard_u rfl ?_
      refine w_let ?_
      refine a_guard0 rfl rfl ?_
      refine a_pick0 rfl rfl ?_
      refine a_cond0 rfl rfl ?_
      refine w_and ?_
      refine w_add rfl rfl (by unfold inI; omega) ?_
      refine w_and ?_
      exact ⟨k + 1, q, fin (winN l name k) (winN_no hd hn), by omega⟩
  · obtain rfl : k = l.length := by omega
    refine a_cond0 rfl (by simp) ?_
    refine a_lss rfl rfl ?_
    cases ha : winN l name l.length with
    | none =>
      refine a_cond1 rfl (by simp [atI]) ?_
      exact .pure (by simp) rfl
    | some i =>
      refine a_cond0 rfl (atI_some i) ?_
      exact .pure (by simp) rfl
end Go.Proofs.YtmbpiloibhbmbaaDoor
end

section
namespace Go.Proofs.YtmbpiloibhbmbaaDoor
open Go Go.Aw Go.Nst
set_option maxRecDepth 1000000
/-! ### Not great -/
def sumL : List Dc → Int
  | [] => 0
  | d :: l => szVs 300 0 d.value + sumL l
def greatL (l : List Dc) : Bool := (l.take 41).any gD || (decide ((40 : Int) < l.length) || decide ((1500 : Int) < sumL (l.take 41)))
theorem sumL_snoc : ∀ (l : List Dc) (d : Dc), sumL (l ++ [d]) = sumL l + szVs 300 0 d.value
  | [], d => by simp [sumL]
  | x :: l, d => by rw [List.cons_append, sumL, sumL_snoc l d, sumL]; omega
theorem sumL_le : ∀ (l : List Dc), (∀ d ∈ l, smallD d) → 0 ≤ sumL l ∧ sumL l ≤ l.length * 2 ^ 39
  | [], _ => by simp [sumL]
  | d :: l, h => by
    obtain ⟨i1, i2⟩ := sumL_le l fun x hx => h x (by simp [hx])
    obtain ⟨z1, _, _⟩ := h d (by simp)
    obtain ⟨b1, b2, _⟩ := szVs_le 300 0 d.value
    rw [sumL, List.length_cons]
    refine ⟨by omega, ?_⟩
    push_cast
    omega
theorem con_GreatL (l : List Dc) (hs : ∀ d ∈ l, smallD d) (hl : l.length < 2 ^ 40) : Con Tryd.prog 4 [.sl 11 (encDs l)] (bool (greatL l)) := by
  refine (V4 _).gives (by simp [encDs_pure]) (by simp) ?_
  unfold W4
  refine iLoop_of (α := Nat) (fun k => k ≤ l.length ∧ k ≤ 41 ∧ (l.take k).any gD = false) (fun k => [int (sumL (l.take k)), int k]) (fun _ => []) (fun k => l.length - k) 0 ⟨by omega, by omega, by simp⟩ (Wk.refl _ _ _ (by simp)) ?_
  rintro k ⟨hk, hk2, hall⟩
  refine a_len (n := l.length) rfl (by simp [encDs]) fun _ => ?_
  refine a_lss rfl rfl ?_
  obtain ⟨s1, s2⟩ := sumL_le (l.take k) fun d hd => hs d (List.mem_of_mem_take hd)
  have s3 : (l.take k).length ≤ 41 := by rw [List.length_take]; omega
  by_cases q : k < l.length ∧ k ≤ 40
  · obtain ⟨q, q'⟩ := q
    obtain ⟨d, hd⟩ : ∃ x, l[k]? = some x := ⟨l[k], List.getElem?_eq_getElem q⟩
    obtain ⟨z1, z2, z3⟩ : smallD d := hs d (List.mem_of_getElem? hd)
    have q1 : decide ((k : Int) < ((l.length : Nat) : Int)) = true := by simp; omega
    have q2 : decide ((k : Int) ≤ 40) = true := by simp; omega
    have hG := con_vGreat d.value z1
    have hS := con_Size d.value 300 z1 (by omega) (by omega)
    obtain ⟨b1, b2, _⟩ := szVs_le 300 0 d.value
    have htk : l.take (k + 1) = l.take k ++ [d] := by rw [List.take_add_one, hd]; rfl
    have hi1 : inI (sumL (l.take k) + szVs 300 0 d.value) := by unfold inI; omega
    have hin : inI ((k : Int) + 1) := by unfold inI; omega
    repeat' (first | (with_reducible first | apply w_let | apply w_and | refine And.intro True.intro ?_) | ((with_reducible first | apply a_lss | apply a_leq | apply a_gtr | apply a_geq | apply a_eql | apply a_neq); rfl; rfl) | ((with_reducible first | apply a_eqlS | apply a_neqS | apply a_eqlB | apply a_neqB); rfl; rfl) | ((with_reducible apply w_add); rfl; rfl; first | assumption | (unfold inI; omega)) | ((with_reducible apply w_sub); rfl; rfl; first | assumption | (unfold inI; omega)) | ((with_reducible apply a_not); rfl) | ((with_reducible apply w_pick_t); rfl) | ((with_reducible apply w_pick_f); rfl) | ((with_reducible apply a_cond1); rfl; first | rfl | assumption) | ((with_reducible apply a_cond0); rfl; first | rfl | assumption) | ((with_reducible apply a_guard1); rfl; first | rfl | assumption) | ((with_reducible apply a_guard0); rfl; first | rfl | assumption) | ((with_reducible apply w_guard_u); rfl) | ((with_reducible apply a_pick1); rfl; first | rfl | assumption) | ((with_reducible apply a_pick0); rfl; first | rfl | assumption) | ((with_reducible apply a_pickN); rfl) | ((with_reducible apply a_condN); rfl) | ((with_reducible apply a_guardN); rfl) | ((with_reducible apply w_fad); rfl) | ((with_reducible apply a_fadI); rfl) | ((with_reducible apply w_load); rfl; rfl; rfl) | ((with_reducible apply w_loadI); rfl) | ((with_reducible apply w_loadA); rfl; rfl; first | exact Nat.le_refl _ | exact Nat.le_of_ble_eq_true rfl) | ((with_reducible apply a_eqA); rfl; rfl; rfl) | ((with_reducible apply a_loadAI); rfl; first | rfl | simp) | ((with_reducible apply w_new); first | rfl | simp) | ((with_reducible apply a_store); rfl; rfl; rfl; rfl; (first | exact Nat.le_refl _ | simp); (first | rfl | simp); (first | rfl | simp)) | ((with_reducible apply a_lenS); rfl; intro _) | ((with_reducible apply a_len); rfl; (first | rfl | simp); intro _) | ((with_reducible apply a_build); rfl) | ((with_reducible apply a_extr); rfl; rfl) | (refine iCall_con (by kernel_rfl) (hG) ?_) | (refine iCall_con (by kernel_rfl) (hS) ?_) | (refine a_idx (f := encD) rfl rfl rfl hd ?_) | ((with_reducible apply a_cond); rfl) | ((with_reducible apply a_guard); rfl) | (with_reducible intro _))
    all_goals first
      | (refine ⟨k + 1, ⟨by omega, by omega, ?_⟩, Wk.le (by simp) (by rw [htk, sumL_snoc]; simp), by omega⟩
         rw [htk, List.any_append, hall]
         simp only [List.any_cons, List.any_nil, Bool.or_false, Bool.false_or]
         unfold gD; grind)
      | (refine .pure (by simp) ?_
         simp only [nx_zero, nx_one, AV.v.injEq, Value.bool.injEq]
         have hg : gD d = true := by unfold gD; grind
         unfold greatL
         have : (l.take 41).any gD = true := List.any_eq_true.2 ⟨d, List.mem_of_getElem? (i := k) (by rw [List.getElem?_take, if_pos (by omega)]; exact hd), hg⟩
         rw [this]; rfl)
  · have hkk : l.take k = l.take 41 := by
      rcases Nat.lt_or_ge k l.length with z | z
      · obtain rfl : k = 41 := by omega
        rfl
      · rw [List.take_of_length_le z, List.take_of_length_le (by omega)]
    have e : greatL l = (decide ((40 : Int) < l.length) || decide ((1500 : Int) < sumL (l.take k))) := by unfold greatL; rw [← hkk, hall]; simp
    rw [e]
    by_cases z : k < l.length
    · have q1 : decide ((k : Int) < ((l.length : Nat) : Int)) = true := by simp; omega
      have q2 : decide ((k : Int) ≤ 40) = false := by simp; omega
      repeat' (first | (with_reducible first | apply w_let | apply w_and | refine And.intro True.intro ?_) | ((with_reducible first | apply a_lss | apply a_leq | apply a_gtr | apply a_geq | apply a_eql | apply a_neq); rfl; rfl) | ((with_reducible first | apply a_eqlS | apply a_neqS | apply a_eqlB | apply a_neqB); rfl; rfl) | ((with_reducible apply w_add); rfl; rfl; first | assumption | (unfold inI; omega)) | ((with_reducible apply w_sub); rfl; rfl; first | assumption | (unfold inI; omega)) | ((with_reducible apply a_not); rfl) | ((with_reducible apply w_pick_t); rfl) | ((with_reducible apply w_pick_f); rfl) | ((with_reducible apply a_cond1); rfl; first | rfl | assumption) | ((with_reducible apply a_cond0); rfl; first | rfl | assumption) | ((with_reducible apply a_guard1); rfl; first | rfl | assumption) | ((with_reducible apply a_guard0); rfl; first | rfl | assumption) | ((with_reducible apply w_guard_u); rfl) | ((with_reducible apply a_pick1); rfl; first | rfl | assumption) | ((with_reducible apply a_pick0); rfl; first | rfl | assumption) | ((with_reducible apply a_pickN); rfl) | ((with_reducible apply a_condN); rfl) | ((with_reducible apply a_guardN); rfl) | ((with_reducible apply w_fad); rfl) | ((with_reducible apply a_fadI); rfl) | ((with_reducible apply w_load); rfl; rfl; rfl) | ((with_reducible apply w_loadI); rfl) | ((with_reducible apply w_loadA); rfl; rfl; first | exact Nat.le_refl _ | exact Nat.le_of_ble_eq_true rfl) | ((with_reducible apply a_eqA); rfl; rfl; rfl) | ((with_reducible apply a_loadAI); rfl; first | rfl | simp) | ((with_reducible apply w_new); first | rfl | simp) | ((with_reducible apply a_store); rfl; rfl; rfl; rfl; (first | exact Nat.le_refl _ | simp); (first | rfl | simp); (first | rfl | simp)) | ((with_reducible apply a_lenS); rfl; intro _) | ((with_reducible apply a_len); rfl; (first | rfl | simp); intro _) | ((with_reducible apply a_build); rfl) | ((with_reducible apply a_extr); rfl; rfl) | ((with_reducible apply a_cond); rfl) | ((with_reducible apply a_guard); rfl) | (with_reducible intro _))
      all_goals
        refine .pure (by simp) ?_
        simp only [encDs_len] at *
        simp_all
        try (intro; omega)
    · have q1 : decide ((k : Int) < ((l.length : Nat) : Int)) = false := by simp; omega
      repeat' (first | (with_reducible first | apply w_let | apply w_and | refine And.intro True.intro ?_) | ((with_reducible first | apply a_lss | apply a_leq | apply a_gtr | apply a_geq | apply a_eql | apply a_neq); rfl; rfl) | ((with_reducible first | apply a_eqlS | apply a_neqS | apply a_eqlB | apply a_neqB); rfl; rfl) | ((with_reducible apply w_add); rfl; rfl; first | assumption | (unfold inI; omega)) | ((with_reducible apply w_sub); rfl; rfl; first | assumption | (unfold inI; omega)) | ((with_reducible apply a_not); rfl) | ((with_reducible apply w_pick_t); rfl) | ((with_reducible apply w_pick_f); rfl) | ((with_reducible apply a_cond1); rfl; first | rfl | assumption) | ((with_reducible apply a_cond0); rfl; first | rfl | assumption) | ((with_reducible apply a_guard1); rfl; first | rfl | assumption) | ((with_reducible apply a_guard0); rfl; first | rfl | assumption) | ((with_reducible apply w_guard_u); rfl) | ((with_reducible apply a_pick1); rfl; first | rfl | assumption) | ((with_reducible apply a_pick0); rfl; first | rfl | assumption) | ((with_reducible apply a_pickN); rfl) | ((with_reducible apply a_condN); rfl) | ((with_reducible apply a_guardN); rfl) | ((with_reducible apply w_fad); rfl) | ((with_reducible apply a_fadI); rfl) | ((with_reducible apply w_load); rfl; rfl; rfl) | ((with_reducible apply w_loadI); rfl) | ((with_reducible apply w_loadA); rfl; rfl; first | exact Nat.le_refl _ | exact Nat.le_of_ble_eq_true rfl) | ((with_reducible apply a_eqA); rfl; rfl; rfl) | ((with_reducible apply a_loadAI); rfl; first | rfl | simp) | ((with_reducible apply w_new); first | rfl | simp) | ((with_reducible apply a_store); rfl; rfl; rfl; rfl; (first | exact Nat.le_refl _ | simp); (first | rfl | simp); (first | rfl | simp)) | ((with_reducible apply a_lenS); rfl; intro _) | ((with_reducible apply a_len); rfl; (first | rfl | simp); intro _) | ((with_reducible apply a_build); rfl) | ((with_reducible apply a_extr); rfl; rfl) | ((with_reducible apply a_cond); rfl) | ((with_reducible apply a_guard); rfl) | (with_reducible intro _))
      all_goals
        refine .pure (by simp) ?_
        simp only [encDs_len] at *
        simp_all
        try (intro; omega)
end Go.Proofs.YtmbpiloibhbmbaaDoor
end

section
namespace Go.Proofs.YtmbpiloibhbmbaaDoor
open Go Go.Aw Go.Nst Go.Stb
set_option maxRecDepth 1000000
noncomputable def sameB {α : Type} (a b : α) : Bool := @decide (a = b) (Classical.propDecidable _)
theorem sameB_eq {α : Type} {a b : α} : sameB a b = true ↔ a = b := by unfold sameB; exact @decide_eq_true_iff _ (Classical.propDecidable _)
theorem sameB_self {α : Type} (a : α) : sameB a a = true := sameB_eq.2 rfl
theorem sameB_ne {α : Type} {a b : α} (h : a ≠ b) : sameB a b = false := by
  cases q : sameB a b with
  | false => rfl
  | true => exact absurd (sameB_eq.1 q) h
def SmP (n : Nat) : Prop := ∀ (l m : List Vl), zVs l ≤ n → zVs m < 2 ^ 39 → Con Tryd.prog 44 [.sl 6 (encVs l), .sl 6 (encVs m)] (bool (sameB l m))
theorem take_same {α : Type} {l m : List α} {k : Nat} {x : α} (h : l.take k = m.take k) (hx : l[k]? = some x) (hy : m[k]? = some x) : l.take (k + 1) = m.take (k + 1) := by
  rw [List.take_add_one, List.take_add_one, hx, hy, h]
theorem ne_at {α : Type} {l m : List α} {k : Nat} {x y : α} (hx : l[k]? = some x) (hy : m[k]? = some y) (h : x ≠ y) : l ≠ m := fun e => by
  subst e; rw [hx] at hy; cases hy; exact h rfl
theorem sm_step {n : Nat} (hn : n < 2 ^ 39) (hP : ∀ n', n' < n → SmP n') : SmP n := by
  intro l m hz hzm
  refine (V44 _ _).gives (by simp [pureVs]) (by simp) ?_
  unfold W44
  have hlen : (encVs l).length = l.length := by simp [encVs_map]
  have hlem : (encVs m).length = m.length := by simp [encVs_map]
  have hll := zVs_len l
  refine a_len (n := l.length) rfl hlen fun _ => ?_
  refine a_len (n := m.length) rfl hlem fun _ => ?_
  refine a_neq rfl rfl ?_
  by_cases hlm : l.length = m.length
  rotate_left
  · refine a_cond1 rfl (by simp; omega) ?_
    exact .pure (by simp) (by rw [sameB_ne (fun e => hlm (by rw [e]))])
  refine a_cond0 rfl (by simp [hlm]) ?_
  refine iLoop_of (α := Nat) (fun k => k ≤ l.length ∧ l.take k = m.take k) (fun k => [int k]) (fun _ => []) (fun k => l.length - k) 0 ⟨by omega, by simp⟩ (Wk.refl _ _ _ (by simp)) ?_
  rintro k ⟨hk, ht⟩
  refine a_len (n := l.length) rfl hlen fun _ => ?_
  refine a_lss rfl rfl ?_
  rcases Nat.lt_or_ge k l.length with q | q
  · obtain ⟨x, hx⟩ : ∃ x, l[k]? = some x := ⟨l[k], List.getElem?_eq_getElem q⟩
    obtain ⟨y, hy⟩ : ∃ x, m[k]? = some x := ⟨m[k]'(by omega), List.getElem?_eq_getElem _⟩
    have hzx := zVs_mem (List.mem_of_getElem? hx)
    have hzy := zVs_mem (List.mem_of_getElem? hy)
    obtain ⟨kd, tx, nu, un, fl, l2⟩ := x
    obtain ⟨kd', tx', nu', un', fl', m2⟩ := y
    rw [zV] at hzx hzy
    have hrec := hP (zVs l2) (by omega) l2 m2 (Nat.le_refl _) (by omega)
    have hb : eqK [1, 2, 1, 2, 0] [u1 kd, .str tx, int nu, .str un, bool fl] [u1 kd', .str tx', int nu', .str un', bool fl'] = some (decide (kd = kd') && (decide (tx = tx') && (decide (nu = nu') && (decide (un = un') && ((fl == fl') && true))))) := rfl
    refine a_cond1 rfl (by simpa using q) ?_
    refine a_idx (f := encV) rfl (encVs_map l) rfl hx ?_
    refine a_fadI rfl ?_
    refine a_loadAT rfl (by show 5 ≤ 6; decide) ?_
    refine a_idx (f := encV) rfl (encVs_map m) rfl hy ?_
    refine a_fadI rfl ?_
    refine a_loadAT rfl (by show 5 ≤ 6; decide) ?_
    refine a_eqA (xs := [u1 kd, .str tx, int nu, .str un, bool fl]) (ys := [u1 kd', .str tx', int nu', .str un', bool fl']) (by rw [encV]; rfl) (by rw [encV]; rfl) hb ?_
    refine w_let ?_
    by_cases hT : kd = kd' ∧ tx = tx' ∧ nu = nu' ∧ un = un' ∧ fl = fl'
    · obtain ⟨rfl, rfl, rfl, rfl, rfl⟩ := hT
      refine a_guard1 rfl (by simp) ?_
      refine a_idx (f := encV) rfl (encVs_map l) rfl hx ?_
      refine a_fadI rfl ?_
      refine w_loadI (c := .sl 6 (encVs l2)) (r := []) (by rw [encV]; rfl) ?_
      refine a_idx (f := encV) rfl (encVs_map m) rfl hy ?_
      refine a_fadI rfl ?_
      refine w_loadI (c := .sl 6 (encVs m2)) (r := []) (by rw [encV]; rfl) ?_
      refine w_callQ rfl (by kernel_rfl) hrec ?_
      refine a_not rfl ?_
      refine a_pick0 rfl (by simp) ?_
      refine a_cond rfl (fun hc => ?_) (fun hc => ?_)
      · refine .pure (by simp) ?_
        have hc : sameB l2 m2 = false := by simpa using hc
        rw [sameB_ne (ne_at hx hy fun e => by cases e; rw [sameB_self] at hc; cases hc)]
      · have hc : sameB l2 m2 = true := by simpa using hc
        obtain rfl := sameB_eq.1 hc
        refine w_add rfl rfl (by unfold inI; omega) ?_
        refine w_and ?_
        exact ⟨k + 1, ⟨q, take_same ht hx hy⟩, Wk.refl _ _ _ (by simp), by omega⟩
    · have hf : (decide (kd = kd') && (decide (tx = tx') && (decide (nu = nu') && (decide (un = un') && ((fl == fl') && true))))) = false := by
        rw [Bool.eq_false_iff]
        intro z
        simp only [Bool.and_eq_true, decide_eq_true_eq, beq_iff_eq, and_true] at z
        exact hT z
      rw [hf]
      refine a_guard0 rfl rfl ?_
      refine a_pick1 rfl rfl ?_
      refine a_cond1 rfl rfl ?_
      refine .pure (by simp) ?_
      rw [sameB_ne (ne_at hx hy fun e => by cases e; exact hT ⟨rfl, rfl, rfl, rfl, rfl⟩)]
  · refine a_cond0 rfl (by simp; omega) ?_
    rw [List.take_of_length_le q, List.take_of_length_le (by omega)] at ht
    exact .pure (by simp) (by rw [sameB_eq.2 ht])
theorem con_sameV (l m : List Vl) (hz : zVs l < 2 ^ 39) (hm : zVs m < 2 ^ 39) : Con Tryd.prog 44 [.sl 6 (encVs l), .sl 6 (encVs m)] (bool (sameB l m)) := by
  have : ∀ n, n < 2 ^ 39 → SmP n := by
    intro n
    induction n using Nat.strongRecOn with
    | _ n ih => exact fun hn => sm_step hn fun n' h => ih n' h (by omega)
  exact this _ hz l m (Nat.le_refl _) hm
def encL (d : Dc) : List AV := [.str d.name, .sl 6 (encVs d.value), .str d.whole]
noncomputable def lgB (a b : Dc) : Bool := decide (a.name = b.name) && (decide (a.whole = b.whole) && sameB a.value b.value)
theorem con_SameLongs (a b : Dc) (ha : smallD a) (hb : smallD b) : Con Tryd.prog 30 [.sl 3 [encL a], .sl 3 [encL b]] (bool (lgB a b)) := by
  refine (V30 _ _).gives (by simp [encL, pureVs]) (by simp) ?_
  unfold W30
  have hS := con_sameV a.value b.value ha.1 hb.1
  refine a_len (n := 1) rfl rfl fun _ => ?_
  refine a_len (n := 1) rfl rfl fun _ => ?_
  refine a_neq rfl rfl ?_
  refine a_cond0 rfl rfl ?_
  refine iLoop_of (α := Bool) (fun k => k = true → lgB a b = true) (fun k => [int (if k then 1 else 0)]) (fun _ => []) (fun k => if k then 0 else 1) false (by simp) (Wk.refl _ _ _ (by simp)) ?_
  intro k hk
  refine a_len (n := 1) rfl rfl fun _ => ?_
  refine a_lss rfl rfl ?_
  cases k with
  | true =>
    refine a_cond0 rfl rfl ?_
    exact .pure (by simp) (by rw [hk rfl])
  | false =>
    have hx : [a][0]? = some a := rfl
    have hy : [b][0]? = some b := rfl
    refine a_cond1 rfl rfl ?_
    refine a_idx (f := encL) (l := [a]) (n := 0) rfl rfl rfl hx ?_
    refine a_fadI rfl ?_
    refine w_loadI (c := .str a.name) rfl ?_
    refine a_idx (f := encL) (l := [b]) (n := 0) rfl rfl rfl hy ?_
    refine a_fadI rfl ?_
    refine w_loadI (c := .str b.name) rfl ?_
    refine a_neqS rfl rfl ?_
    refine w_let ?_
    by_cases h1 : a.name = b.name
    rotate_left
    · have e1 : decide (a.name = b.name) = false := by simpa using h1
      rw [e1]
      refine a_guard0 rfl rfl ?_
      refine a_pick1 rfl rfl ?_
      refine w_let ?_
      refine a_guard0 rfl rfl ?_
      refine a_pick1 rfl rfl ?_
      refine a_cond1 rfl rfl ?_
      exact .pure (by simp) (by rw [lgB, e1]; rfl)
    have e1 : decide (a.name = b.name) = true := by simpa using h1
    rw [e1]
    refine a_guard1 rfl rfl ?_
    refine a_idx (f := encL) (l := [a]) (n := 0) rfl rfl rfl hx ?_
    refine a_fadI rfl ?_
    refine w_loadI (c := .str a.whole) rfl ?_
    refine a_idx (f := encL) (l := [b]) (n := 0) rfl rfl rfl hy ?_
    refine a_fadI rfl ?_
    refine w_loadI (c := .str b.whole) rfl ?_
    refine a_neqS rfl rfl ?_
    refine a_pick0 rfl rfl ?_
    refine w_let ?_
    by_cases h2 : a.whole = b.whole
    rotate_left
    · have e2 : decide (a.whole = b.whole) = false := by simpa using h2
      rw [e2]
      refine a_guard0 rfl rfl ?_
      refine a_pick1 rfl rfl ?_
      refine a_cond1 rfl rfl ?_
      exact .pure (by simp) (by rw [lgB, e1, e2]; rfl)
    have e2 : decide (a.whole = b.whole) = true := by simpa using h2
    rw [e2]
    refine a_guard1 rfl rfl ?_
    refine a_idx (f := encL) (l := [a]) (n := 0) rfl rfl rfl hx ?_
    refine a_fadI rfl ?_
    refine w_loadI (c := .sl 6 (encVs a.value)) rfl ?_
    refine a_idx (f := encL) (l := [b]) (n := 0) rfl rfl rfl hy ?_
    refine a_fadI rfl ?_
    refine w_loadI (c := .sl 6 (encVs b.value)) rfl ?_
    refine w_callQ rfl (by kernel_rfl) hS ?_
    refine a_not rfl ?_
    refine a_pick0 rfl rfl ?_
    have e3 : lgB a b = sameB a.value b.value := by rw [lgB, e1, e2]; rfl
    refine a_cond rfl (fun hc => ?_) (fun hc => ?_)
    · refine .pure (by simp) ?_
      rw [e3]
      have hc : sameB a.value b.value = false := by simpa using hc
      rw [hc]
    · have hc : sameB a.value b.value = true := by simpa using hc
      refine w_add rfl rfl (by unfold inI; simp) ?_
      refine w_and ?_
      exact ⟨true, fun _ => by rw [e3, hc], Wk.refl _ _ _ (by simp), by simp⟩
noncomputable def dcB (a b : Dc) : Bool := lgB a b && ((a.imp == b.imp) && (decide (a.origin = b.origin) && ((a.att == b.att) && (decide (a.layer = b.layer) && ((decide (a.w0 = b.w0) && (decide (a.w1 = b.w1) && (decide (a.w2 = b.w2) && true))) && decide (a.order = b.order))))))
theorem dcB_eq (a b : Dc) : dcB a b = sameB a b := by
  by_cases h : a = b
  · subst h
    rw [sameB_self]
    simp [dcB, lgB, sameB_self]
  · rw [sameB_ne h, Bool.eq_false_iff]
    intro z
    simp only [dcB, lgB, Bool.and_eq_true, decide_eq_true_eq, beq_iff_eq, and_true, sameB_eq] at z
    apply h
    cases a
    cases b
    simp_all
set_option maxHeartbeats 4000000 in
theorem con_SameOne (a b : Dc) (ha : smallD a) (hb : smallD b) : Con Tryd.prog 22 [.agg (encD a), .agg (encD b)] (bool (sameB a b)) := by
  rw [← dcB_eq]
  refine (V22 _ _).gives (by simp [encD_pure]) (by simp) ?_
  unfold W22
  have hL := con_SameLongs a b ha hb
  refine n_new (n := 0) (h' := [blkD 43 [a]]) (cs := encD a) rfl rfl rfl rfl ?_
  refine n_new (n := 1) (h' := [blkD 43 [a], blkD 43 [b]]) (cs := encD b) rfl rfl rfl rfl ?_
  refine w_fad rfl ?_
  refine w_loadA (id := 0) (n := 3) rfl rfl (by show 3 ≤ 11; decide) ?_
  refine a_mkSlP (cs := encL a) rfl ?_
  refine w_fad rfl ?_
  refine w_loadA (id := 1) (n := 3) rfl rfl (by show 3 ≤ 11; decide) ?_
  refine a_mkSlP (cs := encL b) rfl ?_
  refine w_call rfl (by kernel_rfl) hL ?_
  have hb3 : eqK [1, 1, 1] [int a.w0, int a.w1, int a.w2] [int b.w0, int b.w1, int b.w2] = some (decide (a.w0 = b.w0) && (decide (a.w1 = b.w1) && (decide (a.w2 = b.w2) && true))) := rfl
  generalize hx : lgB a b = x1
  refine w_let ?_
  unfold dcB
  rw [hx]
  cases x1 with
  | false =>
    refine a_guard0 rfl rfl ?_
    repeat' (first | (with_reducible first | apply w_let | apply w_and | refine And.intro True.intro ?_) | ((with_reducible first | apply a_lss | apply a_leq | apply a_gtr | apply a_geq | apply a_eql | apply a_neq); rfl; rfl) | ((with_reducible first | apply a_eqlS | apply a_neqS | apply a_eqlB | apply a_neqB); rfl; rfl) | ((with_reducible apply w_add); rfl; rfl; first | assumption | (unfold inI; omega)) | ((with_reducible apply w_sub); rfl; rfl; first | assumption | (unfold inI; omega)) | ((with_reducible apply a_not); rfl) | ((with_reducible apply w_pick_t); rfl) | ((with_reducible apply w_pick_f); rfl) | ((with_reducible apply a_cond1); rfl; first | rfl | assumption) | ((with_reducible apply a_cond0); rfl; first | rfl | assumption) | ((with_reducible apply a_guard1); rfl; first | rfl | assumption) | ((with_reducible apply a_guard0); rfl; first | rfl | assumption) | ((with_reducible apply w_guard_u); rfl) | ((with_reducible apply a_pick1); rfl; first | rfl | assumption) | ((with_reducible apply a_pick0); rfl; first | rfl | assumption) | ((with_reducible apply a_pickN); rfl) | ((with_reducible apply a_condN); rfl) | ((with_reducible apply a_guardN); rfl) | ((with_reducible apply w_fad); rfl) | ((with_reducible apply a_fadI); rfl) | ((with_reducible apply w_load); rfl; rfl; rfl) | ((with_reducible apply w_loadI); rfl) | ((with_reducible apply w_loadA); rfl; rfl; first | exact Nat.le_refl _ | exact Nat.le_of_ble_eq_true rfl) | ((with_reducible apply a_eqA); rfl; rfl; rfl) | ((with_reducible apply a_loadAI); rfl; first | rfl | simp) | ((with_reducible apply w_new); first | rfl | simp) | ((with_reducible apply a_store); rfl; rfl; rfl; rfl; (first | exact Nat.le_refl _ | simp); (first | rfl | simp); (first | rfl | simp)) | ((with_reducible apply a_lenS); rfl; intro _) | ((with_reducible apply a_len); rfl; (first | rfl | simp); intro _) | ((with_reducible apply a_build); rfl) | ((with_reducible apply a_extr); rfl; rfl) | ((with_reducible apply a_cond); rfl) | ((with_reducible apply a_guard); rfl) | (with_reducible intro _))
    all_goals exact .pure (by simp) rfl
  | true =>
    refine a_guard1 rfl rfl ?_
    refine w_fad rfl ?_
    refine w_load (id := 0) (c := Aw.bool a.imp) rfl rfl rfl ?_
    refine w_fad rfl ?_
    refine w_load (id := 1) (c := Aw.bool b.imp) rfl rfl rfl ?_
    refine a_eqlB rfl rfl ?_
    refine w_and ?_
    refine a_pick1 rfl rfl ?_
    generalize (a.imp == b.imp) = x2
    refine w_let ?_
    cases x2 with
    | false =>
      refine a_guard0 rfl rfl ?_
      repeat' (first | (with_reducible first | apply w_let | apply w_and | refine And.intro True.intro ?_) | ((with_reducible first | apply a_lss | apply a_leq | apply a_gtr | apply a_geq | apply a_eql | apply a_neq); rfl; rfl) | ((with_reducible first | apply a_eqlS | apply a_neqS | apply a_eqlB | apply a_neqB); rfl; rfl) | ((with_reducible apply w_add); rfl; rfl; first | assumption | (unfold inI; omega)) | ((with_reducible apply w_sub); rfl; rfl; first | assumption | (unfold inI; omega)) | ((with_reducible apply a_not); rfl) | ((with_reducible apply w_pick_t); rfl) | ((with_reducible apply w_pick_f); rfl) | ((with_reducible apply a_cond1); rfl; first | rfl | assumption) | ((with_reducible apply a_cond0); rfl; first | rfl | assumption) | ((with_reducible apply a_guard1); rfl; first | rfl | assumption) | ((with_reducible apply a_guard0); rfl; first | rfl | assumption) | ((with_reducible apply w_guard_u); rfl) | ((with_reducible apply a_pick1); rfl; first | rfl | assumption) | ((with_reducible apply a_pick0); rfl; first | rfl | assumption) | ((with_reducible apply a_pickN); rfl) | ((with_reducible apply a_condN); rfl) | ((with_reducible apply a_guardN); rfl) | ((with_reducible apply w_fad); rfl) | ((with_reducible apply a_fadI); rfl) | ((with_reducible apply w_load); rfl; rfl; rfl) | ((with_reducible apply w_loadI); rfl) | ((with_reducible apply w_loadA); rfl; rfl; first | exact Nat.le_refl _ | exact Nat.le_of_ble_eq_true rfl) | ((with_reducible apply a_eqA); rfl; rfl; rfl) | ((with_reducible apply a_loadAI); rfl; first | rfl | simp) | ((with_reducible apply w_new); first | rfl | simp) | ((with_reducible apply a_store); rfl; rfl; rfl; rfl; (first | exact Nat.le_refl _ | simp); (first | rfl | simp); (first | rfl | simp)) | ((with_reducible apply a_lenS); rfl; intro _) | ((with_reducible apply a_len); rfl; (first | rfl | simp); intro _) | ((with_reducible apply a_build); rfl) | ((with_reducible apply a_extr); rfl; rfl) | ((with_reducible apply a_cond); rfl) | ((with_reducible apply a_guard); rfl) | (with_reducible intro _))
      all_goals exact .pure (by simp) rfl
    | true =>
      refine a_guard1 rfl rfl ?_
      refine w_fad rfl ?_
      refine w_load (id := 0) (c := u1 a.origin) rfl rfl rfl ?_
      refine w_fad rfl ?_
      refine w_load (id := 1) (c := u1 b.origin) rfl rfl rfl ?_
      refine a_eql rfl rfl ?_
      refine w_and ?_
      refine a_pick1 rfl rfl ?_
      generalize decide (a.origin = b.origin) = x3
      refine w_let ?_
      cases x3 with
      | false =>
        refine a_guard0 rfl rfl ?_
        repeat' (first | (with_reducible first | apply w_let | apply w_and | refine And.intro True.intro ?_) | ((with_reducible first | apply a_lss | apply a_leq | apply a_gtr | apply a_geq | apply a_eql | apply a_neq); rfl; rfl) | ((with_reducible first | apply a_eqlS | apply a_neqS | apply a_eqlB | apply a_neqB); rfl; rfl) | ((with_reducible apply w_add); rfl; rfl; first | assumption | (unfold inI; omega)) | ((with_reducible apply w_sub); rfl; rfl; first | assumption | (unfold inI; omega)) | ((with_reducible apply a_not); rfl) | ((with_reducible apply w_pick_t); rfl) | ((with_reducible apply w_pick_f); rfl) | ((with_reducible apply a_cond1); rfl; first | rfl | assumption) | ((with_reducible apply a_cond0); rfl; first | rfl | assumption) | ((with_reducible apply a_guard1); rfl; first | rfl | assumption) | ((with_reducible apply a_guard0); rfl; first | rfl | assumption) | ((with_reducible apply w_guard_u); rfl) | ((with_reducible apply a_pick1); rfl; first | rfl | assumption) | ((with_reducible apply a_pick0); rfl; first | rfl | assumption) | ((with_reducible apply a_pickN); rfl) | ((with_reducible apply a_condN); rfl) | ((with_reducible apply a_guardN); rfl) | ((with_reducible apply w_fad); rfl) | ((with_reducible apply a_fadI); rfl) | ((with_reducible apply w_load); rfl; rfl; rfl) | ((with_reducible apply w_loadI); rfl) | ((with_reducible apply w_loadA); rfl; rfl; first | exact Nat.le_refl _ | exact Nat.le_of_ble_eq_true rfl) | ((with_reducible apply a_eqA); rfl; rfl; rfl) | ((with_reducible apply a_loadAI); rfl; first | rfl | simp) | ((with_reducible apply w_new); first | rfl | simp) | ((with_reducible apply a_store); rfl; rfl; rfl; rfl; (first | exact Nat.le_refl _ | simp); (first | rfl | simp); (first | rfl | simp)) | ((with_reducible apply a_lenS); rfl; intro _) | ((with_reducible apply a_len); rfl; (first | rfl | simp); intro _) | ((with_reducible apply a_build); rfl) | ((with_reducible apply a_extr); rfl; rfl) | ((with_reducible apply a_cond); rfl) | ((with_reducible apply a_guard); rfl) | (with_reducible intro _))
        all_goals exact .pure (by simp) rfl
      | true =>
        refine a_guard1 rfl rfl ?_
        refine w_fad rfl ?_
        refine w_load (id := 0) (c := Aw.bool a.att) rfl rfl rfl ?_
        refine w_fad rfl ?_
        refine w_load (id := 1) (c := Aw.bool b.att) rfl rfl rfl ?_
        refine a_eqlB rfl rfl ?_
        refine w_and ?_
        refine a_pick1 rfl rfl ?_
        generalize (a.att == b.att) = x4
        refine w_let ?_
        cases x4 with
        | false =>
          refine a_guard0 rfl rfl ?_
          repeat' (first | (with_reducible first | apply w_let | apply w_and | refine And.intro True.intro ?_) | ((with_reducible first | apply a_lss | apply a_leq | apply a_gtr | apply a_geq | apply a_eql | apply a_neq); rfl; rfl) | ((with_reducible first | apply a_eqlS | apply a_neqS | apply a_eqlB | apply a_neqB); rfl; rfl) | ((with_reducible apply w_add); rfl; rfl; first | assumption | (unfold inI; omega)) | ((with_reducible apply w_sub); rfl; rfl; first | assumption | (unfold inI; omega)) | ((with_reducible apply a_not); rfl) | ((with_reducible apply w_pick_t); rfl) | ((with_reducible apply w_pick_f); rfl) | ((with_reducible apply a_cond1); rfl; first | rfl | assumption) | ((with_reducible apply a_cond0); rfl; first | rfl | assumption) | ((with_reducible apply a_guard1); rfl; first | rfl | assumption) | ((with_reducible apply a_guard0); rfl; first | rfl | assumption) | ((with_reducible apply w_guard_u); rfl) | ((with_reducible apply a_pick1); rfl; first | rfl | assumption) | ((with_reducible apply a_pick0); rfl; first | rfl | assumption) | ((with_reducible apply a_pickN); rfl) | ((with_reducible apply a_condN); rfl) | ((with_reducible apply a_guardN); rfl) | ((with_reducible apply w_fad); rfl) | ((with_reducible apply a_fadI); rfl) | ((with_reducible apply w_load); rfl; rfl; rfl) | ((with_reducible apply w_loadI); rfl) | ((with_reducible apply w_loadA); rfl; rfl; first | exact Nat.le_refl _ | exact Nat.le_of_ble_eq_true rfl) | ((with_reducible apply a_eqA); rfl; rfl; rfl) | ((with_reducible apply a_loadAI); rfl; first | rfl | simp) | ((with_reducible apply w_new); first | rfl | simp) | ((with_reducible apply a_store); rfl; rfl; rfl; rfl; (first | exact Nat.le_refl _ | simp); (first | rfl | simp); (first | rfl | simp)) | ((with_reducible apply a_lenS); rfl; intro _) | ((with_reducible apply a_len); rfl; (first | rfl | simp); intro _) | ((with_reducible apply a_build); rfl) | ((with_reducible apply a_extr); rfl; rfl) | ((with_reducible apply a_cond); rfl) | ((with_reducible apply a_guard); rfl) | (with_reducible intro _))
          all_goals exact .pure (by simp) rfl
        | true =>
          refine a_guard1 rfl rfl ?_
          refine w_fad rfl ?_
          refine w_load (id := 0) (c := int a.layer) rfl rfl rfl ?_
          refine w_fad rfl ?_
          refine w_load (id := 1) (c := int b.layer) rfl rfl rfl ?_
          refine a_eql rfl rfl ?_
          refine w_and ?_
          refine a_pick1 rfl rfl ?_
          generalize decide (a.layer = b.layer) = x5
          refine w_let ?_
          cases x5 with
          | false =>
            refine a_guard0 rfl rfl ?_
            repeat' (first | (with_reducible first | apply w_let | apply w_and | refine And.intro True.intro ?_) | ((with_reducible first | apply a_lss | apply a_leq | apply a_gtr | apply a_geq | apply a_eql | apply a_neq); rfl; rfl) | ((with_reducible first | apply a_eqlS | apply a_neqS | apply a_eqlB | apply a_neqB); rfl; rfl) | ((with_reducible apply w_add); rfl; rfl; first | assumption | (unfold inI; omega)) | ((with_reducible apply w_sub); rfl; rfl; first | assumption | (unfold inI; omega)) | ((with_reducible apply a_not); rfl) | ((with_reducible apply w_pick_t); rfl) | ((with_reducible apply w_pick_f); rfl) | ((with_reducible apply a_cond1); rfl; first | rfl | assumption) | ((with_reducible apply a_cond0); rfl; first | rfl | assumption) | ((with_reducible apply a_guard1); rfl; first | rfl | assumption) | ((with_reducible apply a_guard0); rfl; first | rfl | assumption) | ((with_reducible apply w_guard_u); rfl) | ((with_reducible apply a_pick1); rfl; first | rfl | assumption) | ((with_reducible apply a_pick0); rfl; first | rfl | assumption) | ((with_reducible apply a_pickN); rfl) | ((with_reducible apply a_condN); rfl) | ((with_reducible apply a_guardN); rfl) | ((with_reducible apply w_fad); rfl) | ((with_reducible apply a_fadI); rfl) | ((with_reducible apply w_load); rfl; rfl; rfl) | ((with_reducible apply w_loadI); rfl) | ((with_reducible apply w_loadA); rfl; rfl; first | exact Nat.le_refl _ | exact Nat.le_of_ble_eq_true rfl) | ((with_reducible apply a_eqA); rfl; rfl; rfl) | ((with_reducible apply a_loadAI); rfl; first | rfl | simp) | ((with_reducible apply w_new); first | rfl | simp) | ((with_reducible apply a_store); rfl; rfl; rfl; rfl; (first | exact Nat.le_refl _ | simp); (first | rfl | simp); (first | rfl | simp)) | ((with_reducible apply a_lenS); rfl; intro _) | ((with_reducible apply a_len); rfl; (first | rfl | simp); intro _) | ((with_reducible apply a_build); rfl) | ((with_reducible apply a_extr); rfl; rfl) | ((with_reducible apply a_cond); rfl) | ((with_reducible apply a_guard); rfl) | (with_reducible intro _))
            all_goals exact .pure (by simp) rfl
          | true =>
            refine a_guard1 rfl rfl ?_
            refine w_fad rfl ?_
            refine w_loadA (id := 0) (n := 3) rfl rfl (by show 3 ≤ 4; decide) ?_
            refine w_fad rfl ?_
            refine w_loadA (id := 1) (n := 3) rfl rfl (by show 3 ≤ 4; decide) ?_
            refine a_eqA (xs := [int a.w0, int a.w1, int a.w2]) (ys := [int b.w0, int b.w1, int b.w2]) rfl rfl hb3 ?_
            refine w_and ?_
            refine a_pick1 rfl rfl ?_
            generalize (decide (a.w0 = b.w0) && (decide (a.w1 = b.w1) && (decide (a.w2 = b.w2) && true))) = x6
            refine w_let ?_
            cases x6 with
            | false =>
              refine a_guard0 rfl rfl ?_
              repeat' (first | (with_reducible first | apply w_let | apply w_and | refine And.intro True.intro ?_) | ((with_reducible first | apply a_lss | apply a_leq | apply a_gtr | apply a_geq | apply a_eql | apply a_neq); rfl; rfl) | ((with_reducible first | apply a_eqlS | apply a_neqS | apply a_eqlB | apply a_neqB); rfl; rfl) | ((with_reducible apply w_add); rfl; rfl; first | assumption | (unfold inI; omega)) | ((with_reducible apply w_sub); rfl; rfl; first | assumption | (unfold inI; omega)) | ((with_reducible apply a_not); rfl) | ((with_reducible apply w_pick_t); rfl) | ((with_reducible apply w_pick_f); rfl) | ((with_reducible apply a_cond1); rfl; first | rfl | assumption) | ((with_reducible apply a_cond0); rfl; first | rfl | assumption) | ((with_reducible apply a_guard1); rfl; first | rfl | assumption) | ((with_reducible apply a_guard0); rfl; first | rfl | assumption) | ((with_reducible apply w_guard_u); rfl) | ((with_reducible apply a_pick1); rfl; first | rfl | assumption) | ((with_reducible apply a_pick0); rfl; first | rfl | assumption) | ((with_reducible apply a_pickN); rfl) | ((with_reducible apply a_condN); rfl) | ((with_reducible apply a_guardN); rfl) | ((with_reducible apply w_fad); rfl) | ((with_reducible apply a_fadI); rfl) | ((with_reducible apply w_load); rfl; rfl; rfl) | ((with_reducible apply w_loadI); rfl) | ((with_reducible apply w_loadA); rfl; rfl; first | exact Nat.le_refl _ | exact Nat.le_of_ble_eq_true rfl) | ((with_reducible apply a_eqA); rfl; rfl; rfl) | ((with_reducible apply a_loadAI); rfl; first | rfl | simp) | ((with_reducible apply w_new); first | rfl | simp) | ((with_reducible apply a_store); rfl; rfl; rfl; rfl; (first | exact Nat.le_refl _ | simp); (first | rfl | simp); (first | rfl | simp)) | ((with_reducible apply a_lenS); rfl; intro _) | ((with_reducible apply a_len); rfl; (first | rfl | simp); intro _) | ((with_reducible apply a_build); rfl) | ((with_reducible apply a_extr); rfl; rfl) | ((with_reducible apply a_cond); rfl) | ((with_reducible apply a_guard); rfl) | (with_reducible intro _))
              all_goals exact .pure (by simp) rfl
            | true =>
              refine a_guard1 rfl rfl ?_
              refine w_fad rfl ?_
              refine w_load (id := 0) (c := int a.order) rfl rfl rfl ?_
              refine w_fad rfl ?_
              refine w_load (id := 1) (c := int b.order) rfl rfl rfl ?_
              refine a_eql rfl rfl ?_
              refine a_pick1 rfl rfl ?_
              exact .pure (by simp) rfl
end Go.Proofs.YtmbpiloibhbmbaaDoor
end

section
namespace Go.Proofs.YtmbpiloibhbmbaaDoor
open Go Go.Aw Go.Nst Go.Stb
set_option maxRecDepth 1000000
/-! ### A block of numbers that is left behind and laid anew -/
def inC (p : List Nat) : List AV := p.map fun i => int (i : Nat)
def oT (k : Nat) (cells : List AV) : Heap := List.replicate k .dead ++ [.blk ⟨3, cells, true⟩]
def oV : Nat → AV
  | 0 => .emp
  | k + 1 => .own k 0 (k + 1) 1
def oH (p : List Nat) : Nat → Heap
  | 0 => []
  | k + 1 => oT k (inC p)
theorem oT_get (k : Nat) (cells : List AV) : (oT k cells)[k]? = some (.blk ⟨3, cells, true⟩) := by simp [oT]
theorem oT_set (k : Nat) (cells cells' : List AV) : (oT k cells).set k (.blk ⟨3, cells', true⟩) = oT k cells' := by simp [oT]
theorem app_o {k : Nat} {p : List Nat} {K : AV → Heap → Prop} (hp : p.length = k) (hk : k < 2 ^ 30) (q : K (.own k 0 (k + 1) 1) (oT k (inC p ++ [int 0]))) : iApp true 3 1 8 (oV k) (.sl 1 [[int 0]]) (oH p k) K := by
  cases k with
  | zero =>
    obtain rfl := List.eq_nil_of_length_eq_zero hp
    exact n_appO (n := 0) (h' := oT 0 [int 0]) (k := 1) rfl srcR_sl rfl (by simp) rfl (by unfold roomA maxLen; omega) rfl rfl q
  | succ k =>
    refine n_appK (n := k + 1) (h' := oT (k + 1) (inC p ++ [int 0])) (cells := inC p) rfl (oT_get k _) (by simp [inC, hp]) (by omega) srcR_sl rfl (by unfold roomA maxLen; simp; omega) (by simp [oH, oT]) ?_ (by simpa using q)
    have : (inC p).take ((k + 1) * 1) = inC p := List.take_of_length_le (by simp [inC, hp])
    rw [this]
    simp [oH, oT, List.replicate_succ']
theorem a_lenO {id n : Nat} {K : AV → Prop} (q : K (int (n : Nat))) : iLen (.own id 0 n 1) K := by rw [iLen_o]; exact fun _ => q
theorem con_places (l : List Dc) (hall : ∀ d ∈ l, okD d = true) (hl : l.length ≤ 40) : Con Tryd.prog 21 [.sl 11 (encDs l)] (.sl 1 ((plcN ltD dc0 l l.length).map fun i => [int (i : Nat)])) := by
  have pr : ∀ p : List Nat, PureR (p.map fun i => [int (i : Nat)]) := fun p => by
    induction p with
    | nil => simp [PureR]
    | cons x p ih => simp only [List.map_cons, PureR]; exact ⟨by simp, ih⟩
  refine (V21 _).gives (by simp [encDs_pure]) (by rw [Aw.Pure]; exact pr _) ?_
  unfold W21
  refine iLoop_of (α := Nat) (fun k => k ≤ l.length) (fun k => [oV k, int k]) (fun k => oH (plcN ltD dc0 l k) k) (fun k => l.length - k) 0 (by omega) ?_ ?_
  · exact Wk.nil (n := 0) (s := [.v (.slice none 0 0), int 0]) (h := []) (by simp) 0 rfl
  intro k hk
  refine a_len (n := l.length) rfl (encDs_len l) fun _ => ?_
  refine a_lss rfl rfl ?_
  obtain ⟨p, hp⟩ : ∃ p, p = plcN ltD dc0 l k := ⟨_, rfl⟩
  have hpl : p.length = k := by rw [hp]; exact plcN_len ..
  have hps : Srt (Stb.ltI ltD dc0 l) p := by rw [hp]; exact plcN_srt dc0 l ltD_wk k
  have hpm : ∀ i ∈ p, i < k := fun i hi => plcN_mem ltD dc0 l (by rw [← hp]; exact hi)
  have hpn : plcN ltD dc0 l (k + 1) = ins (Stb.ltI ltD dc0 l) k p := by rw [hp]; exact plcN_succ ltD dc0 l k
  rw [← hp]
  rcases Nat.lt_or_ge k l.length with q | q
  · obtain ⟨x, hx⟩ : ∃ x, l[k]? = some x := ⟨_, List.getElem?_eq_getElem q⟩
    have ox := hall x (List.mem_of_getElem? hx)
    have gx : l.getD k dc0 = x := by rw [List.getD_eq_getElem?_getD, hx]; rfl
    refine a_cond1 rfl (by simpa using q) ?_
    have len0 : ∀ K : AV → Prop, K (int (k : Nat)) → iLen (oV k) K := fun K z => by
      cases k with
      | zero => exact z
      | succ k => exact a_lenO z
    refine len0 _ ?_
    refine iLoop_of (α := Nat) (fun m => m ≤ k ∧ ∀ y ∈ p.drop m, Stb.ltI ltD dc0 l k y = true) (fun m => [int m]) (fun _ => oH p k) (fun m => m) k ⟨Nat.le_refl _, by rw [List.drop_of_length_le (by omega)]; simp⟩ (Wk.refl _ _ _ (Nat.le_refl _)) ?_
    rintro m ⟨hm, hgt⟩
    refine a_gtr rfl rfl ?_
    have step : ∀ m, m ≤ k → (∀ y ∈ p.drop m, Stb.ltI ltD dc0 l k y = true) → (∀ y ∈ p.take m, Stb.ltI ltD dc0 l k y = false) → inC (plcN ltD dc0 l (k + 1)) = inC (p.take m) ++ int (k : Nat) :: inC (p.drop m) := fun m _ z1 z2 => by
      have := ins_split (lt := Stb.ltI ltD dc0 l) (x := k) z2 z1
      rw [List.take_append_drop] at this
      rw [hpn, this]
      simp [inC]
    by_cases hm0 : 0 < m
    case' pos =>
      obtain ⟨j, hkj, hV, hH⟩ : ∃ j, k = j + 1 ∧ oV k = .own j 0 k 1 ∧ oH p k = oT j (inC p) := by
        cases k with
        | zero => omega
        | succ j => exact ⟨j, rfl, rfl, rfl⟩
      obtain ⟨i, hi⟩ : ∃ i, p[m - 1]? = some i := ⟨_, List.getElem?_eq_getElem (by omega)⟩
      have hil := hpm i (List.mem_of_getElem? hi)
      obtain ⟨y, hy⟩ : ∃ x, l[i]? = some x := ⟨l[i]'(by omega), List.getElem?_eq_getElem _⟩
      have oy := hall y (List.mem_of_getElem? hy)
      have gy : l.getD i dc0 = y := by rw [List.getD_eq_getElem?_getD, hy]; rfl
      refine w_let ?_
      refine a_guard1 rfl (by simpa using hm0) ?_
      refine a_idx (f := encD) rfl rfl rfl hx ?_
      refine a_loadAI rfl (encD_len x) ?_
      refine w_sub rfl rfl (by unfold inI; omega) ?_
      refine a_idxOw (id := j) (off := 0) (len := k) (n := m - 1) hV (int_eq (by omega)) (by omega) ?_
      refine w_load (id := j) (o := 0 + (m - 1) * 1) (c := int (i : Nat)) (b := ⟨3, inC p, true⟩) rfl (by rw [hH]; exact oT_get j _) (by rw [Nat.zero_add, Nat.mul_one]; simp [inC, hi]) ?_
      refine a_idx (f := encD) (n := i) rfl rfl rfl hy ?_
      refine a_loadAI rfl (encD_len y) ?_
      refine w_callQ rfl (by kernel_rfl) (con_Less x y ox oy) ?_
      refine a_pick1 rfl (by simpa using hm0) ?_
      refine a_cond rfl (fun hc => ?_) (fun hc => ?_)
      · refine w_sub rfl rfl (by unfold inI; omega) ?_
        refine w_and ?_
        refine ⟨m - 1, ⟨by omega, fun z hz => ?_⟩, ?_, by omega⟩
        · rw [List.drop_eq_getElem_cons (by omega : m - 1 < p.length), (List.getElem?_eq_some_iff.1 hi).2] at hz
          rcases List.mem_cons.1 hz with rfl | hz
          · unfold Stb.ltI; rw [gx, gy]; exact hc
          · exact hgt z (by rwa [show m - 1 + 1 = m by omega] at hz)
        · rw [int_eq (x := (m : Int) - 1) (y := ((m - 1 : Nat) : Int)) (by omega)]
          exact Wk.refl _ _ _ (Nat.le_refl _)
      have hlow : ∀ z ∈ p.take m, Stb.ltI ltD dc0 l k z = false := fun z hz => by
        obtain ⟨i', hi', ez⟩ := mem_take hz
        refine (ltI_wk dc0 l ltD_wk).ntr _ _ _ ?_ (hps.le (ltI_wk dc0 l ltD_wk) (show i' ≤ m - 1 by omega) ez hi)
        unfold Stb.ltI; rw [gx, gy]; exact hc
    case' neg =>
      refine w_let ?_
      refine a_guard0 rfl (by simpa using hm0) ?_
      refine a_pick0 rfl (by simpa using hm0) ?_
      refine a_cond0 rfl rfl ?_
      have hlow : ∀ z ∈ p.take m, Stb.ltI ltD dc0 l k z = false := fun z hz => by
        obtain rfl : m = 0 := by omega
        simp at hz
    all_goals
      refine a_mkSlP (cs := [int 0]) rfl ?_
      refine app_o hpl (by omega) ?_
      refine a_lenO ?_
      refine w_sub rfl rfl (by unfold inI; omega) ?_
      refine iLoop_of (α := Nat × AV) (fun z => m ≤ z.1 ∧ z.1 ≤ k) (fun z => [int (z.1 : Nat)]) (fun z => oT k (inC (p.take z.1) ++ z.2 :: inC (p.drop z.1))) (fun z => z.1) (k, int 0) ⟨by show m ≤ k; omega, Nat.le_refl _⟩ ?_ ?_
      · show Aw.Wk _ _ _ [int ((k : Nat) : Int)] (oT k (inC (p.take k) ++ int 0 :: inC (p.drop k)))
        rw [List.take_of_length_le (by omega), List.drop_of_length_le (by omega), int_eq (x := ((k + 1 : Nat) : Int) - 1) (y := ((k : Nat) : Int)) (by omega)]
        exact Wk.refl _ _ _ (Nat.le_refl _)
      rintro ⟨n, v⟩ ⟨hn1, hn2⟩
      simp only at hn1 hn2
      refine a_gtr rfl rfl ?_
      rcases Nat.lt_or_ge m n with qn | qn
      · obtain ⟨i, hi⟩ : ∃ i, p[n - 1]? = some i := ⟨_, List.getElem?_eq_getElem (by omega)⟩
        have e1 : inC (p.take n) = inC (p.take (n - 1)) ++ [int (i : Nat)] := by
          have := List.take_add_one (l := p) (i := n - 1)
          rw [show n - 1 + 1 = n by omega, hi] at this
          rw [this]; simp [inC]
        have e2 : inC (p.drop (n - 1)) = int (i : Nat) :: inC (p.drop n) := by
          rw [List.drop_eq_getElem_cons (by omega : n - 1 < p.length), (List.getElem?_eq_some_iff.1 hi).2, show n - 1 + 1 = n by omega]; simp [inC]
        have l1 : (inC (p.take (n - 1))).length = n - 1 := by simp [inC]; omega
        have l2 : (inC (p.drop n)).length = k - n := by simp [inC]; omega
        refine a_cond1 rfl (by simpa using qn) ?_
        refine w_sub rfl rfl (by unfold inI; omega) ?_
        refine a_idxOw (n := n - 1) rfl (int_eq (by omega)) (by omega) ?_
        refine w_load (id := k) (o := 0 + (n - 1) * 1) (c := int (i : Nat)) rfl (oT_get k _) (by
          rw [e1, Nat.zero_add, Nat.mul_one, List.append_assoc, List.getElem?_append_right (by omega), l1]; simp) ?_
        refine a_idxOw (n := n) rfl rfl (by omega) ?_
        refine a_store (id := k) (o := 0 + n * 1) (cs := [int (i : Nat)]) rfl (oT_get k _) rfl rfl (by rw [e1]; simp [l1, l2]; omega) rfl rfl ?_
        refine w_sub rfl rfl (by unfold inI; omega) ?_
        refine w_and ?_
        refine ⟨(n - 1, int (i : Nat)), ⟨by show m ≤ n - 1; omega, by show n - 1 ≤ k; omega⟩, ?_, by show n - 1 < n; omega⟩
        show Aw.Wk _ _ _ [int ((n - 1 : Nat) : Int)] (oT k (inC (p.take (n - 1)) ++ int (i : Nat) :: inC (p.drop (n - 1))))
        rw [int_eq (x := (n : Int) - 1) (y := ((n - 1 : Nat) : Int)) (by omega), e2, setAll_one, oT_set, e1]
        have : (inC (p.take (n - 1)) ++ [int (i : Nat)] ++ v :: inC (p.drop n)).set (0 + n * 1) (int (i : Nat)) = inC (p.take (n - 1)) ++ int (i : Nat) :: int (i : Nat) :: inC (p.drop n) := by
          rw [Nat.zero_add, Nat.mul_one, List.set_append_right _ _ (by simp [l1]; omega)]
          rw [show n - (inC (p.take (n - 1)) ++ [int (i : Nat)]).length = 0 by simp [l1]; omega]
          simp
        rw [this]
        exact Wk.refl _ _ _ (by simp [oT])
      · obtain rfl : n = m := by omega
        have l1 : (inC (p.take n)).length = n := by simp [inC]; omega
        have l2 : (inC (p.drop n)).length = k - n := by simp [inC]; omega
        refine a_cond0 rfl (by simp) ?_
        refine a_idxOw (n := n) rfl rfl (by omega) ?_
        refine a_store (id := k) (o := 0 + n * 1) (cs := [int (k : Nat)]) rfl (oT_get k _) rfl rfl (by simp [l1, l2]) rfl rfl ?_
        refine w_add rfl rfl (by unfold inI; omega) ?_
        refine w_and ?_
        refine ⟨k + 1, q, ?_, by omega⟩
        show Aw.Wk _ _ _ [.own k 0 (k + 1) 1, int ((k + 1 : Nat) : Int)] (oT k (inC (plcN ltD dc0 l (k + 1))))
        rw [setAll_one, oT_set, step n hn2 hgt hlow]
        have : (inC (p.take n) ++ v :: inC (p.drop n)).set (0 + n * 1) (int (k : Nat)) = inC (p.take n) ++ int (k : Nat) :: inC (p.drop n) := by
          rw [Nat.zero_add, Nat.mul_one, List.set_append_right _ _ (by omega), l1]
          simp
        rw [this]
        exact Wk.refl _ _ _ (by simp)
  · obtain rfl : k = l.length := by omega
    refine a_cond0 rfl (by simp) ?_
    refine Gives.of ?_
    rw [hp]
    cases hle : l.length with
    | zero => rfl
    | succ j =>
      show Le (tl 0 (oT j (inC (plcN ltD dc0 l (j + 1)))) 3 (.own j 0 (j + 1) 1)) _
      have hcl : (inC (plcN ltD dc0 l (j + 1))).length = j + 1 := by simp [inC, plcN_len]
      rw [told_own (b := ⟨3, inC (plcN ltD dc0 l (j + 1)), true⟩) (oT_get _ _) rfl (by rw [hcl]; omega)]
      have : chunks 1 (j + 1) (inC (plcN ltD dc0 l (j + 1))) = (plcN ltD dc0 l (j + 1)).map fun i => [int (i : Nat)] := by
        have := chunks_rows (sz := 1) ((plcN ltD dc0 l (j + 1)).map fun i => [int (i : Nat)]) (rows_ok (f := fun i : Nat => [int (i : Nat)]) (fun _ => ⟨rfl, rfl⟩) _)
        rw [List.length_map, plcN_len] at this
        rw [← this]
        congr 1
        simp only [inC]
        generalize plcN ltD dc0 l (j + 1) = p
        induction p with
        | nil => rfl
        | cons x p ih => simp [ih]
      rw [this, mapR_pure _ (pr _)]
      exact Le.refl _
end Go.Proofs.YtmbpiloibhbmbaaDoor
end

section
namespace Go.Proofs.YtmbpiloibhbmbaaDoor
open Go Go.Aw Go.Nst Go.Stb
set_option maxRecDepth 1000000
/-! ### Copies -/
def TwP (n : Nat) : Prop := ∀ (l : List Vl), zVs l ≤ n → Con Tryd.prog 13 [.sl 6 (encVs l)] (.sl 6 (encVs l))
theorem tw_step {n : Nat} (hn : n < 2 ^ 39) (hP : ∀ n', n' < n → TwP n') : TwP n := by
  intro l hz
  refine (V13 _).gives (by simp [pureVs]) (by rw [Aw.Pure]; exact pureVs l) ?_
  unfold W13
  have hlen : (encVs l).length = l.length := by simp [encVs_map]
  have hll := zVs_len l
  refine iLoop_of (α := Nat) (fun k => k ≤ l.length) (fun k => [.sb 0 6 (encVs (l.take k)), int k]) (fun k => [.tok 57 6 k]) (fun k => l.length - k) 0 (by simp) ?_ ?_
  · have a := Wk.nil (n := 0) (s := [.v (.slice none 0 0), int 0]) (h := []) (by simp) 0 rfl
    have b := Wk.tok (n := 0) (s := [.emp, int 0]) (h := []) (by simp) 0 57 6 rfl
    simpa [encVs] using a.trans b
  intro k hk
  refine a_len (n := l.length) rfl hlen fun _ => ?_
  refine a_lss rfl rfl ?_
  rcases Nat.lt_or_ge k l.length with q | q
  · obtain ⟨x, hx⟩ : ∃ x, l[k]? = some x := ⟨l[k], List.getElem?_eq_getElem q⟩
    have hzv := zVs_mem (List.mem_of_getElem? hx)
    have d1 := encVs_snoc hx
    obtain ⟨kd, tx, nu, un', fl, l2⟩ := x
    rw [zV] at hzv
    have hrec := hP (zVs l2) (by omega) l2 (Nat.le_refl _)
    obtain ⟨R, hR⟩ : ∃ R, encVs (l.take k) = R := ⟨_, rfl⟩
    have hRl : R.length = k := by rw [← hR, encVs_map, List.length_map, List.length_take]; omega
    rw [hR] at d1 ⊢
    refine a_cond1 rfl (by simpa using q) ?_
    refine a_idx (f := encV) rfl (encVs_map l) rfl hx ?_
    refine a_fadI rfl ?_
    refine a_loadAT rfl (by show 5 ≤ 6; decide) ?_
    refine a_idx (f := encV) rfl (encVs_map l) rfl hx ?_
    refine a_fadI rfl ?_
    refine w_loadI (c := .sl 6 (encVs l2)) (r := []) (by rw [encV]; rfl) ?_
    refine w_callQ rfl (by kernel_rfl) hrec ?_
    rw [encV] at d1 ⊢
    refine a_build (cs := [u1 kd, .str tx, int nu, .str un', Aw.bool fl, .sl 6 (encVs l2)]) rfl ?_
    refine a_mkSlP (cs := [u1 kd, .str tx, int nu, .str un', Aw.bool fl, .sl 6 (encVs l2)]) rfl ?_
    refine n_appB (h' := [_]) (id := 0) (k := k) (base := R) (rows := [[u1 kd, .str tx, int nu, .str un', Aw.bool fl, .sl 6 (encVs l2)]]) rfl rfl hRl.symm srcR_sl rfl (by unfold roomA maxLen; simp; omega) rfl ?_
    refine w_add rfl rfl (by unfold inI; omega) ?_
    refine w_and ?_
    refine ⟨k + 1, q, ?_, by omega⟩
    rw [d1]
    exact Wk.refl _ _ _ (by simp)
  · obtain rfl : k = l.length := by omega
    rw [List.take_length]
    refine a_cond0 rfl (by simp) ?_
    refine Gives.of ?_
    have pr := pureVs l
    simp [tl, tlA]
    rw [tlR_pure _ _ _ _ pr]
theorem con_TwinV (l : List Vl) (hz : zVs l < 2 ^ 39) : Con Tryd.prog 13 [.sl 6 (encVs l)] (.sl 6 (encVs l)) := by
  have : ∀ n, n < 2 ^ 39 → TwP n := by
    intro n
    induction n using Nat.strongRecOn with
    | _ n ih => exact fun hn => tw_step hn fun n' h => ih n' h (by omega)
  exact this _ hz l (Nat.le_refl _)
theorem encDs_snoc {l : List Dc} {k : Nat} {x : Dc} (h : l[k]? = some x) : encDs (l.take (k + 1)) = encDs (l.take k) ++ [encD x] := by
  unfold encDs; rw [List.take_add_one, h]; simp
theorem con_Twin (l : List Dc) (hs : ∀ d ∈ l, smallD d) (hl : l.length < 2 ^ 38) : Con Tryd.prog 5 [.sl 11 (encDs l)] (.sl 11 (encDs l)) := by
  refine (V5 _).gives (by simp [encDs_pure]) (by rw [Aw.Pure]; exact encDs_pure l) ?_
  unfold W5
  refine iLoop_of (α := Nat) (fun k => k ≤ l.length) (fun k => [.sb 0 11 (encDs (l.take k)), int k]) (fun k => [.tok 43 11 k]) (fun k => l.length - k) 0 (by simp) ?_ ?_
  · have a := Wk.nil (n := 0) (s := [.v (.slice none 0 0), int 0]) (h := []) (by simp) 0 rfl
    have b := Wk.tok (n := 0) (s := [.emp, int 0]) (h := []) (by simp) 0 43 11 rfl
    simpa [encDs] using a.trans b
  intro k hk
  refine a_len (n := l.length) rfl (encDs_len l) fun _ => ?_
  refine a_lss rfl rfl ?_
  rcases Nat.lt_or_ge k l.length with q | q
  · obtain ⟨x, hx⟩ : ∃ x, l[k]? = some x := ⟨l[k], List.getElem?_eq_getElem q⟩
    obtain ⟨z1, _, _⟩ := hs x (List.mem_of_getElem? hx)
    have d1 := encDs_snoc hx
    have pr := encDs_pure (l.take (k + 1))
    obtain ⟨R, hR⟩ : ∃ R, encDs (l.take k) = R := ⟨_, rfl⟩
    have hRl : R.length = k := by rw [← hR, encDs_len, List.length_take]; omega
    rw [hR] at d1 ⊢
    refine a_cond1 rfl (by simpa using q) ?_
    refine a_idx (f := encD) rfl rfl rfl hx ?_
    refine a_loadAI rfl (encD_len x) ?_
    refine n_new (n := 1) (h' := [_, _]) rfl rfl rfl rfl ?_
    refine n_store (h' := [_, _]) (id := 1) (o := 0) (cs := encD x) rfl rfl rfl rfl (Nat.le_refl _) rfl rfl rfl ?_
    refine w_fad rfl ?_
    refine w_fad rfl ?_
    refine w_load (id := 1) (c := .sl 6 (encVs x.value)) rfl rfl rfl ?_
    refine w_call rfl (by kernel_rfl) (con_TwinV x.value z1) ?_
    refine w_fad rfl ?_
    refine w_fad rfl ?_
    refine n_store (h' := [.tok 43 11 k, blkD 43 [x]]) (id := 1) (o := 0 + 0 + 1) (cs := [.sl 6 (encVs x.value)]) rfl rfl rfl rfl (by show 0 + 0 + 1 + 1 ≤ 11; decide) rfl rfl rfl ?_
    refine w_loadA (id := 1) (n := 11) rfl rfl (by show 11 ≤ 11; decide) ?_
    refine a_mkSlP (cs := encD x) rfl ?_
    refine n_appB (h' := [_, _]) (id := 0) (k := k) (base := R) (rows := [encD x]) rfl rfl hRl.symm srcR_sl rfl (by unfold roomA maxLen; simp; omega) rfl ?_
    refine w_add rfl rfl (by unfold inI; omega) ?_
    refine w_and ?_
    refine ⟨k + 1, q, ?_, by omega⟩
    rw [d1] at pr ⊢
    exact Wk.back (n := 0) (M := 1) (by simp) (by simp) rfl rfl (by simp [entB]) (by
      have hb := Bd_pure 1 (.sl 11 (R ++ [encD x])) (by rw [Aw.Pure]; exact pr)
      rw [Bd] at hb
      simp [Bd, hb])
  · obtain rfl : k = l.length := by omega
    rw [List.take_length]
    refine a_cond0 rfl (by simp) ?_
    refine Gives.of ?_
    have pr := encDs_pure l
    simp [tl, tlA]
    rw [tlR_pure _ _ _ _ pr]
/-! ### Sorted, and the winner -/
theorem stab_take {l : List Dc} {k i : Nat} {x : Dc} (hi : (plcN ltD dc0 l l.length)[k]? = some i) (hx : l[i]? = some x) : (stab ltD l)[k]? = some x := by
  rw [← plc_map ltD dc0 l, List.getElem?_map, hi]
  simp [List.getD_eq_getElem?_getD, hx]
theorem con_Sorted (l : List Dc) (hs : ∀ d ∈ l, smallD d) (hall : ∀ d ∈ l, okD d = true) (hl : l.length ≤ 40) : Con Tryd.prog 20 [.sl 11 (encDs l)] (.sl 11 (encDs (stab ltD l))) := by
  refine (V20 _).gives (by simp [encDs_pure]) (by rw [Aw.Pure]; exact encDs_pure _) ?_
  unfold W20
  refine w_call rfl (by kernel_rfl) (con_places l hall hl) ?_
  obtain ⟨p, hp⟩ : ∃ p, p = plcN ltD dc0 l l.length := ⟨_, rfl⟩
  have hpl : p.length = l.length := by rw [hp]; exact plcN_len ..
  have hpm : ∀ i ∈ p, i < l.length := fun i hi => plcN_mem ltD dc0 l (by rw [← hp]; exact hi)
  obtain ⟨S, hS⟩ : ∃ S, S = stab ltD l := ⟨_, rfl⟩
  have hSl : S.length = l.length := by rw [hS]; exact stab_len l
  rw [← hp, ← hS]
  refine iLoop_of (α := Nat) (fun k => k ≤ l.length) (fun k => [.sb 0 11 (encDs (S.take k)), int k]) (fun k => [.tok 43 11 k]) (fun k => l.length - k) 0 (by simp) ?_ ?_
  · have a := Wk.nil (n := 0) (s := [.v (.slice none 0 0), int 0]) (h := []) (by simp) 0 rfl
    have b := Wk.tok (n := 0) (s := [.emp, int 0]) (h := []) (by simp) 0 43 11 rfl
    simpa [encDs] using a.trans b
  intro k hk
  refine a_len (n := l.length) rfl (by rw [List.length_map, hpl]) fun _ => ?_
  refine a_lss rfl rfl ?_
  rcases Nat.lt_or_ge k l.length with q | q
  · obtain ⟨i, hi⟩ : ∃ x, p[k]? = some x := ⟨p[k]'(by omega), List.getElem?_eq_getElem _⟩
    have hil := hpm i (List.mem_of_getElem? hi)
    obtain ⟨x, hx⟩ : ∃ x, l[i]? = some x := ⟨l[i], List.getElem?_eq_getElem hil⟩
    have hSx : S[k]? = some x := by rw [hS]; exact stab_take (by rw [← hp]; exact hi) hx
    have hsx := hs x (List.mem_of_getElem? hx)
    have d1 := encDs_snoc hSx
    obtain ⟨R, hR⟩ : ∃ R, encDs (S.take k) = R := ⟨_, rfl⟩
    have hRl : R.length = k := by rw [← hR, encDs_len, List.length_take]; omega
    rw [hR] at d1 ⊢
    refine a_cond1 rfl (by simpa using q) ?_
    refine a_idx (f := fun i : Nat => [int (i : Nat)]) rfl rfl rfl hi ?_
    refine w_loadI rfl ?_
    refine a_idx (f := fun i : Nat => [int (i : Nat)]) rfl rfl rfl hi ?_
    refine w_loadI rfl ?_
    refine w_add rfl rfl (by unfold inI; omega) ?_
    rw [iSl_s]
    simp only [optI, encDs_len]
    refine ⟨trivial, ⟨by omega, by omega, by omega⟩, ?_⟩
    have e1 : List.drop ((i : Int)).toNat (List.take ((i : Int) + 1).toNat (encDs l)) = encDs [x] := by
      rw [show ((i : Int) + 1).toNat = i + 1 by omega, Int.toNat_natCast]
      unfold encDs
      rw [← List.map_take, ← List.map_drop, List.take_add_one, hx, List.drop_append_of_le_length (by rw [List.length_take]; omega), List.drop_of_length_le (by rw [List.length_take]; omega)]
      rfl
    rw [e1]
    refine w_callQ rfl (by kernel_rfl) (con_Twin [x] (by simpa using hsx) (by simp)) ?_
    refine n_appB (h' := [_]) (id := 0) (k := k) (base := R) (rows := [encD x]) rfl rfl hRl.symm srcR_sl rfl (by unfold roomA maxLen; simp; omega) rfl ?_
    refine w_add rfl rfl (by unfold inI; omega) ?_
    refine ⟨trivial, ?_⟩
    refine ⟨k + 1, q, ?_, by omega⟩
    rw [d1]
    exact Wk.refl _ _ _ (by simp)
  · have hk : k = l.length := by omega
    subst hk
    rw [List.take_of_length_le (by omega)]
    refine a_cond0 rfl (by simp) ?_
    refine Gives.of ?_
    have pr := encDs_pure S
    simp [tl, tlA]
    rw [tlR_pure _ _ _ _ pr]
theorem con_rSort (l : List Dc) (hs : ∀ d ∈ l, smallD d) (hl : l.length ≤ 40) : Con Tryd.prog 7 [.sl 11 (encDs l)] (sortT l) := by
  refine (V7 _).gives (by simp [encDs_pure]) (sortT_pure l) ?_
  unfold W7
  refine w_call rfl (by kernel_rfl) (con_All l hs (by omega)) ?_
  refine a_neq rfl rfl ?_
  unfold sortT
  by_cases h0 : eL l = 0
  rotate_left
  · refine a_cond1 rfl (by simp [h0]) ?_
    exact .pure (by simp) (by rw [if_neg h0, eL_not h0])
  refine a_cond0 rfl (by simp [h0]) ?_
  rw [if_pos h0]
  refine w_call rfl (by kernel_rfl) (con_Sorted l hs (eL_all h0) hl) ?_
  exact .pure (by simp [encDs_pure]) rfl
theorem winN_last (l : List Dc) (name : Str) : winN l name l.length = lastP (fun i => decide ((l.getD i dc0).name = name)) (plcN ltD dc0 l l.length) := winF_stab (ltI_wk dc0 l ltD_wk) _ _
theorem lastP_snoc {α : Type} (p : α → Bool) (l : List α) (x : α) : lastP p (l ++ [x]) = if p x = true then some x else lastP p l := by
  rw [lastP_app, lastP_cons]
  show ((none : Option α).or (if p x = true then some x else none)).or (lastP p l) = _
  by_cases q : p x = true
  · rw [if_pos q, if_pos q]; rfl
  · rw [if_neg q, if_neg q]; rfl
theorem con_rWinner (l : List Dc) (name : Str) (hs : ∀ d ∈ l, smallD d) (hl : l.length ≤ 40) : Con Tryd.prog 9 [.sl 11 (encDs l), .str name] (winT l name) := by
  refine (V9 _ _).gives (by simp [encDs_pure]) (winT_pure l name) ?_
  unfold W9
  refine w_call rfl (by kernel_rfl) (con_All l hs (by omega)) ?_
  refine a_neq rfl rfl ?_
  unfold winT
  by_cases h0 : eL l = 0
  rotate_left
  · refine a_cond1 rfl (by simp [h0]) ?_
    exact .pure (by simp) (by rw [if_neg h0, eL_not h0])
  refine a_cond0 rfl (by simp [h0]) ?_
  rw [if_pos h0]
  refine w_call rfl (by kernel_rfl) (con_places l (eL_all h0) hl) ?_
  have hwl := winN_last l name
  obtain ⟨p, hp⟩ : ∃ p, p = plcN ltD dc0 l l.length := ⟨_, rfl⟩
  have hpl : p.length = l.length := by rw [hp]; exact plcN_len ..
  have hpm : ∀ i ∈ p, i < l.length := fun i hi => plcN_mem ltD dc0 l (by rw [← hp]; exact hi)
  rw [← hp] at hwl ⊢
  obtain ⟨w, hw⟩ : ∃ w, winN l name l.length = w := ⟨_, rfl⟩
  rw [hw] at hwl ⊢
  refine a_len (n := l.length) rfl (by rw [List.length_map, hpl]) fun _ => ?_
  refine w_sub rfl rfl (by unfold inI; omega) ?_
  refine iLoop_of (α := Nat) (fun k => k ≤ l.length ∧ w = lastP (fun i => decide ((l.getD i dc0).name = name)) (p.take k)) (fun k => [int ((k : Int) - 1)]) (fun _ => []) (fun k => k) l.length ⟨Nat.le_refl _, by rw [List.take_of_length_le (by omega)]; exact hwl⟩ (Wk.refl _ _ _ (by simp)) ?_
  rintro k ⟨hk, hf⟩
  refine a_geq rfl rfl ?_
  cases k with
  | zero =>
    refine a_cond0 rfl (by simp) ?_
    have : w = none := hf
    rw [this]
    exact .pure (by simp) rfl
  | succ k =>
    obtain ⟨i, hi⟩ : ∃ x, p[k]? = some x := ⟨p[k]'(by omega), List.getElem?_eq_getElem _⟩
    have hil := hpm i (List.mem_of_getElem? hi)
    obtain ⟨x, hx⟩ : ∃ x, l[i]? = some x := ⟨l[i], List.getElem?_eq_getElem hil⟩
    have gx : l.getD i dc0 = x := by rw [List.getD_eq_getElem?_getD, hx]; rfl
    have et : p.take (k + 1) = p.take k ++ [i] := by rw [List.take_add_one, hi]; rfl
    rw [et, lastP_snoc, gx] at hf
    refine a_cond1 rfl (by simp) ?_
    refine a_idx (f := fun i : Nat => [int (i : Nat)]) (n := k) rfl rfl (int_eq (by omega)) hi ?_
    refine w_loadI rfl ?_
    refine a_idx (f := encD) (n := i) rfl rfl rfl hx ?_
    refine a_fadI rfl ?_
    refine a_fadI rfl ?_
    refine w_loadI (c := .str x.name) rfl ?_
    refine a_eqlS rfl rfl ?_
    by_cases hn : x.name = name
    · have e1 : decide (x.name = name) = true := by simpa using hn
      rw [e1, if_pos rfl] at hf
      rw [e1]
      refine a_cond1 rfl rfl ?_
      refine a_idx (f := fun i : Nat => [int (i : Nat)]) (n := k) rfl rfl (int_eq (by omega)) hi ?_
      refine w_loadI rfl ?_
      rw [hf]
      exact .pure (by simp) rfl
    · have e1 : decide (x.name = name) = false := by simpa using hn
      rw [e1, if_neg (by simp)] at hf
      rw [e1]
      refine a_cond0 rfl rfl ?_
      refine w_sub rfl rfl (by unfold inI; omega) ?_
      refine w_and ?_
      refine ⟨k, ⟨by omega, hf⟩, ?_, by omega⟩
      rw [int_eq (x := ((k + 1 : Nat) : Int) - 1 - 1) (y := (k : Int) - 1) (by omega)]
      exact Wk.refl _ _ _ (by simp)
theorem con_SameL (l : List Dc) (hs : ∀ d ∈ l, smallD d) (hl : l.length ≤ 40) : Con Tryd.prog 10 [.sl 11 (encDs l), .sl 11 (encDs l)] (bool true) := by
  refine (V10 _ _).gives (by simp [encDs_pure]) (by simp) ?_
  unfold W10
  refine a_len (n := l.length) rfl (encDs_len l) fun _ => ?_
  refine a_len (n := l.length) rfl (encDs_len l) fun _ => ?_
  refine a_neq rfl rfl ?_
  refine a_cond0 rfl (by simp) ?_
  refine iLoop_of (α := Nat) (fun k => k ≤ l.length) (fun k => [int k]) (fun _ => []) (fun k => l.length - k) 0 (by omega) (Wk.refl _ _ _ (by simp)) ?_
  intro k hk
  refine a_len (n := l.length) rfl (encDs_len l) fun _ => ?_
  refine a_lss rfl rfl ?_
  rcases Nat.lt_or_ge k l.length with q | q
  · obtain ⟨x, hx⟩ : ∃ x, l[k]? = some x := ⟨l[k], List.getElem?_eq_getElem q⟩
    have hsx := hs x (List.mem_of_getElem? hx)
    refine a_cond1 rfl (by simpa using q) ?_
    refine a_idx (f := encD) rfl rfl rfl hx ?_
    refine a_loadAI rfl (encD_len x) ?_
    refine a_idx (f := encD) rfl rfl rfl hx ?_
    refine a_loadAI rfl (encD_len x) ?_
    refine w_callQ rfl (by kernel_rfl) (con_SameOne x x hsx hsx) ?_
    rw [sameB_self]
    refine a_not rfl ?_
    refine a_cond0 rfl rfl ?_
    refine w_add rfl rfl (by unfold inI; omega) ?_
    refine w_and ?_
    exact ⟨k + 1, q, Wk.refl _ _ _ (by simp), by omega⟩
  · refine a_cond0 rfl (by simp; omega) ?_
    exact .pure (by simp) rfl
/-! ### The law -/
theorem great_len {l : List Dc} (h : greatL l = false) : l.length ≤ 40 := by
  unfold greatL at h
  simp only [Bool.or_eq_false_iff, decide_eq_false_iff_not] at h
  omega
theorem sortT_tup (l : List Dc) : ∃ a e, sortT l = .tup [a, int e] := by unfold sortT; split <;> exact ⟨_, _, rfl⟩
set_option maxHeartbeats 4000000 in
theorem con_SorterSorts (l : List Dc) (name : Str) (hs : ∀ d ∈ l, smallD d) (hl : l.length < 2 ^ 38) : Con Tryd.prog 3 [.sl 11 (encDs l), .str name] (bool true) := by
  refine (V3 _ _).gives (by simp [encDs_pure]) (by simp) ?_
  unfold W3
  refine w_call rfl (by kernel_rfl) (con_GreatL l hs (by omega)) ?_
  cases hg : greatL l with
  | true =>
    refine w_let ?_
    refine a_guard0 rfl rfl ?_
    refine w_and ?_
    refine a_pick1 rfl rfl ?_
    refine a_cond1 rfl rfl ?_
    exact .pure (by simp) rfl
  | false =>
    have h40 := great_len hg
    refine w_let ?_
    refine a_guard1 rfl rfl ?_
    refine a_lenS rfl fun _ => ?_
    refine a_gtr rfl rfl ?_
    refine w_and ?_
    refine a_pick0 rfl rfl ?_
    refine a_cond rfl (fun _ => .pure (by simp) rfl) (fun _ => ?_)
    have hS := con_Sort l hs h40
    have hR := con_rSort l hs h40
    have hW := con_Winner l name hs h40
    have hV := con_rWinner l name hs h40
    have hL := con_SameL l hs h40
    obtain ⟨w1, w2, ew⟩ := winT_flat l name
    rw [ew] at hW hV
    refine w_call rfl (by kernel_rfl) (con_Twin l hs hl) ?_
    refine w_call rfl (by kernel_rfl) hS ?_
    obtain ⟨a, e, hae, hsame⟩ : ∃ a e, sortT l = .tup [a, int e] ∧ ∃ a', Con Tryd.prog 10 [a', a'] (bool true) ∧ DLe a a' := by
      unfold sortT
      split
      · rename_i h0
        exact ⟨_, _, rfl, _, con_SameL (stab ltD l) (fun d hd => hs d ((stab_perm l).mem_iff.1 hd)) (by rw [stab_len]; exact h40), .refl _⟩
      · exact ⟨_, _, rfl, .sl 11 (encDs []), con_SameL [] (by simp) (by simp), .nil 11⟩
    obtain ⟨a', hsa, hda⟩ := hsame
    have pa : Aw.Pure a := by have := sortT_pure l; rw [hae] at this; simpa using this.1
    rw [hae] at hS hR ⊢
    refine a_extr rfl rfl ?_
    refine a_extr rfl rfl ?_
    refine w_call rfl (by kernel_rfl) hR ?_
    refine a_extr rfl rfl ?_
    refine a_extr rfl rfl ?_
    refine w_call rfl (by kernel_rfl) hW ?_
    refine a_extr rfl rfl ?_
    refine a_extr rfl rfl ?_
    refine w_call rfl (by kernel_rfl) hV ?_
    refine a_extr rfl rfl ?_
    refine a_extr rfl rfl ?_
    refine iCall_borrowD (by kernel_rfl) hsa (by rw [List.map_cons, List.map_cons, List.map_nil, tl_pureA pa]; exact .cons hda (.cons hda .nil)) (by simp) ?_
    refine w_let ?_
    refine a_guard1 rfl rfl ?_
    refine a_eql rfl rfl ?_
    refine w_and ?_
    refine a_pick1 rfl rfl ?_
    refine w_let ?_
    refine a_guard1 rfl (by simp) ?_
    refine a_eql rfl rfl ?_
    refine w_and ?_
    refine a_pick1 rfl rfl ?_
    refine w_let ?_
    refine a_guard1 rfl (by simp) ?_
    refine a_eql rfl rfl ?_
    refine w_and ?_
    refine a_pick1 rfl rfl ?_
    refine w_let ?_
    refine a_guard1 rfl (by simp) ?_
    refine w_call rfl (by kernel_rfl) hL ?_
    refine a_pick1 rfl rfl ?_
    exact .pure (by simp) rfl
end Go.Proofs.YtmbpiloibhbmbaaDoor
end
