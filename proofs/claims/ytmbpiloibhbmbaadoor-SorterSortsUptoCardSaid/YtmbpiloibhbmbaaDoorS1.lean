/-
  Declarations in a block of the call's own; two stretches change places. Sorting by insertion, and rotating, in a block of the call's own. Rotating, and merging in place. Merging in place. A clone of nothing is nothing.
  No conditions.
-/
import Derived.Test.YtmbpiloibhbmbaaDoorR2
import Derived.Test.YtmbpiloibhbmbaaDoorWSst
import Derived.Test.YtmbpiloibhbmbaaDoorP1
import Derived.Test.YtmbpiloibhbmbaaDoorGrow
import Derived.Test.YtmbpiloibhbmbaaDoorProg
import Derived.Tactics
import Derived.Tactics2
import Derived.Defers
import Derived.Laws.Pointers
import Derived.RegionTactic
import Derived.RegionCalls
import Derived.ChangeAlike
import Derived.KernelRfl
import Derived.WalkKit
import Derived.Test.YtmbpiloibhbmbaaDoorL5
set_option linter.unusedVariables false
set_option linter.unusedSimpArgs false
section
namespace Go.Proofs.YtmbpiloibhbmbaaDoor
open Go Go.Aw Go.Nst Go.Stb
set_option maxRecDepth 1000000
def flD (D : List Dc) : List AV := (D.map encD).flatten
abbrev blkD (t : TypeId) (D : List Dc) : Ent := .blk ⟨t, flD D, true⟩
theorem flD_nil : flD [] = [] := rfl
theorem flD_cons (d : Dc) (D : List Dc) : flD (d :: D) = encD d ++ flD D := by simp [flD]
theorem encD_len (d : Dc) : (encD d).length = 11 := rfl
theorem encD_scal (d : Dc) : (encD d).all scal = true := rfl
theorem flD_len : ∀ D, (flD D).length = D.length * 11
  | [] => rfl
  | d :: D => by rw [flD_cons, List.length_append, flD_len D, encD_len, List.length_cons]; omega
theorem flD_get : ∀ {D : List Dc} {j : Nat} {d : Dc}, D[j]? = some d → ((flD D).drop (j * 11)).take 11 = encD d
  | [], _, _, h => by simp at h
  | x :: D, 0, d, h => by
    simp at h; subst h
    rw [flD_cons, Nat.zero_mul, List.drop_zero, List.take_append_of_le_length (by rw [encD_len]; omega), List.take_of_length_le (by rw [encD_len]; omega)]
  | x :: D, j + 1, d, h => by
    have := flD_get (D := D) (j := j) (d := d) (by simpa using h)
    rw [flD_cons, show (j + 1) * 11 = (encD x).length + j * 11 by rw [encD_len]; omega, List.drop_append, ← this]
    congr 1
    rw [List.drop_of_length_le (by omega), List.nil_append]
    congr 1; omega
theorem flD_app (A B : List Dc) : flD (A ++ B) = flD A ++ flD B := by simp [flD]
theorem flD_set {D : List Dc} {j : Nat} (d : Dc) (h : j < D.length) : setAll (flD D) (j * 11) (encD d) = flD (D.set j d) := by
  obtain ⟨A, x, B, rfl, hA⟩ : ∃ A x B, D = A ++ x :: B ∧ A.length = j := ⟨D.take j, D[j], D.drop (j + 1), by rw [← List.drop_eq_getElem_cons h, List.take_append_drop], by rw [List.length_take]; omega⟩
  subst hA
  have e : (A ++ x :: B).set A.length d = A ++ d :: B := by simp
  rw [e, flD_app, flD_cons, flD_app, flD_cons, show A.length * 11 = (flD A).length by rw [flD_len]]
  exact setAll_mid _ _ _ _ rfl
section
variable {K : AV → Prop} {h : Heap}
theorem s_idx {id n j : Nat} {x i : AV} (e : x = .own id 0 n 11) (ei : i = int j) (hj : j < n) (q : K (.op id (j * 11))) : iIdxP 11 x i K := by
  subst e; subst ei
  rw [iIdxP_o]
  exact ⟨rfl, ⟨by omega, by omega⟩, by simpa using q⟩
theorem get_D {id : Nat} {t : TypeId} {D : List Dc} (hid : id < h.length) : (h.set id (blkD t D))[id]? = some (.blk ⟨t, flD D, true⟩) := by simp [hid]
theorem s_load {id j : Nat} {t : TypeId} {D : List Dc} {d : Dc} (hid : id < h.length) (hd : D[j]? = some d) (q : K (.agg (encD d))) : iLoad true 11 (.op id (j * 11)) (h.set id (blkD t D)) K := by
  have hj := (List.getElem?_eq_some_iff.1 hd).1
  refine w_loadA (b := ⟨t, flD D, true⟩) rfl (get_D hid) (by rw [List.length_drop, flD_len]; omega) ?_
  rw [flD_get hd]; exact q
theorem s_store {id j : Nat} {t : TypeId} {D D' : List Dc} {d : Dc} {KS : Heap → Prop} (hid : id < h.length) (hj : j < D.length) (hD : D.set j d = D') (q : KS (h.set id (blkD t D'))) : iStore 11 (.op id (j * 11)) (.agg (encD d)) (h.set id (blkD t D)) KS := by
  subst hD
  refine a_store (b := ⟨t, flD D, true⟩) (cs := encD d) rfl (get_D hid) rfl rfl (by rw [encD_len, flD_len]; omega) rfl rfl ?_
  rw [flD_set d hj, List.set_set]; exact q
end
theorem int_add (a b : Nat) : int ((a : Int) + (b : Int)) = int ((a + b : Nat) : Int) := by rw [Int.natCast_add]
abbrev cmpF : AV := .fn (.func 18) [] []
theorem acc_swapR {h : Heap} {id : Nat} (hid : id < h.length) (t : TypeId) (D : List Dc) (a b n : Nat) (hab : a + n ≤ b) (hb : b + n ≤ D.length) (hn : D.length < 2 ^ 40) (cm : AV) :
    ACall Tryd.prog 68 [.own id 0 D.length 11, int a, int b, int n, cm] (h.set id (blkD t D)) fun r hh => r = .tup [] ∧ hh = h.set id (blkD t (swR D a b n)) := by
  refine (V68 _ _ _ _ _).acall ?_
  unfold W68
  refine iLoop_of (α := Nat) (fun k => k ≤ n) (fun k => [int k]) (fun k => h.set id (blkD t (swR D a b k))) (fun k => n - k) 0 (by omega) (Wk.refl _ _ _ (by simp)) ?_
  intro k hk
  refine a_lss rfl rfl ?_
  rcases Nat.lt_or_ge k n with q | q
  · obtain ⟨x, hx⟩ : ∃ x, (swR D a b k)[a + k]? = some x := ⟨_, List.getElem?_eq_getElem (by rw [swR_len]; omega)⟩
    obtain ⟨y, hy⟩ : ∃ x, (swR D a b k)[b + k]? = some x := ⟨_, List.getElem?_eq_getElem (by rw [swR_len]; omega)⟩
    have i1 : inI ((a : Int) + (k : Int)) := by unfold inI; omega
    have i2 : inI ((b : Int) + (k : Int)) := by unfold inI; omega
    refine a_cond1 rfl (by simpa using q) ?_
    refine w_add rfl rfl i1 ?_
    refine w_add rfl rfl i2 ?_
    refine w_add rfl rfl i2 ?_
    refine s_idx (j := b + k) rfl (int_add b k) (by omega) ?_
    refine s_load hid hy ?_
    refine w_add rfl rfl i1 ?_
    refine s_idx (j := a + k) rfl (int_add a k) (by omega) ?_
    refine s_load hid hx ?_
    refine s_idx (j := a + k) rfl (int_add a k) (by omega) ?_
    refine s_store hid (by rw [swR_len]; omega) rfl ?_
    refine s_idx (j := b + k) rfl (int_add b k) (by omega) ?_
    refine s_store hid (by rw [List.length_set, swR_len]; omega) (D' := swR D a b (k + 1)) (by rw [swR, swp_eq hx hy]) ?_
    refine w_add rfl rfl (by unfold inI; omega) ?_
    refine w_and ?_
    exact ⟨k + 1, q, Wk.refl _ _ _ (by simp), by omega⟩
  · obtain rfl : k = n := by omega
    refine a_cond0 rfl (by simp) ?_
    exact ⟨_, _, Wk.refl _ _ _ (by simp), rfl, rfl⟩
end Go.Proofs.YtmbpiloibhbmbaaDoor
end

section
namespace Go.Proofs.YtmbpiloibhbmbaaDoor
open Go Go.Aw Go.Nst Go.Stb
set_option maxRecDepth 1000000
theorem int_eq {x y : Int} (h : x = y) : int x = int y := by rw [h]
def ltD (a b : Dc) : Bool := decide (lexL (rkL a) (rkL b) < 0)
theorem cmpI_lt {a b : Int} : cmpI a b < 0 ↔ a < b := by unfold cmpI; split <;> (try split) <;> omega
theorem cmpI_eq {a b : Int} : cmpI a b = 0 ↔ a = b := by unfold cmpI; split <;> (try split) <;> omega
theorem cmpI_neg (a b : Int) : cmpI b a = - cmpI a b := by unfold cmpI; split <;> (try split) <;> (try split) <;> omega
theorem lexL_neg : ∀ x y : List Int, lexL y x = - lexL x y
  | [], [] => rfl
  | [], _ :: _ => rfl
  | _ :: _, [] => rfl
  | a :: x, b :: y => by
    rw [lexL, lexL, cmpI_neg a b, lexL_neg x y]
    by_cases h : cmpI a b = 0
    · rw [if_pos h, if_pos (by omega)]
    · rw [if_neg h, if_neg (by omega)]
theorem lexL_eq : ∀ x y : List Int, x.length = y.length → (lexL x y = 0 ↔ x = y)
  | [], [], _ => by simp [lexL]
  | [], _ :: _, h => by simp at h
  | _ :: _, [], h => by simp at h
  | a :: x, b :: y, h => by
    rw [lexL]
    have ih := lexL_eq x y (by simpa using h)
    by_cases q : cmpI a b = 0
    · rw [if_pos q, ih, List.cons.injEq]; exact ⟨fun e => ⟨cmpI_eq.1 q, e⟩, fun e => e.2⟩
    · rw [if_neg q, List.cons.injEq]; exact ⟨fun e => absurd e q, fun e => absurd (cmpI_eq.2 e.1) q⟩
theorem lexL_tr : ∀ x y z : List Int, lexL x y < 0 → lexL y z < 0 → x.length = y.length → y.length = z.length → lexL x z < 0
  | [], _, _, h, _, _, _ => by simp [lexL] at h
  | _ :: _, [], _, h, _, _, _ => by simp [lexL] at h
  | _ :: _, _ :: _, [], _, h, _, _ => by simp [lexL] at h
  | a :: x, b :: y, c :: z, h, k, e1, e2 => by
    have ih := lexL_tr x y z
    rw [lexL] at h k ⊢
    by_cases q : cmpI a b = 0
    · rw [if_pos q] at h
      obtain rfl := cmpI_eq.1 q
      by_cases q2 : cmpI a c = 0
      · rw [if_pos q2] at k ⊢
        exact ih h k (by simpa using e1) (by simpa using e2)
      · rw [if_neg q2] at k ⊢; exact k
    · rw [if_neg q] at h
      by_cases q2 : cmpI b c = 0
      · obtain rfl := cmpI_eq.1 q2
        rw [if_neg q]; exact h
      · rw [if_neg q2] at k
        have h := cmpI_lt.1 h
        have k := cmpI_lt.1 k
        rw [if_neg (fun e => by have := cmpI_eq.1 e; omega)]
        exact cmpI_lt.2 (by omega)
theorem ltD_wk : Stb.Wk ltD := by
  refine ⟨fun x y h => ?_, fun x y z h k => ?_⟩
  · unfold ltD at *
    have := lexL_neg (rkL x) (rkL y)
    simp only [decide_eq_true_eq, decide_eq_false_iff_not] at *
    omega
  · unfold ltD at *
    simp only [decide_eq_false_iff_not] at *
    intro q
    have e1 : (rkL x).length = (rkL y).length := rfl
    have e2 : (rkL y).length = (rkL z).length := rfl
    have n1 := lexL_neg (rkL x) (rkL y)
    have n2 := lexL_neg (rkL y) (rkL z)
    by_cases q1 : lexL (rkL x) (rkL y) = 0
    · rw [lexL_eq _ _ e1] at q1; rw [q1] at q; exact k q
    · by_cases q2 : lexL (rkL y) (rkL z) = 0
      · rw [lexL_eq _ _ e2] at q2; rw [← q2] at q; exact h q
      · have := lexL_tr (rkL z) (rkL y) (rkL x) (by omega) (by omega) e2.symm e1.symm
        have n3 := lexL_neg (rkL x) (rkL z)
        omega
theorem wk_D {n id : Nat} {s s' : List AV} {h : Heap} {t : TypeId} {D D' : List Dc} (hn : n ≤ h.length) (es : s = s') (e : D = D') : Aw.Wk n s (h.set id (blkD t D)) s' (h.set id (blkD t D')) := by
  subst es; subst e; exact Aw.Wk.refl _ _ _ (by simpa using hn)
theorem stab_one (L : List Dc) : stab ltD (L.take 1) = L.take 1 := by
  cases L with
  | nil => rfl
  | cons x l => simp [stab, ins]
theorem acc_insSort {h : Heap} {id : Nat} (hid : id < h.length) (t : TypeId) (P L R : List Dc) (hok : ∀ d ∈ L, okD d = true) (n a b : Nat) (hl : n = (P ++ (L ++ R)).length) (ha : a = P.length) (hb : b = P.length + L.length) (hn : n < 2 ^ 40) :
    ACall Tryd.prog 36 [.own id 0 n 11, int a, int b, cmpF] (h.set id (blkD t (P ++ (L ++ R)))) fun r hh => r = .tup [] ∧ hh = h.set id (blkD t (P ++ (stab ltD L ++ R))) := by
  have hL : P.length + (L.length + R.length) = n := by rw [hl]; simp
  subst ha
  subst hb
  refine (V36 _ _ _ _).acall ?_
  unfold W36
  refine w_add rfl rfl (by unfold inI; omega) ?_
  refine iLoop_of (α := Nat) (fun k => k = 0 ∨ k + 1 ≤ L.length) (fun k => [int ((P.length : Int) + 1 + k)]) (fun k => h.set id (blkD t (P ++ (stab ltD (L.take (k + 1)) ++ (L.drop (k + 1) ++ R))))) (fun k => L.length - k) 0 (.inl rfl) (wk_D (by simp) (by simp) (by rw [Nat.zero_add, stab_one, ← List.append_assoc (List.take 1 L), List.take_append_drop])) ?_
  intro k hk
  refine a_lss rfl rfl ?_
  rcases Nat.lt_or_ge (k + 1) L.length with q | q
  · obtain ⟨x, hx⟩ : ∃ x, L[k + 1]? = some x := ⟨_, List.getElem?_eq_getElem q⟩
    have hxo := hok x (List.mem_of_getElem? hx)
    obtain ⟨s, hs⟩ : ∃ s, s = stab ltD (L.take (k + 1)) := ⟨_, rfl⟩
    have hsl : s.length = k + 1 := by rw [hs, stab_len, List.length_take]; omega
    have hsr : Srt ltD s := by rw [hs]; exact stab_srt ltD_wk _
    have hso : ∀ y ∈ s, okD y = true := fun y hy => hok y (List.mem_of_mem_take ((stab_perm _).mem_iff.1 (by rw [← hs]; exact hy)))
    have hdr : L.drop (k + 1) = x :: L.drop (k + 2) := by rw [List.drop_eq_getElem_cons q, (List.getElem?_eq_some_iff.1 hx).2]
    have hnx : stab ltD (L.take (k + 2)) = ins ltD x s := by rw [show k + 2 = (k + 1) + 1 by omega, List.take_add_one, hx, hs]; exact stab_snoc _ _
    rw [← hs, hdr]
    refine a_cond1 rfl (by simp; omega) ?_
    refine iLoop_of (α := Nat) (fun m => m ≤ s.length ∧ ∀ y ∈ s.drop m, ltD x y = true) (fun m => [int ((P.length + m : Nat) : Int)]) (fun m => h.set id (blkD t (P ++ (s.take m ++ x :: (s.drop m ++ (L.drop (k + 2) ++ R)))))) (fun m => m) s.length ⟨Nat.le_refl _, by simp⟩ (wk_D (by simp) (by rw [hsl, nx_zero]; exact congrArg (fun z => [int z]) (by omega)) (by simp)) ?_
    rintro m ⟨hm, hgt⟩
    refine a_gtr rfl rfl ?_
    have done : (∀ y ∈ s.take m, ltD x y = false) → ins ltD x s = s.take m ++ x :: s.drop m := fun z => by
      have := ins_split (lt := ltD) (x := x) z hgt
      rwa [List.take_append_drop] at this
    cases m with
    | zero =>
      refine w_let ?_
      refine a_guard0 rfl (by simp) ?_
      refine a_pick0 rfl (by simp) ?_
      refine a_cond0 rfl rfl ?_
      refine w_add rfl rfl (by unfold inI; omega) ?_
      refine w_and ?_
      refine ⟨k + 1, .inr q, wk_D (by simp) (congrArg (fun z => [int z]) (by omega)) ?_, by omega⟩
      rw [hnx, done (by simp)]
      simp
    | succ m =>
      obtain ⟨y, hy⟩ : ∃ y, s[m]? = some y := ⟨_, List.getElem?_eq_getElem (by omega)⟩
      have hyo := hso y (List.mem_of_getElem? hy)
      obtain ⟨Q, hQ⟩ : ∃ Q, Q = P ++ s.take m := ⟨_, rfl⟩
      have hQl : Q.length = P.length + m := by rw [hQ, List.length_append, List.length_take]; omega
      obtain ⟨T, hT⟩ : ∃ T, T = s.drop (m + 1) ++ (L.drop (k + 2) ++ R) := ⟨_, rfl⟩
      have eD : P ++ (s.take (m + 1) ++ x :: T) = Q ++ y :: x :: T := by
        rw [hQ, List.take_add_one, hy]; simp
      have hTl : (Q ++ y :: x :: T).length = n := by
        rw [← eD, hT, ← hL]; simp only [List.length_append, List.length_cons, List.length_take, List.length_drop]; omega
      have hTl' : Q.length + (T.length + 2) = n := by rw [← hTl]; simp
      rw [← hT, eD]
      have e1 : (Q ++ y :: x :: T)[Q.length]? = some y := by simp
      have e2 : (Q ++ y :: x :: T)[Q.length + 1]? = some x := by simp
      have j1 : int ((P.length + (m + 1) : Nat) : Int) = int ((Q.length + 1 : Nat) : Int) := int_eq (by omega)
      have j0 : int (((P.length + (m + 1) : Nat) : Int) - 1) = int ((Q.length : Nat) : Int) := int_eq (by omega)
      have i1 : inI (((P.length + (m + 1) : Nat) : Int) - 1) := by unfold inI; omega
      refine w_let ?_
      refine a_guard1 rfl (by simp; omega) ?_
      refine s_idx (j := Q.length + 1) rfl j1 (by omega) ?_
      refine s_load hid e2 ?_
      refine w_sub rfl rfl i1 ?_
      refine s_idx (j := Q.length) rfl j0 (by omega) ?_
      refine s_load hid e1 ?_
      refine w_callQ rfl (by kernel_rfl) (con_compare x y hxo hyo) ?_
      refine a_lss rfl rfl ?_
      refine a_pick1 rfl (by simp; omega) ?_
      refine a_cond rfl (fun hc => ?_) (fun hc => ?_)
      · refine w_sub rfl rfl i1 ?_
        refine w_sub rfl rfl i1 ?_
        refine s_idx (j := Q.length) rfl j0 (by omega) ?_
        refine s_load hid e1 ?_
        refine s_idx (j := Q.length + 1) rfl j1 (by omega) ?_
        refine s_load hid e2 ?_
        refine s_idx (j := Q.length + 1) rfl j1 (by omega) ?_
        refine s_store hid (by omega) (D' := Q ++ y :: y :: T) (by simp) ?_
        refine s_idx (j := Q.length) rfl j0 (by omega) ?_
        refine s_store hid (by simp) (D' := Q ++ x :: y :: T) (by simp) ?_
        refine w_sub rfl rfl i1 ?_
        refine w_and ?_
        refine ⟨m, ⟨by omega, fun z hz => ?_⟩, wk_D (by simp) (congrArg (fun z => [int z]) (by omega)) ?_, by omega⟩
        · rw [List.drop_eq_getElem_cons (by omega : m < s.length), (List.getElem?_eq_some_iff.1 hy).2] at hz
          rcases List.mem_cons.1 hz with rfl | hz
          · exact hc
          · exact hgt z hz
        · have e3 : s.drop m = y :: s.drop (m + 1) := by rw [List.drop_eq_getElem_cons (by omega : m < s.length), (List.getElem?_eq_some_iff.1 hy).2]
          rw [hQ, hT, e3]
          simp
      · refine w_add rfl rfl (by unfold inI; omega) ?_
        refine w_and ?_
        refine ⟨k + 1, .inr q, wk_D (by simp) (congrArg (fun z => [int z]) (by omega)) ?_, by omega⟩
        have hlow : ∀ z ∈ s.take (m + 1), ltD x z = false := fun z hz => by
          obtain ⟨i, hi, ez⟩ := mem_take hz
          exact ltD_wk.ntr _ _ _ hc (hsr.le ltD_wk (show i ≤ m by omega) ez hy)
        rw [← eD, hnx, done hlow, hT]
        simp
  · refine a_cond0 rfl (by simp; omega) ?_
    refine ⟨_, _, Wk.refl _ _ _ (by simp), rfl, ?_⟩
    rw [List.take_of_length_le q, List.drop_of_length_le q]; rfl
end Go.Proofs.YtmbpiloibhbmbaaDoor
end

section
namespace Go.Proofs.YtmbpiloibhbmbaaDoor
open Go Go.Aw Go.Nst Go.Stb
set_option maxRecDepth 1000000
theorem k_call {P : Program} {f : FuncId} {args args' : List AV} {h : Heap} {K0 K : AV → Heap → Prop} (hb : hasBody P f = true) (e : args = args') (c : ACall P f args' h K0) (k : ∀ r h', K0 r h' → K r h') : iCall P (.fn (.func f) [] []) args h K := by
  subst e
  exact ⟨hb, by simpa using c.mono k⟩
theorem a_half {x y : AV} {i j : Nat} {K : AV → Prop} (ex : x = int i) (ey : y = int j) (hb : i + j < 2 ^ 61) (q : K (int ((i + j) / 2 : Nat))) : iBin .add x y fun v => iConv .u64 v fun v => iBin .shr v (.v (.int .u64 1)) fun v => iConv .i64 v K := by
  refine w_add ex ey (by unfold inI; omega) ?_
  have w1 : IntKind.u64.wrap ((i : Int) + j) = (i : Int) + j := by simp [IntKind.wrap, IntKind.bits, IntKind.signed]; omega
  refine ⟨_, _, rfl, ?_⟩
  rw [w1]
  refine ⟨by omega, ?_⟩
  have eh : (((i : Int) + j).fdiv (2 ^ (min (1 : Int).toNat IntKind.u64.bits))) = (((i + j) / 2 : Nat) : Int) := by
    have : min (1 : Int).toNat IntKind.u64.bits = 1 := rfl
    rw [this]
    simp [Int.fdiv_eq_ediv_of_nonneg]
  simp only
  rw [eh]
  refine ⟨_, _, rfl, ?_⟩
  have w2 : IntKind.i64.wrap ((((i + j) / 2 : Nat) : Int)) = (((i + j) / 2 : Nat) : Int) := by rw [IntKind.wrap_i64]; omega
  rw [w2]
  exact q
theorem acc_swapA {h : Heap} {id : Nat} (hid : id < h.length) (t : TypeId) (P x Q y S : List Dc) (n a b k : Nat) (e : x.length = y.length) (ha : a = P.length) (hb : b = P.length + x.length + Q.length) (hk : k = x.length) (hl : n = (P ++ (x ++ (Q ++ (y ++ S)))).length) (hn : n < 2 ^ 40) (cm : AV) :
    ACall Tryd.prog 68 [.own id 0 n 11, int a, int b, int k, cm] (h.set id (blkD t (P ++ (x ++ (Q ++ (y ++ S)))))) fun r hh => r = .tup [] ∧ hh = h.set id (blkD t (P ++ (y ++ (Q ++ (x ++ S))))) := by
  have := acc_swapR hid t (P ++ (x ++ (Q ++ (y ++ S)))) a b k (by omega) (by rw [hk, hb]; simp only [List.length_append]; omega) (by rw [← hl]; exact hn) cm
  subst ha; subst hb; subst hk
  rw [swR_app P x Q y S e, ← hl] at this
  exact this
theorem two_eq {a b c d : Int} (h1 : a = b) (h2 : c = d) : [int a, int c] = [int b, int d] := by rw [h1, h2]
theorem acc_rotate {h : Heap} {id : Nat} (hid : id < h.length) (t : TypeId) (P u v S : List Dc) (n a m b : Nat) (hu : 0 < u.length) (hv : 0 < v.length) (ha : a = P.length) (hm : m = P.length + u.length) (hb : b = P.length + u.length + v.length) (hl : n = (P ++ (u ++ (v ++ S))).length) (hn : n < 2 ^ 40) (cm : AV) :
    ACall Tryd.prog 51 [.own id 0 n 11, int a, int m, int b, cm] (h.set id (blkD t (P ++ (u ++ (v ++ S))))) fun r hh => r = .tup [] ∧ hh = h.set id (blkD t (P ++ (v ++ (u ++ S)))) := by
  have hL : P.length + (u.length + (v.length + S.length)) = n := by rw [hl]; simp
  refine (V51 _ _ _ _ _).acall ?_
  unfold W51
  refine w_sub rfl rfl (by unfold inI; omega) ?_
  refine w_sub rfl rfl (by unfold inI; omega) ?_
  refine iLoop_of (α := List Dc × List Dc × List Dc × List Dc) (fun z => 0 < z.2.1.length ∧ 0 < z.2.2.1.length ∧ z.1.length + z.2.1.length = m ∧ z.1.length + (z.2.1.length + (z.2.2.1.length + z.2.2.2.length)) = n ∧ z.1 ++ (z.2.2.1 ++ (z.2.1 ++ z.2.2.2)) = P ++ (v ++ (u ++ S)))
    (fun z => [int (z.2.1.length : Nat), int (z.2.2.1.length : Nat)]) (fun z => h.set id (blkD t (z.1 ++ (z.2.1 ++ (z.2.2.1 ++ z.2.2.2))))) (fun z => z.2.1.length + z.2.2.1.length) (P, u, v, S) ⟨hu, hv, hm.symm, hL, rfl⟩ (wk_D (by simp) (by show [int _, int _] = [int _, int _]; rw [int_eq (x := (m : Int) - a) (y := (u.length : Int)) (by omega), int_eq (x := (b : Int) - m) (y := (v.length : Int)) (by omega)]) rfl) ?_
  rintro ⟨Q, x, y, Z⟩ ⟨h1, h2, h3, h4, h5⟩
  simp only at h1 h2 h3 h4 h5
  refine a_neq rfl rfl ?_
  rcases Nat.lt_trichotomy x.length y.length with q | q | q
  · refine a_cond1 rfl (by simp; omega) ?_
    refine a_gtr rfl rfl ?_
    refine a_cond0 rfl (by simp; omega) ?_
    obtain ⟨y1, y2, rfl, hy⟩ : ∃ y1 y2, y = y1 ++ y2 ∧ y2.length = x.length := ⟨y.take (y.length - x.length), y.drop (y.length - x.length), (List.take_append_drop _ _).symm, by rw [List.length_drop]; omega⟩
    simp only [List.length_append] at q h4 h2
    refine w_sub rfl rfl (by unfold inI; simp; omega) ?_
    refine w_add rfl rfl (by unfold inI; simp; omega) ?_
    refine w_sub rfl rfl (by unfold inI; simp; omega) ?_
    have eD : Q ++ (x ++ ((y1 ++ y2) ++ Z)) = Q ++ (x ++ (y1 ++ (y2 ++ Z))) := by simp
    refine k_call (by kernel_rfl) (by rw [int_eq (x := (m : Int) - _) (y := (Q.length : Nat)) (by simp; omega), int_eq (x := (m : Int) + _ - _) (y := ((Q.length + x.length + y1.length : Nat) : Int)) (by simp; omega)]) (by rw [eD]; exact acc_swapA hid t Q x y1 y2 Z n Q.length (Q.length + x.length + y1.length) x.length hy.symm rfl rfl rfl (by simp only [List.length_append]; omega) hn cm) ?_
    rintro _ _ ⟨rfl, rfl⟩
    refine w_sub rfl rfl (by unfold inI; simp; omega) ?_
    refine w_and ?_
    refine ⟨(Q, y2, y1, x ++ Z), ⟨by show 0 < y2.length; omega, by show 0 < y1.length; omega, by show Q.length + y2.length = m; omega, by simp only [List.length_append]; omega, by rw [← h5]; simp⟩, wk_D (by simp) ?_ (by simp), by simp only [List.length_append]; omega⟩
    show [int _, int _] = [int _, int _]
    exact two_eq (by dsimp only; omega) (by simp only [List.length_append]; omega)
  · refine a_cond0 rfl (by simp [q]) ?_
    refine w_sub rfl rfl (by unfold inI; simp; omega) ?_
    refine k_call (by kernel_rfl) (by rw [int_eq (x := (m : Int) - _) (y := (Q.length : Nat)) (by simp; omega), int_eq (x := (m : Int)) (y := ((Q.length + x.length + ([] : List Dc).length : Nat) : Int)) (by simp; omega)]; rfl) (acc_swapA hid t Q x [] y Z n Q.length (Q.length + x.length + 0) x.length q rfl rfl rfl (by simp only [List.length_append, List.length_nil]; omega) hn cm) ?_
    rintro _ _ ⟨rfl, rfl⟩
    exact ⟨_, _, Wk.refl _ _ _ (by simp), rfl, by rw [← h5]; rfl⟩
  · refine a_cond1 rfl (by simp; omega) ?_
    refine a_gtr rfl rfl ?_
    refine a_cond1 rfl (by simp; omega) ?_
    obtain ⟨x1, x2, rfl, hx⟩ : ∃ x1 x2, x = x1 ++ x2 ∧ x1.length = y.length := ⟨x.take y.length, x.drop y.length, (List.take_append_drop _ _).symm, by rw [List.length_take]; omega⟩
    simp only [List.length_append] at q h4 h3 h1
    refine w_sub rfl rfl (by unfold inI; simp; omega) ?_
    have eD : Q ++ ((x1 ++ x2) ++ (y ++ Z)) = Q ++ (x1 ++ (x2 ++ (y ++ Z))) := by simp
    refine k_call (by kernel_rfl) (by rw [int_eq (x := (m : Int) - _) (y := (Q.length : Nat)) (by simp; omega), int_eq (x := (m : Int)) (y := ((Q.length + x1.length + x2.length : Nat) : Int)) (by omega), show nx [int _, int ((y.length : Nat) : Int)] 1 = int ((x1.length : Nat) : Int) from int_eq (by omega)]) (by rw [eD]; exact acc_swapA hid t Q x1 x2 y Z n Q.length (Q.length + x1.length + x2.length) x1.length hx rfl rfl rfl (by simp only [List.length_append]; omega) hn cm) ?_
    rintro _ _ ⟨rfl, rfl⟩
    refine w_sub rfl rfl (by unfold inI; simp; omega) ?_
    refine w_and ?_
    refine ⟨(Q ++ y, x2, x1, Z), ⟨by show 0 < x2.length; omega, by show 0 < x1.length; omega, by simp only [List.length_append]; omega, by simp only [List.length_append]; omega, by rw [← h5]; simp⟩, wk_D (by simp) ?_ (by simp), by simp only [List.length_append]; omega⟩
    show [int _, int _] = [int _, int _]
    exact two_eq (by simp only [List.length_append]; omega) (by dsimp only; omega)
end Go.Proofs.YtmbpiloibhbmbaaDoor
end

section
namespace Go.Proofs.YtmbpiloibhbmbaaDoor
open Go Go.Aw Go.Nst Go.Stb
set_option maxRecDepth 1000000
theorem get_mid {P A B : List Dc} {i : Nat} {x : Dc} (h : A[i]? = some x) : (P ++ (A ++ B))[P.length + i]? = some x := by
  have := (List.getElem?_eq_some_iff.1 h).1
  rw [List.getElem?_append_right (by omega), show P.length + i - P.length = i by omega, List.getElem?_append_left this]; exact h
theorem get_mid2 {P A B S : List Dc} {i : Nat} {x : Dc} (h : B[i]? = some x) : (P ++ (A ++ (B ++ S)))[P.length + A.length + i]? = some x := by
  have := (List.getElem?_eq_some_iff.1 h).1
  rw [List.getElem?_append_right (by omega), List.getElem?_append_right (by omega), show P.length + A.length + i - P.length - A.length = i by omega, List.getElem?_append_left this]; exact h
set_option maxHeartbeats 2000000 in
theorem acc_sym {h : Heap} {id : Nat} (hid : id < h.length) (t : TypeId) (n : Nat) (hn : n < 2 ^ 40) : ∀ (N : Nat) (P A B S : List Dc) (a m b : Nat), A.length + B.length ≤ N → 0 < A.length → 0 < B.length → Srt ltD A → Srt ltD B → (∀ d ∈ A, okD d = true) → (∀ d ∈ B, okD d = true) → a = P.length → m = P.length + A.length → b = P.length + A.length + B.length → n = (P ++ (A ++ (B ++ S))).length →
    ACall Tryd.prog 37 [.own id 0 n 11, int a, int m, int b, cmpF] (h.set id (blkD t (P ++ (A ++ (B ++ S))))) fun r hh => r = .tup [] ∧ hh = h.set id (blkD t (P ++ (mrg ltD A B ++ S)))
  | 0, P, A, B, S, a, m, b, hN, hA, _, _, _, _, _, _, _, _, _ => by omega
  | N + 1, P, A, B, S, a, m, b, hN, hA, hB, sA, sB, oA, oB, ha, hm, hb, hl => by
    have IH := acc_sym hid t n hn N
    have hL : P.length + (A.length + (B.length + S.length)) = n := by rw [hl]; simp
    refine (V37 _ _ _ _ _).acall ?_
    unfold W37
    refine w_sub rfl rfl (by unfold inI; omega) ?_
    refine a_eql rfl rfl ?_
    refine a_cond rfl (fun c1 => ?_) (fun c1 => ?_)
    · -- one ahead
      have c1 : A.length = 1 := by simp at c1; omega
      obtain ⟨x, rfl⟩ : ∃ x, A = [x] := List.length_eq_one_iff.1 c1
      have ox := oA x (by simp)
      have gx : (P ++ ([x] ++ (B ++ S)))[a]? = some x := by rw [ha]; simp
      refine iLoop_of (α := Nat × Nat) (fun z => z.1 ≤ z.2 ∧ z.2 ≤ B.length ∧ (z.1 = 0 ∨ ∃ y, B[z.1 - 1]? = some y ∧ ltD y x = true) ∧ (z.2 = B.length ∨ ∃ y, B[z.2]? = some y ∧ ltD y x = false)) (fun z => [int ((m + z.1 : Nat) : Int), int ((m + z.2 : Nat) : Int)]) (fun _ => h.set id (blkD t (P ++ ([x] ++ (B ++ S))))) (fun z => z.2 - z.1) (0, B.length) ⟨by simp, by simp, .inl rfl, .inl rfl⟩ (wk_D (by simp) (by show [int _, int _] = [int _, int _]; rw [int_eq (x := (m : Int)) (y := ((m + 0 : Nat) : Int)) (by omega), int_eq (x := (b : Int)) (y := ((m + B.length : Nat) : Int)) (by omega)]) rfl) ?_
      rintro ⟨i, j⟩ ⟨q1, q2, q3, q4⟩
      simp only at q1 q2 q3 q4
      refine a_lss rfl rfl ?_
      rcases Nat.lt_or_ge i j with q | q
      · obtain ⟨p, hp⟩ : ∃ p, (i + j) / 2 = p := ⟨_, rfl⟩
        obtain ⟨y, hy⟩ : ∃ y, B[p]? = some y := ⟨_, List.getElem?_eq_getElem (by omega)⟩
        have gy : (P ++ ([x] ++ (B ++ S)))[m + p]? = some y := by rw [hm]; exact get_mid2 hy
        refine a_cond1 rfl (by simp; omega) ?_
        refine a_half rfl rfl (by omega) ?_
        rw [show (m + i + (m + j)) / 2 = m + p by omega]
        refine s_idx (j := m + p) rfl rfl (by omega) ?_
        refine s_load hid gy ?_
        refine s_idx (j := a) rfl rfl (by omega) ?_
        refine s_load hid gx ?_
        refine w_callQ rfl (by kernel_rfl) (con_compare y x (oB y (List.mem_of_getElem? hy)) ox) ?_
        refine a_lss rfl rfl ?_
        refine a_cond rfl (fun hc => ?_) (fun hc => ?_)
        · refine w_add rfl rfl (by unfold inI; omega) ?_
          refine w_and ?_
          exact ⟨(p + 1, j), ⟨by show p + 1 ≤ j; omega, q2, .inr ⟨y, hy, hc⟩, q4⟩, wk_D (by simp) (by show [int _, int _] = [int _, int _]; rw [int_eq (x := ((m + p : Nat) : Int) + 1) (y := ((m + (p + 1) : Nat) : Int)) (by omega)]) rfl, by show j - (p + 1) < j - i; omega⟩
        · refine w_and ?_
          exact ⟨(i, p), ⟨by show i ≤ p; omega, by show p ≤ B.length; omega, q3, .inr ⟨y, hy, hc⟩⟩, Wk.refl _ _ _ (by simp), by show p - i < j - i; omega⟩
      · obtain rfl : i = j := by omega
        refine a_cond0 rfl (by simp) ?_
        have hres : mrg ltD [x] B = B.take i ++ x :: B.drop i := mrg_one_l ltD_wk x sB i q3 q4
        refine iLoop_of (α := Nat) (fun p => p ≤ i) (fun p => [int ((a + p : Nat) : Int)]) (fun p => h.set id (blkD t (P ++ (B.take p ++ x :: (B.drop p ++ S))))) (fun p => i - p) 0 (by omega) (wk_D (by simp) (by show [int _] = [int _]; rw [int_eq (x := (a : Int)) (y := ((a + 0 : Nat) : Int)) (by omega)]) (by simp)) ?_
        intro p hp
        refine w_sub rfl rfl (by unfold inI; simp; omega) ?_
        refine a_lss rfl rfl ?_
        rcases Nat.lt_or_ge p i with q | q
        · obtain ⟨y, hy⟩ : ∃ y, B[p]? = some y := ⟨_, List.getElem?_eq_getElem (by omega)⟩
          obtain ⟨Q, hQ⟩ : ∃ Q, Q = P ++ B.take p := ⟨_, rfl⟩
          have hQl : Q.length = a + p := by rw [hQ, List.length_append, List.length_take]; omega
          obtain ⟨T, hT⟩ : ∃ T, T = B.drop (p + 1) ++ S := ⟨_, rfl⟩
          have hTl : Q.length + (T.length + 2) = n := by rw [hT, List.length_append, List.length_drop]; simp at hL; omega
          have eD : P ++ (B.take p ++ x :: (B.drop p ++ S)) = Q ++ x :: y :: T := by
            rw [hQ, hT, List.drop_eq_getElem_cons (by omega : p < B.length), (List.getElem?_eq_some_iff.1 hy).2]; simp
          have eD' : P ++ (B.take (p + 1) ++ x :: (B.drop (p + 1) ++ S)) = Q ++ y :: x :: T := by
            rw [hQ, hT, List.take_add_one, hy]; simp
          rw [eD]
          have e1 : (Q ++ x :: y :: T)[Q.length]? = some x := by simp
          have e2 : (Q ++ x :: y :: T)[Q.length + 1]? = some y := by simp
          have j0 : int ((a + p : Nat) : Int) = int ((Q.length : Nat) : Int) := int_eq (by omega)
          have j1 : int (((a + p : Nat) : Int) + 1) = int ((Q.length + 1 : Nat) : Int) := int_eq (by omega)
          have i1 : inI (((a + p : Nat) : Int) + 1) := by unfold inI; omega
          refine a_cond1 rfl (by simp at hm ⊢; omega) ?_
          refine w_add rfl rfl i1 ?_
          refine w_add rfl rfl i1 ?_
          refine s_idx (j := Q.length + 1) rfl j1 (by omega) ?_
          refine s_load hid e2 ?_
          refine s_idx (j := Q.length) rfl j0 (by omega) ?_
          refine s_load hid e1 ?_
          refine s_idx (j := Q.length) rfl j0 (by omega) ?_
          refine s_store hid (by simp) (D' := Q ++ y :: y :: T) (by simp) ?_
          refine s_idx (j := Q.length + 1) rfl j1 (by omega) ?_
          refine s_store hid (by simp) (D' := Q ++ y :: x :: T) (by simp) ?_
          refine w_add rfl rfl i1 ?_
          refine w_and ?_
          exact ⟨p + 1, q, wk_D (by simp) (by show [int _] = [int _]; rw [int_eq (x := ((a + p : Nat) : Int) + 1) (y := ((a + (p + 1) : Nat) : Int)) (by omega)]) eD'.symm, by omega⟩
        · obtain rfl : p = i := by omega
          refine a_cond0 rfl (by simp at hm ⊢; omega) ?_
          refine ⟨_, _, Wk.refl _ _ _ (by simp), rfl, ?_⟩
          rw [hres]; simp
    refine w_sub rfl rfl (by unfold inI; omega) ?_
    refine a_eql rfl rfl ?_
    refine a_cond rfl (fun c2 => ?_) (fun c2 => ?_)
    · -- one behind
      have c2 : B.length = 1 := by simp at c2; omega
      obtain ⟨y, rfl⟩ : ∃ x, B = [x] := List.length_eq_one_iff.1 c2
      have oy := oB y (by simp)
      have gy : (P ++ (A ++ ([y] ++ S)))[m]? = some y := by rw [hm]; exact get_mid2 (i := 0) rfl
      refine iLoop_of (α := Nat × Nat) (fun z => z.1 ≤ z.2 ∧ z.2 ≤ A.length ∧ (z.1 = 0 ∨ ∃ x, A[z.1 - 1]? = some x ∧ ltD y x = false) ∧ (z.2 = A.length ∨ ∃ x, A[z.2]? = some x ∧ ltD y x = true)) (fun z => [int ((a + z.1 : Nat) : Int), int ((a + z.2 : Nat) : Int)]) (fun _ => h.set id (blkD t (P ++ (A ++ ([y] ++ S))))) (fun z => z.2 - z.1) (0, A.length) ⟨by simp, by simp, .inl rfl, .inl rfl⟩ (wk_D (by simp) (by show [int _, int _] = [int _, int _]; rw [int_eq (x := (a : Int)) (y := ((a + 0 : Nat) : Int)) (by omega), int_eq (x := (m : Int)) (y := ((a + A.length : Nat) : Int)) (by omega)]) rfl) ?_
      rintro ⟨i, j⟩ ⟨q1, q2, q3, q4⟩
      simp only at q1 q2 q3 q4
      refine a_lss rfl rfl ?_
      rcases Nat.lt_or_ge i j with q | q
      · obtain ⟨p, hp⟩ : ∃ p, (i + j) / 2 = p := ⟨_, rfl⟩
        obtain ⟨x, hx⟩ : ∃ y, A[p]? = some y := ⟨_, List.getElem?_eq_getElem (by omega)⟩
        have gx : (P ++ (A ++ ([y] ++ S)))[a + p]? = some x := by rw [ha]; exact get_mid hx
        refine a_cond1 rfl (by simp; omega) ?_
        refine a_half rfl rfl (by omega) ?_
        rw [show (a + i + (a + j)) / 2 = a + p by omega]
        refine s_idx (j := m) rfl rfl (by simp at hL; omega) ?_
        refine s_load hid gy ?_
        refine s_idx (j := a + p) rfl rfl (by omega) ?_
        refine s_load hid gx ?_
        refine w_callQ rfl (by kernel_rfl) (con_compare y x oy (oA x (List.mem_of_getElem? hx))) ?_
        refine a_lss rfl rfl ?_
        refine a_not rfl ?_
        refine a_cond rfl (fun hc => ?_) (fun hc => ?_)
        · refine w_add rfl rfl (by unfold inI; omega) ?_
          refine w_and ?_
          exact ⟨(p + 1, j), ⟨by show p + 1 ≤ j; omega, q2, .inr ⟨x, hx, by unfold ltD; simpa using hc⟩, q4⟩, wk_D (by simp) (by show [int _, int _] = [int _, int _]; rw [int_eq (x := ((a + p : Nat) : Int) + 1) (y := ((a + (p + 1) : Nat) : Int)) (by omega)]) rfl, by show j - (p + 1) < j - i; omega⟩
        · refine w_and ?_
          exact ⟨(i, p), ⟨by show i ≤ p; omega, by show p ≤ A.length; omega, q3, .inr ⟨x, hx, by unfold ltD; simpa using hc⟩⟩, Wk.refl _ _ _ (by simp), by show p - i < j - i; omega⟩
      · obtain rfl : i = j := by omega
        refine a_cond0 rfl (by simp) ?_
        have hres : mrg ltD A [y] = A.take i ++ y :: A.drop i := mrg_one_r ltD_wk y sA i q3 q4
        refine iLoop_of (α := Nat) (fun p => i ≤ p ∧ p ≤ A.length) (fun p => [int ((a + p : Nat) : Int)]) (fun p => h.set id (blkD t (P ++ (A.take p ++ y :: (A.drop p ++ S))))) (fun p => p) A.length ⟨q2, Nat.le_refl _⟩ (wk_D (by simp) (by show [int _] = [int _]; rw [int_eq (x := (m : Int)) (y := ((a + A.length : Nat) : Int)) (by omega)]) (by simp)) ?_
        rintro p ⟨hp, hp2⟩
        refine a_gtr rfl rfl ?_
        rcases Nat.lt_or_ge i p with q | q
        · obtain ⟨p, rfl⟩ : ∃ p', p = p' + 1 := ⟨p - 1, by omega⟩
          obtain ⟨x, hx⟩ : ∃ y, A[p]? = some y := ⟨_, List.getElem?_eq_getElem (by omega)⟩
          obtain ⟨Q, hQ⟩ : ∃ Q, Q = P ++ A.take p := ⟨_, rfl⟩
          have hQl : Q.length = a + p := by rw [hQ, List.length_append, List.length_take]; omega
          obtain ⟨T, hT⟩ : ∃ T, T = A.drop (p + 1) ++ S := ⟨_, rfl⟩
          have hTl : Q.length + (T.length + 2) = n := by rw [hT, List.length_append, List.length_drop]; simp at hL; omega
          have eD' : P ++ (A.take p ++ y :: (A.drop p ++ S)) = Q ++ y :: x :: T := by
            rw [hQ, hT, List.drop_eq_getElem_cons (by omega : p < A.length), (List.getElem?_eq_some_iff.1 hx).2]; simp
          have eD : P ++ (A.take (p + 1) ++ y :: (A.drop (p + 1) ++ S)) = Q ++ x :: y :: T := by
            rw [hQ, hT, List.take_add_one, hx]; simp
          rw [eD]
          have e1 : (Q ++ x :: y :: T)[Q.length]? = some x := by simp
          have e2 : (Q ++ x :: y :: T)[Q.length + 1]? = some y := by simp
          have j0 : int (((a + (p + 1) : Nat) : Int) - 1) = int ((Q.length : Nat) : Int) := int_eq (by omega)
          have j1 : int ((a + (p + 1) : Nat) : Int) = int ((Q.length + 1 : Nat) : Int) := int_eq (by omega)
          have i1 : inI (((a + (p + 1) : Nat) : Int) - 1) := by unfold inI; omega
          refine a_cond1 rfl (by simp; omega) ?_
          refine w_sub rfl rfl i1 ?_
          refine w_sub rfl rfl i1 ?_
          refine s_idx (j := Q.length) rfl j0 (by omega) ?_
          refine s_load hid e1 ?_
          refine s_idx (j := Q.length + 1) rfl j1 (by omega) ?_
          refine s_load hid e2 ?_
          refine s_idx (j := Q.length + 1) rfl j1 (by omega) ?_
          refine s_store hid (by simp) (D' := Q ++ x :: x :: T) (by simp) ?_
          refine s_idx (j := Q.length) rfl j0 (by omega) ?_
          refine s_store hid (by simp) (D' := Q ++ y :: x :: T) (by simp) ?_
          refine w_sub rfl rfl i1 ?_
          refine w_and ?_
          exact ⟨p, ⟨by omega, by omega⟩, wk_D (by simp) (by show [int _] = [int _]; rw [int_eq (x := ((a + (p + 1) : Nat) : Int) - 1) (y := ((a + p : Nat) : Int)) (by omega)]) eD'.symm, by omega⟩
        · obtain rfl : p = i := by omega
          refine a_cond0 rfl (by simp) ?_
          refine ⟨_, _, Wk.refl _ _ _ (by simp), rfl, ?_⟩
          rw [hres]; simp
    -- both more than one
    have c1 : A.length ≠ 1 := by simp at c1; omega
    have c2 : B.length ≠ 1 := by simp at c2; omega
    refine a_half rfl rfl (by omega) ?_
    obtain ⟨mid, hmid⟩ : ∃ z, (a + b) / 2 = z := ⟨_, rfl⟩
    rw [hmid]
    refine w_add rfl rfl (by unfold inI; omega) ?_
    obtain ⟨s0, r0, hs0, hr0, g1, g2, g3, g4, g5, g6⟩ : ∃ s0 r0 : Nat, (m > mid → s0 = mid + m - b ∧ r0 = mid) ∧ (¬ m > mid → s0 = a ∧ r0 = m) ∧ a ≤ s0 ∧ s0 ≤ r0 ∧ r0 ≤ m ∧ r0 ≤ mid ∧ mid + m ≤ s0 + b ∧ (s0 = a ∨ mid + m = s0 + b) := by
      by_cases q : m > mid
      · exact ⟨mid + m - b, mid, fun _ => ⟨rfl, rfl⟩, fun z => absurd q z, by omega, by omega, by omega, by omega, by omega, by omega⟩
      · exact ⟨a, m, fun z => absurd z q, fun _ => ⟨rfl, rfl⟩, by omega, by omega, by omega, by omega, by omega, by omega⟩
    have g7 : r0 = mid ∨ r0 = m := by
      by_cases q : m > mid
      · exact .inl (hs0 q).2
      · exact .inr (hr0 q).2
    refine w_join [int (s0 : Nat), int (r0 : Nat)] (h.set id (blkD t (P ++ (A ++ (B ++ S))))) ?_ ?_
    rotate_left
    · intro F hF
      refine a_gtr rfl rfl ?_
      refine a_cond rfl (fun hc => ?_) (fun hc => ?_)
      · have hc : m > mid := by simp at hc; omega
        obtain ⟨e1, e2⟩ := hs0 hc
        rw [e1, e2] at hF
        refine w_sub rfl rfl (by unfold inI; omega) ?_
        refine w_and ?_
        rw [int_eq (x := (mid : Int) + m - b) (y := ((mid + m - b : Nat) : Int)) (by omega)]
        exact hF
      · have hc : ¬ m > mid := by simp at hc; omega
        obtain ⟨e1, e2⟩ := hr0 hc
        rw [e1, e2] at hF
        exact w_and hF
    refine w_sub rfl rfl (by unfold inI; omega) ?_
    refine iLoop_of (α := Nat × Nat) (fun z => s0 ≤ z.1 ∧ z.1 ≤ z.2 ∧ z.2 ≤ r0 ∧ (z.1 = s0 ∨ ∃ x y, A[z.1 - a - 1]? = some x ∧ B[mid - z.1]? = some y ∧ ltD y x = false ∧ a < z.1) ∧ (z.2 = r0 ∨ ∃ x y, A[z.2 - a]? = some x ∧ B[mid - z.2 - 1]? = some y ∧ ltD y x = true)) (fun z => [int (z.1 : Nat), int (z.2 : Nat)]) (fun _ => h.set id (blkD t (P ++ (A ++ (B ++ S))))) (fun z => z.2 - z.1) (s0, r0) ⟨Nat.le_refl _, g2, Nat.le_refl _, .inl rfl, .inl rfl⟩ (Wk.refl _ _ _ (by simp)) ?_
    rintro ⟨i, j⟩ ⟨q0, q1, q2, q3, q4⟩
    simp only at q0 q1 q2 q3 q4
    refine a_lss rfl rfl ?_
    rcases Nat.lt_or_ge i j with q | q
    · obtain ⟨c, hp⟩ : ∃ p, (i + j) / 2 = p := ⟨_, rfl⟩
      obtain ⟨x, hx⟩ : ∃ y, A[c - a]? = some y := ⟨_, List.getElem?_eq_getElem (by omega)⟩
      obtain ⟨y, hy⟩ : ∃ y, B[mid - 1 - c]? = some y := ⟨_, List.getElem?_eq_getElem (by omega)⟩
      have gx : (P ++ (A ++ (B ++ S)))[c]? = some x := by
        have := get_mid (P := P) (B := B ++ S) hx
        rwa [show P.length + (c - a) = c by omega] at this
      have gy : (P ++ (A ++ (B ++ S)))[mid + m - 1 - c]? = some y := by
        have := get_mid2 (P := P) (A := A) (S := S) hy
        rwa [show P.length + A.length + (mid - 1 - c) = mid + m - 1 - c by omega] at this
      refine a_cond1 rfl (by simp; omega) ?_
      refine a_half rfl rfl (by omega) ?_
      rw [hp]
      refine w_sub rfl rfl (by unfold inI; omega) ?_
      refine s_idx (j := mid + m - 1 - c) rfl (int_eq (by omega)) (by omega) ?_
      refine s_load hid gy ?_
      refine s_idx (j := c) rfl rfl (by omega) ?_
      refine s_load hid gx ?_
      refine w_callQ rfl (by kernel_rfl) (con_compare y x (oB y (List.mem_of_getElem? hy)) (oA x (List.mem_of_getElem? hx))) ?_
      refine a_lss rfl rfl ?_
      refine a_not rfl ?_
      refine a_cond rfl (fun hc => ?_) (fun hc => ?_)
      · refine w_add rfl rfl (by unfold inI; omega) ?_
        refine w_and ?_
        exact ⟨(c + 1, j), ⟨by show s0 ≤ c + 1; omega, by show c + 1 ≤ j; omega, q2, .inr ⟨x, y, by show A[c + 1 - a - 1]? = _; rw [show c + 1 - a - 1 = c - a by omega]; exact hx, by show B[mid - (c + 1)]? = _; rw [show mid - (c + 1) = mid - 1 - c by omega]; exact hy, by unfold ltD; simpa using hc, by show a < c + 1; omega⟩, q4⟩, wk_D (by simp) (by show [int _, int _] = [int _, int _]; rw [int_eq (x := (c : Int) + 1) (y := ((c + 1 : Nat) : Int)) (by omega)]) rfl, by show j - (c + 1) < j - i; omega⟩
      · refine w_and ?_
        exact ⟨(i, c), ⟨q0, by show i ≤ c; omega, by show c ≤ r0; omega, q3, .inr ⟨x, y, hx, by show B[mid - c - 1]? = _; rw [show mid - c - 1 = mid - 1 - c by omega]; exact hy, by unfold ltD; simpa using hc⟩⟩, Wk.refl _ _ _ (by simp), by show c - i < j - i; omega⟩
    obtain rfl : i = j := by omega
    refine a_cond0 rfl (by simp) ?_
    -- where both are cut
    obtain ⟨k, hk⟩ : ∃ k, i - a = k := ⟨_, rfl⟩
    obtain ⟨e, he⟩ : ∃ e, mid - i = e := ⟨_, rfl⟩
    have hres : mrg ltD A B = mrg ltD (A.take k) (B.take e) ++ mrg ltD (A.drop k) (B.drop e) := by
      refine sym_mrg ltD_wk sA sB k e ?_ ?_
      · rcases q3 with q3 | ⟨x, y, z1, z2, z3, _⟩
        · rcases g6 with g6 | g6
          · exact .inl (by omega)
          · exact .inr (.inl (by omega))
        · exact .inr (.inr ⟨x, y, by rw [← hk]; exact z1, by rw [← he]; exact z2, z3⟩)
      · rcases q4 with q4 | ⟨x, y, z1, z2, z3⟩
        · rcases g7 with g7 | g7
          · exact .inl (by omega)
          · exact .inr (.inl (by omega))
        · exact .inr (.inr ⟨x, y, by rw [← hk]; exact z1, by rw [← he]; exact z2, z3⟩)
    obtain ⟨A1, A2, rfl, hA1⟩ : ∃ A1 A2, A = A1 ++ A2 ∧ A1.length = k := ⟨A.take k, A.drop k, (List.take_append_drop _ _).symm, by rw [List.length_take]; omega⟩
    obtain ⟨B1, B2, rfl, hB1⟩ : ∃ B1 B2, B = B1 ++ B2 ∧ B1.length = e := ⟨B.take e, B.drop e, (List.take_append_drop _ _).symm, by rw [List.length_take]; omega⟩
    subst hA1
    subst hB1
    rw [List.take_left, List.drop_left, List.take_left, List.drop_left] at hres
    simp only [List.length_append] at hN hA hB hm hb hL c1 c2
    have sA1 : Srt ltD A1 := (List.pairwise_append.1 sA).1
    have sA2 : Srt ltD A2 := (List.pairwise_append.1 sA).2.1
    have sB1 : Srt ltD B1 := (List.pairwise_append.1 sB).1
    have sB2 : Srt ltD B2 := (List.pairwise_append.1 sB).2.1
    refine w_sub rfl rfl (by unfold inI; simp; omega) ?_
    have hend : int ((mid : Int) + m - ((i : Nat) : Int)) = int ((m + B1.length : Nat) : Int) := int_eq (by omega)
    have nil_of : ∀ {l : List Dc}, ¬ 0 < l.length → l = [] := fun {l} z => List.eq_nil_of_length_eq_zero (by omega)
    refine w_join [] (h.set id (blkD t (P ++ (A1 ++ (B1 ++ (A2 ++ (B2 ++ S))))))) ?_ ?_
    rotate_left
    · intro F hF
      have stay : ¬ 0 < A2.length ∨ ¬ 0 < B1.length → F [] (h.set id (blkD t (P ++ (A1 ++ A2 ++ (B1 ++ B2 ++ S))))) := by
        rintro (z | z) <;> (rw [nil_of z] at hF ⊢; simpa using hF)
      refine a_lss rfl rfl ?_
      refine w_let ?_
      by_cases z1 : 0 < A2.length
      · refine a_guard1 rfl (by simp; omega) ?_
        refine a_lss rfl hend ?_
        refine w_and ?_
        refine a_pick1 rfl rfl ?_
        by_cases z2 : 0 < B1.length
        · refine a_cond1 rfl (by simp; omega) ?_
          refine k_call (by kernel_rfl) (by rw [hend]) (by
            rw [show P ++ (A1 ++ A2 ++ (B1 ++ B2 ++ S)) = (P ++ A1) ++ (A2 ++ (B1 ++ (B2 ++ S))) by simp]
            exact acc_rotate hid t (P ++ A1) A2 B1 (B2 ++ S) n i m (m + B1.length) z1 z2 (by rw [List.length_append]; omega) (by rw [List.length_append]; omega) (by rw [List.length_append]; omega) (by simp only [List.length_append]; omega) hn cmpF) ?_
          rintro _ _ ⟨rfl, rfl⟩
          refine w_and ?_
          simpa using hF
        · refine a_cond0 rfl (by simp; omega) ?_
          exact w_and (stay (.inr z2))
      · refine a_guard0 rfl (by simp; omega) ?_
        refine w_and ?_
        refine a_pick0 rfl rfl ?_
        refine a_cond0 rfl rfl ?_
        exact w_and (stay (.inl z1))
    refine w_join [] (h.set id (blkD t (P ++ (mrg ltD A1 B1 ++ (A2 ++ (B2 ++ S)))))) ?_ ?_
    rotate_left
    · intro F hF
      have stay : ¬ 0 < A1.length ∨ ¬ 0 < B1.length → F [] (h.set id (blkD t (P ++ (A1 ++ (B1 ++ (A2 ++ (B2 ++ S))))))) := by
        rintro (z | z)
        · rw [nil_of z, mrg_nil_l] at hF; rw [nil_of z]; simpa using hF
        · rw [nil_of z, mrg_nil_r] at hF; rw [nil_of z]; simpa using hF
      refine a_lss rfl rfl ?_
      refine w_let ?_
      by_cases z1 : 0 < A1.length
      · refine a_guard1 rfl (by simp; omega) ?_
        refine a_lss rfl rfl ?_
        refine w_and ?_
        refine a_pick1 rfl rfl ?_
        by_cases z2 : 0 < B1.length
        · refine a_cond1 rfl (by simp; omega) ?_
          refine k_call (by kernel_rfl) rfl (IH P A1 B1 (A2 ++ (B2 ++ S)) a i mid (by omega) z1 z2 sA1 sB1 (fun d hd => oA d (by simp [hd])) (fun d hd => oB d (by simp [hd])) ha (by omega) (by omega) (by simp only [List.length_append]; omega)) ?_
          rintro _ _ ⟨rfl, rfl⟩
          exact w_and hF
        · refine a_cond0 rfl (by simp; omega) ?_
          exact w_and (stay (.inr z2))
      · refine a_guard0 rfl (by simp; omega) ?_
        refine w_and ?_
        refine a_pick0 rfl rfl ?_
        refine a_cond0 rfl rfl ?_
        exact w_and (stay (.inl z1))
    have fin : ∀ H, H = h.set id (blkD t (P ++ (mrg ltD A1 B1 ++ (mrg ltD A2 B2 ++ S)))) → H = h.set id (blkD t (P ++ (mrg ltD (A1 ++ A2) (B1 ++ B2) ++ S))) := by
      rintro _ rfl; rw [hres]; simp
    have stay : ¬ 0 < A2.length ∨ ¬ 0 < B2.length → h.set id (blkD t (P ++ (mrg ltD A1 B1 ++ (A2 ++ (B2 ++ S))))) = h.set id (blkD t (P ++ (mrg ltD A1 B1 ++ (mrg ltD A2 B2 ++ S)))) := by
      rintro (z | z)
      · rw [nil_of z, mrg_nil_l]; simp
      · rw [nil_of z, mrg_nil_r]; simp
    refine a_lss rfl hend ?_
    refine w_let ?_
    by_cases z1 : 0 < A2.length
    · refine a_guard1 rfl (by simp; omega) ?_
      refine a_lss hend rfl ?_
      refine w_and ?_
      refine a_pick1 rfl rfl ?_
      by_cases z2 : 0 < B2.length
      · refine a_cond1 rfl (by simp; omega) ?_
        have hml := mrg_len (lt := ltD) A1 B1
        refine k_call (by kernel_rfl) (by rw [hend]) (by
          rw [show P ++ (mrg ltD A1 B1 ++ (A2 ++ (B2 ++ S))) = (P ++ mrg ltD A1 B1) ++ (A2 ++ (B2 ++ S)) by simp]
          exact IH (P ++ mrg ltD A1 B1) A2 B2 S mid (m + B1.length) b (by omega) z1 z2 sA2 sB2 (fun d hd => oA d (by simp [hd])) (fun d hd => oB d (by simp [hd])) (by rw [List.length_append]; omega) (by rw [List.length_append]; omega) (by rw [List.length_append]; omega) (by simp only [List.length_append]; omega)) ?_
        rintro _ _ ⟨rfl, rfl⟩
        exact ⟨_, _, Wk.refl _ _ _ (by simp), rfl, fin _ (by simp)⟩
      · refine a_cond0 rfl (by simp; omega) ?_
        exact ⟨_, _, Wk.refl _ _ _ (by simp), rfl, fin _ (stay (.inr z2))⟩
    · refine a_guard0 rfl (by simp; omega) ?_
      refine w_and ?_
      refine a_pick0 rfl rfl ?_
      refine a_cond0 rfl rfl ?_
      exact ⟨_, _, Wk.refl _ _ _ (by simp), rfl, fin _ (stay (.inl z1))⟩
end Go.Proofs.YtmbpiloibhbmbaaDoor
end

section
namespace Go.Proofs.YtmbpiloibhbmbaaDoor
set_option maxRecDepth 100000
set_option maxHeartbeats 4000000
open Go Go.RowKit Go.Aw
theorem clone0 (p : Option Addr) (cap : Nat) (w : World) :
    Calls Tryd.prog 15 #[.slice p 0 cap] w fun e w' => ∃ q, e = .returned (.slice q 0 0) ∧ Below w.heap.size w w' := by
  have he : (Op.equal 22 (.slice p 0 cap) (.slice none 0 0)).run Tryd.prog w = .ok p.isNone w := by
    have : ∀ d, (Op.equalIn (d + 1) 22 (.slice p 0 cap) (.slice none 0 0)).run Tryd.prog w = .ok p.isNone w := fun d => by cases p <;> simp [Op.equalIn, run_underlying Tryd.underlying22]
    exact this 9999
  go_enter Tryd.func15, Tryd.ntmps15
  go_wp2
  have hr : (binOp .eql 22 (.slice p 0 cap) (.slice none 0 0)).run Tryd.prog w = .ok (.bool p.isNone) w := by simp [binOp, he]
  rw [hr]
  simp only [Result.andThen]
  rw [Oper.upon_value]
  cases p with
  | none =>
    go_wp2
    go_ret
    exact ⟨_, rfl, Below.refl _ _⟩
  | some a =>
    go_wp2
    go_ret
    exact ⟨_, rfl, (Below.refl _ w).alloc (Nat.le_refl _) _⟩
variable [Laid]
theorem con_Clone0 : Con Tryd.prog 15 [.sl 11 []] (.sl 11 []) := by
  refine ⟨by simp [PureL, Aw.Pure, PureR], by simp [Aw.Pure, PureR], ?_⟩
  intro base ι S w vs h1 h2
  match vs, h1 with
  | [], h1 => simp at h1
  | _ :: _ :: _, h1 => simp at h1
  | [v], h1 =>
    simp only [RepL_cons, RepL_nil, and_true] at h1
    rw [Rep] at h1
    obtain ⟨p, cap, rfl, _⟩ := h1
    refine (clone0 p cap w).mono ?_
    rintro e w' ⟨q, rfl, hB⟩
    have hE : Evo ι.length w.heap.size ι S w ι S w' := ⟨fun _ _ => IxLe.refl _, fun _ _ q => q, fun _ _ q => .inl q, fun b o q => hB.cell (h2.stb b o q), fun b x hx => by
      unfold World.shape? at hx ⊢
      have hb : b < w.heap.size := by
        rcases Nat.lt_or_ge b w.heap.size with k | k
        · exact k
        · rw [Array.getElem?_eq_none k] at hx; cases hx
      rw [hB.block b hb]; exact hx, hB⟩
    refine ⟨_, ι, S, .sl 11 [], [], rfl, hE.mono (by rw [h2.len]; exact Nat.le_refl _) h2.bas, ?_, h2.over hE (fun b o q => Nat.lt_of_lt_of_le (h2.stb b o q) hB.size), Nat.le_refl _, rfl⟩
    rw [Rep]
    exact ⟨q, 0, rfl, Nat.zero_le _, Nat.zero_le _, .inl rfl⟩
end Go.Proofs.YtmbpiloibhbmbaaDoor
end
