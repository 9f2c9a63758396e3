/-
  The text of a progression, as the program writes it. One text for each progression: the law, over the contract that the chapter's examples hold. One text for each progression: the walk.
  No conditions.
-/
import Derived.Test.YtfijncpmhnnpiaaGreatDoorP1
import Derived.Test.YtfijncpmhnnpiaaGreatDoorWAnb
import Derived.Test.YtfijncpmhnnpiaaGreatDoorShelfFmt
import Derived.Lib.AppendIntMem
set_option linter.unusedVariables false
set_option linter.unusedSimpArgs false
section
namespace Go.Proofs.YtfijncpmhnnpiaaGreatDoor
open Go Go.Aw Go.RowKit
set_option maxRecDepth 100000
def anbT0 (A B : Int) : List UInt8 :=
  if A = 0 then Lib.itoa B else
    (if A = 1 then [] else if A = -1 then [45] else Lib.itoa A) ++ [110] ++ (if 0 < B then 43 :: Lib.itoa B else if B < 0 then Lib.itoa B else [])
theorem anbT0_eq (A B : Int) : anbT0 A B = anbT A B := by
  unfold anbT0 anbT preA tailN
  by_cases h1 : 0 < B
  · have e : Lib.itoa B = Lib.decDigits B.natAbs := by rw [itoa_parts]; unfold ng; rw [if_neg (by omega), List.nil_append]
    simp only [if_pos h1]
    rw [e]
  · by_cases h2 : B < 0
    · have e : Lib.itoa B = 45 :: Lib.decDigits B.natAbs := by rw [itoa_parts]; unfold ng; rw [if_pos h2]; rfl
      simp only [if_neg h1, if_pos h2]
      rw [e]
    · simp only [if_neg h1, if_neg h2]
def powN : List Int := [1, 10, 100, 1000, 10000, 100000, 1000000, 10000000, 100000000, 1000000000, 10000000000, 100000000000, 1000000000000, 10000000000000, 100000000000000, 1000000000000000, 10000000000000000, 100000000000000000, 1000000000000000000, 10000000000000000000]
noncomputable def powA : List AV := powN.map fun z => .v (.int .u64 z)
theorem tab_is {P : Program} {S : Stab} {W : World} {g : Nat} {name : String} {k : IntKind} {zs : List Int} (hn : P.globalNamed name = some g) (h : RepC [] S W (zs.map fun z => .v (.int k z)) g 0) (hs : ∃ ty, W.shape? g = some (ty, zs.length)) : Lib.TabIs P W name k zs := by
  obtain ⟨ty, hs⟩ := hs
  unfold Lib.TabIs World.var?
  rw [hn, Option.bind_some]
  unfold World.shape? at hs
  split at hs
  · rename_i c t f hh
    simp only [Option.some.injEq, Prod.mk.injEq] at hs
    obtain ⟨_, hz⟩ := hs
    rw [hh]
    simp only [Option.some.injEq]
    refine Array.ext (by simpa using hz) fun i h1 h2 => ?_
    have hi : i < zs.length := by simpa using h2
    obtain ⟨u, hu, _, ru⟩ := h.get i (.v (.int k zs[i])) (by rw [List.getElem?_map, List.getElem?_eq_getElem hi]; rfl)
    rw [Rep_v] at ru
    subst ru
    rw [Nat.zero_add, cell_at hh] at hu
    rw [Array.getElem?_eq_getElem h1] at hu
    simpa using hu
  · cases hs
variable [MaxL]
theorem con_fmt (n : Int) (h : inI n) : Con Tryz.prog 13 [int n, int 10] (.str (Lib.itoa n)) := by
  have hlen : (Lib.itoa n).length ≤ 21 := by
    unfold inI at h
    unfold Lib.itoa
    have key : ∀ u : Nat, u ≤ 9223372036854775808 → (Lib.decDigits u).length ≤ 20 := fun u hu => by
      rw [Lib.decDigits_length]
      by_cases h0 : u = 0
      · subst h0; rw [Lib.nDigits_small (by omega)]; omega
      · have := Lib.numDigits_eq u (by omega) (by omega); split at this <;> omega
    split
    · have := key n.natAbs (by omega); simp; omega
    · have := key n.toNat (by omega); omega
  refine con_below (v := .string ⟨(Lib.itoa n).toArray⟩) (by simp [PureL]) (by simp) (by simp) (fun w => by simp [maxLen]; omega) ?_
  intro ι S w vs h1 hg
  match vs, h1 with
  | [], h1 => simp at h1
  | [v], h1 => simp at h1
  | v :: u :: x :: vs, h1 => simp at h1
  | [v, u], h1 =>
    simp only [RepL_cons, RepL_nil, and_true, Rep_v] at h1
    obtain ⟨rfl, rfl⟩ := h1
    have ht : Lib.TabIs Tryz.prog w "internal/strconv.uint64pow10" .u64 Lib.pow10Tab := by
      have e : Lib.pow10Tab = powN := by decide
      rw [e]
      obtain ⟨hc, hs⟩ := hg 0 powA (by rfl)
      exact tab_is (g := 0) (by kernel_rfl) hc (by simpa [powA] using hs)
    refine (formatInt_laid n h.1 h.2 w ht).mono ?_
    rintro e w' ⟨rfl, k, os, rfl⟩
    exact ⟨rfl, Lib.below_grow _ _ (Nat.le_refl _) _ _⟩

theorem con_hasSuffix (s : List UInt8) (h : s = [49] ∨ s = [45, 49]) : Con Tryz.prog 36 [.str s, .str [49]] (bool true) := by
  refine (V36 _ _).gives (by simp) (by simp) ?_
  unfold W36
  rcases h with rfl | rfl <;> simp [maxLen, inI] <;> exact .pure (by simp) rfl
theorem con_trim0 (s : List UInt8) (h : s = [49] ∨ s = [45, 49]) : Con Tryz.prog 22 [.str s, .str [49]] (.str (s.dropLast)) := by
  refine (V22 _ _).gives (by simp) (by simp) ?_
  unfold W22
  refine w_call rfl (by kernel_rfl) (con_hasSuffix s h) ?_
  rcases h with rfl | rfl <;> simp [maxLen, inI] <;> exact .pure (by simp) rfl
theorem con_trim1s (s : List UInt8) (h : s = [49] ∨ s = [45, 49]) : Con Tryz.prog 14 [.str s, .str [49]] (.str (s.dropLast)) := by
  refine (V14 _ _).gives (by simp) (by simp) ?_
  unfold W14
  refine w_call rfl (by kernel_rfl) (con_trim0 s h) ?_
  exact .pure (by simp) rfl
omit [MaxL] in
theorem itoa_one : Lib.itoa 1 = [49] := by rw [Lib.itoa, if_neg (by omega), Lib.decDigits, dif_pos (by decide)]; rfl
omit [MaxL] in
theorem itoa_neg : Lib.itoa (-1) = [45, 49] := by rw [Lib.itoa, if_pos (by omega), Lib.decDigits, dif_pos (by decide)]; rfl
theorem con_text (A B : Int) (hA : okI A = true) (hB : okI B = true) : Con Tryz.prog 6 [.agg [int A, int B]] (.tup [.str (anbT A B), int 0]) := by
  rw [← anbT0_eq]
  refine (V6 _).gives (by simp [PureL]) (by simp) ?_
  unfold W6
  simp [-iLet_r]
  have hc := con_anCheck A B hA hB
  refine iCall_con (by kernel_rfl) hc ?_
  have lA := itoa_len hA
  have lB := itoa_len hB
  have iA : inI A := by simp only [okI, Bool.and_eq_true, decide_eq_true_eq] at hA; unfold inI; omega
  have iB : inI B := by simp only [okI, Bool.and_eq_true, decide_eq_true_eq] at hB; unfold inI; omega
  simp [-iLet_r]
  refine w_call rfl (by kernel_rfl) (con_fmt B iB) ?_
  by_cases h0 : A = 0
  · simp [h0, -iLet_r]
    exact .pure (by simp) (by simp [anbT0])
  simp [h0, -iLet_r]
  refine w_call rfl (by kernel_rfl) (con_fmt A iA) ?_
  refine w_join [.str (if A = 1 then [] else if A = -1 then [45] else Lib.itoa A)] [.blk ⟨23, [int A, int B], true⟩] ?_ (fun F hF => by
    by_cases h1 : A = 1
    · subst h1
      simp
      refine w_call rfl (by kernel_rfl) (con_trim1s _ (.inl itoa_one)) ?_
      simpa [itoa_one] using hF
    · by_cases h2 : A = -1
      · subst h2
        simp
        refine w_call rfl (by kernel_rfl) (con_trim1s _ (.inr itoa_neg)) ?_
        simpa [itoa_neg] using hF
      · simpa [h1, h2] using hF)
  have hl : (if A = 1 then [] else if A = -1 then [45] else Lib.itoa A).length ≤ 21 := by
    (repeat' split) <;> first | omega | simp
  generalize hs : (if A = 1 then [] else if A = -1 then [45] else Lib.itoa A) = s at hl
  have out : anbT0 A B = s ++ [110] ++ (if 0 < B then 43 :: Lib.itoa B else if B < 0 then Lib.itoa B else []) := by rw [anbT0, if_neg h0, hs]
  rw [out]
  have e1 : s.length + 1 ≤ maxLen := by unfold maxLen; omega
  have e2 : 1 + (Lib.itoa B).length ≤ maxLen := by unfold maxLen; omega
  have e3 : s.length + 1 + ((Lib.itoa B).length + 1) ≤ maxLen := by unfold maxLen; omega
  have e4 : s.length + 1 + (Lib.itoa B).length ≤ maxLen := by unfold maxLen; omega
  simp [e1, e2, e3, e4]
  refine ⟨fun hp => .pure (by simp) (by simp [hp]), fun hp => ⟨fun hn => .pure (by simp) ?_, fun hn => .pure (by simp) ?_⟩⟩
  · rw [if_neg (by omega), if_pos hn]
  · rw [if_neg (by omega), if_neg (by omega)]
end Go.Proofs.YtfijncpmhnnpiaaGreatDoor
end

section
namespace Go.Proofs.YtfijncpmhnnpiaaGreatDoor
open Go Go.Aw Go.RowKit
set_option maxRecDepth 100000
/-! ### With spaces around the sign -/
def wc (f : Bool) (c : UInt8) : Str := if c = 110 then [78] else if f = false ∧ (c = 43 ∨ c = 45) then [32, c, 32] else [c]
def wmap (f : Bool) : Str → Str
  | [] => []
  | c :: l => wc f c ++ wmap false l
theorem wmap_app (f : Bool) (a b : Str) : wmap f (a ++ b) = wmap f a ++ wmap (f && a.isEmpty) b := by
  cases a with
  | nil => simp [wmap]
  | cons c a =>
    have key : ∀ a : Str, wmap false (a ++ b) = wmap false a ++ wmap false b := by
      intro a
      induction a with
      | nil => rfl
      | cons c a ih => rw [List.cons_append, wmap, ih, wmap, List.append_assoc]
    rw [List.cons_append, wmap, key, wmap, List.append_assoc]
    simp
theorem wmap_dig : ∀ (f : Bool) (l : Str), (∀ b ∈ l, 48 ≤ b.toNat ∧ b.toNat ≤ 57) → wmap f l = l
  | _, [], _ => rfl
  | f, c :: l, h => by
    have hc := h c (List.mem_cons_self ..)
    have h1 : c ≠ 110 := fun q => by subst q; simp at hc
    have h2 : ¬ (c = 43 ∨ c = 45) := by rintro (q | q) <;> (subst q; simp at hc)
    rw [wmap, wmap_dig false l fun x hx => h x (List.mem_cons_of_mem _ hx)]
    unfold wc
    rw [if_neg h1, if_neg fun q => h2 q.2]; rfl
theorem wmap_dec (f : Bool) (k : Nat) : wmap f (Lib.decDigits k) = Lib.decDigits k := wmap_dig f _ (dec_digs k).2
theorem wmap_itoa (n : Int) : wmap true (Lib.itoa n) = Lib.itoa n := by
  rw [itoa_parts, wmap_app, wmap_dec]
  congr 1
  unfold ng
  split <;> rfl
theorem wmap_pre (A : Int) : wmap true (preA A) = preA A := by
  unfold preA
  split
  · rfl
  · split
    · rfl
    · exact wmap_itoa A
theorem wmap_tail (B : Int) : wmap false (tailN B) = tailW B := by
  unfold tailN tailW
  split
  · rw [wmap, wmap_dec]; rfl
  · split
    · rw [wmap, wmap_dec]; rfl
    · rfl
theorem wide_is (A B : Int) : wideT A B = 32 :: (wmap true (anbT A B) ++ [32]) := by
  unfold wideT anbT
  by_cases h : A = 0
  · rw [if_pos h, if_pos h, wmap_itoa]
  · rw [if_neg h, if_neg h, wmap_app, wmap_app, wmap_pre]
    have e1 : ∀ f, wmap f [110] = [78] := by intro f; cases f <;> rfl
    have e2 : (true && (preA A ++ [110]).isEmpty) = false := by simp
    rw [e1, e2, wmap_tail]
/-! ### No two have one text -/
def dz (s : Str) : Int := if s.head? = some 45 then -(valR s.tail : Int) else (valR s : Int)
theorem dz_itoa (n : Int) : dz (Lib.itoa n) = n := by
  rw [itoa_parts]
  unfold ng
  by_cases h : n < 0
  · rw [if_pos h]
    unfold dz
    rw [if_pos (by rfl)]
    show -(valR (Lib.decDigits n.natAbs) : Int) = n
    rw [dec_val]; omega
  · rw [if_neg h, List.nil_append]
    obtain ⟨b, l, e, h1, h2⟩ := dec_cons n.natAbs
    unfold dz
    rw [if_neg (by rw [e]; simp; intro q; subst q; simp at h1), dec_val]; omega
theorem itoa_ne (n : Int) : Lib.itoa n ≠ [] ∧ Lib.itoa n ≠ [45] := by
  rw [itoa_parts]
  obtain ⟨b, l, e, h1, h2⟩ := dec_cons n.natAbs
  rw [e]
  unfold ng
  split
  · simp
  · refine ⟨by simp, fun q => ?_⟩
    simp at q
    rw [q.1] at h1; simp at h1
def pz (s : Str) : Int := if s = [] then 1 else if s = [45] then -1 else dz s
theorem pz_pre (A : Int) : pz (preA A) = A := by
  unfold preA
  by_cases h1 : A = 1
  · rw [if_pos h1, h1]; rfl
  · rw [if_neg h1]
    by_cases h2 : A = -1
    · rw [if_pos h2, h2]; rfl
    · rw [if_neg h2]
      unfold pz
      rw [if_neg (itoa_ne A).1, if_neg (itoa_ne A).2, dz_itoa]
def tz (s : Str) : Int := if s = [] then 0 else if s.head? = some 43 then (valR s.tail : Int) else -(valR s.tail : Int)
theorem tz_tail (B : Int) : tz (tailN B) = B := by
  unfold tailN
  by_cases h1 : 0 < B
  · rw [if_pos h1]
    unfold tz
    rw [if_neg (by simp), if_pos (by rfl)]
    show ((valR (Lib.decDigits B.natAbs) : Nat) : Int) = B
    rw [dec_val]; omega
  · rw [if_neg h1]
    by_cases h2 : B < 0
    · rw [if_pos h2]
      unfold tz
      rw [if_neg (by simp), if_neg (by simp)]
      show -((valR (Lib.decDigits B.natAbs) : Nat) : Int) = B
      rw [dec_val]; omega
    · rw [if_neg h2]
      show (0 : Int) = B
      omega
def no110 (l : Str) : Prop := ∀ b ∈ l, b ≠ 110
theorem no_dec (k : Nat) : no110 (Lib.decDigits k) := fun b hb q => by have := (dec_digs k).2 b hb; subst q; simp at this
theorem no_itoa (n : Int) : no110 (Lib.itoa n) := by
  rw [itoa_parts]
  intro b hb
  rcases List.mem_append.1 hb with hb | hb
  · unfold ng at hb
    split at hb
    · simp at hb; subst hb; decide
    · cases hb
  · exact no_dec _ b hb
theorem no_pre (A : Int) : no110 (preA A) := by
  unfold preA
  split
  · intro b hb; cases hb
  · split
    · intro b hb; simp at hb; subst hb; decide
    · exact no_itoa A
theorem part_one : ∀ {a b c d : Str}, no110 a → no110 c → a ++ 110 :: b = c ++ 110 :: d → a = c ∧ b = d
  | [], b, [], d, _, _, e => by simpa using e
  | [], b, y :: c, d, _, hc, e => by
    simp at e
    exact absurd e.1.symm (hc y (List.mem_cons_self ..))
  | x :: a, b, [], d, ha, _, e => by
    simp at e
    exact absurd e.1 (ha x (List.mem_cons_self ..))
  | x :: a, b, y :: c, d, ha, hc, e => by
    simp only [List.cons_append, List.cons.injEq] at e
    have := part_one (fun z hz => ha z (List.mem_cons_of_mem _ hz)) (fun z hz => hc z (List.mem_cons_of_mem _ hz)) e.2
    exact ⟨by rw [e.1, this.1], this.2⟩
theorem anbT_inj {A B C D : Int} (e : anbT A B = anbT C D) : A = C ∧ B = D := by
  unfold anbT at e
  have np : ∀ X Y : Int, preA X ++ [110] ++ tailN Y = preA X ++ 110 :: tailN Y := fun _ _ => by simp
  by_cases h1 : A = 0
  · by_cases h2 : C = 0
    · rw [if_pos h1, if_pos h2] at e
      exact ⟨by omega, by rw [← dz_itoa B, ← dz_itoa D, e]⟩
    · rw [if_pos h1, if_neg h2, np] at e
      exact absurd rfl (no_itoa B 110 (by rw [e]; simp))
  · by_cases h2 : C = 0
    · rw [if_neg h1, if_pos h2, np] at e
      exact absurd rfl (no_itoa D 110 (by rw [← e]; simp))
    · rw [if_neg h1, if_neg h2, np, np] at e
      have := part_one (no_pre A) (no_pre C) e
      exact ⟨by rw [← pz_pre A, ← pz_pre C, this.1], by rw [← tz_tail B, ← tz_tail D, this.2]⟩
/-! ### The walk -/
theorem con_anValid [Laid] (A B : Int) : Con Tryz.prog 4 [.agg [int A, int B]] (bool (okI A && okI B)) := by
  refine (V4 _).gives (by simp [PureL]) (by simp) ?_
  unfold W4
  refine n_new (cs := [int A, int B]) (n := 0) (h' := [anC A B]) rfl (by simp [scal]) rfl rfl ?_
  repeat' (first
    | (with_reducible apply w_let)
    | (with_reducible apply w_and)
    | (with_reducible refine And.intro True.intro ?_)
    | ((with_reducible apply a_lss); rfl; rfl)
    | ((with_reducible apply a_leq); rfl; rfl)
    | ((with_reducible apply a_gtr); rfl; rfl)
    | ((with_reducible apply a_geq); rfl; rfl)
    | ((with_reducible apply a_eql); rfl; rfl)
    | ((with_reducible apply a_neq); rfl; rfl)
    | ((with_reducible apply a_eqlS); rfl; rfl)
    | ((with_reducible apply a_neqS); rfl; rfl)
    | ((with_reducible apply a_eqlB); rfl; rfl)
    | ((with_reducible apply a_neqB); rfl; rfl)
    | ((with_reducible apply w_add); rfl; rfl; first | assumption | (unfold inI; omega))
    | ((with_reducible apply w_sub); rfl; rfl; first | assumption | (unfold inI; omega))
    | ((with_reducible apply a_not); rfl)
    | ((with_reducible apply w_pick_t); rfl)
    | ((with_reducible apply w_pick_f); rfl)
    | ((with_reducible apply a_cond1); rfl; first | rfl | assumption)
    | ((with_reducible apply a_cond0); rfl; first | rfl | assumption)
    | ((with_reducible apply a_guard1); rfl; first | rfl | assumption)
    | ((with_reducible apply a_guard0); rfl; first | rfl | assumption)
    | ((with_reducible apply w_guard_u); rfl)
    | ((with_reducible apply a_pick1); rfl; first | rfl | assumption)
    | ((with_reducible apply a_pick0); rfl; first | rfl | assumption)
    | ((with_reducible apply a_pickN); rfl)
    | ((with_reducible apply a_condN); rfl)
    | ((with_reducible apply a_guardN); rfl)
    | ((with_reducible apply w_fad); rfl)
    | ((with_reducible apply a_fadI); rfl)
    | ((with_reducible apply w_load); rfl; rfl; rfl)
    | ((with_reducible apply w_loadI); rfl)
    | ((with_reducible apply w_loadA); rfl; rfl; first | exact Nat.le_refl _ | exact Nat.le_of_ble_eq_true rfl)
    | ((with_reducible apply a_eqA); rfl; rfl; rfl)
    | ((with_reducible apply a_loadAI); rfl; first | rfl | simp)
    | ((with_reducible apply w_new); first | rfl | simp)
    | ((with_reducible apply a_store); rfl; rfl; rfl; rfl; (first | exact Nat.le_refl _ | simp); (first | rfl | simp); (first | rfl | simp))
    | ((with_reducible apply a_lenS); rfl; intro _)
    | ((with_reducible apply a_len); rfl; (first | rfl | simp); intro _)
    | ((with_reducible apply a_build); rfl)
    | ((with_reducible apply a_extr); rfl; rfl)
    | ((with_reducible apply a_cond); rfl)
    | ((with_reducible apply a_guard); rfl)
    | (with_reducible intro _))
  all_goals refine .pure (by simp) ?_
  all_goals simp only [nx_zero, nx_one, AV.v.injEq, Value.bool.injEq, Value.int.injEq, true_and] at *
  all_goals grind [okI]
theorem a_eqAnb {A B C D : Int} {neg : Bool} {K : AV → Prop} (q : K (bool (if neg then !(decide (A = C) && decide (B = D)) else (decide (A = C) && decide (B = D))))) : iEqA neg [1, 1] (.agg [int A, int B]) (.agg [int C, int D]) K := by
  refine a_eqA (b := decide (A = C) && decide (B = D)) rfl rfl ?_ q
  simp [eqK, eqS]
end Go.Proofs.YtfijncpmhnnpiaaGreatDoor
end

section
namespace Go.Proofs.YtfijncpmhnnpiaaGreatDoor
open Go Go.Aw Go.RowKit
set_option maxRecDepth 100000
variable [MaxL]
theorem con_law (al : Con Tryz.prog 5 [] (bool true)) (A B C D : Int) : Con Tryz.prog 3 [.agg [int A, int B], .agg [int C, int D]] (bool true) := by
  refine (V3 _ _).gives (by simp [PureL]) (by simp) ?_
  unfold W3
  refine n_new (cs := [int A, int B]) (n := 0) (h' := [anC A B]) rfl (by simp [scal]) rfl rfl ?_
  refine n_new (cs := [int C, int D]) (n := 1) (h' := [anC A B, anC C D]) rfl (by simp [scal]) rfl rfl ?_
  refine w_loadA rfl rfl (by simp) ?_
  refine iCall_con (by kernel_rfl) (con_anValid A B) ?_
  refine a_not rfl ?_
  cases hv1 : (okI A && okI B) with
  | false =>
    refine w_let ?_
    refine a_guard0 rfl rfl ?_
    refine w_and ?_
    refine w_pick_t rfl ?_
    refine a_cond1 rfl rfl ?_
    refine iCall_con (by kernel_rfl) al ?_
    exact .pure (by simp) rfl
  | true =>
  refine w_let ?_
  refine a_guard1 rfl rfl ?_
  refine w_loadA rfl rfl (by simp) ?_
  refine iCall_con (by kernel_rfl) (con_anValid C D) ?_
  refine a_not rfl ?_
  refine w_and ?_
  refine w_pick_f rfl ?_
  refine a_cond rfl (fun _ => ?_) fun hv2 => ?_
  · refine iCall_con (by kernel_rfl) al ?_
    exact .pure (by simp) rfl
  have hA : okI A = true := by simp at hv1; exact hv1.1
  have hB : okI B = true := by simp at hv1; exact hv1.2
  have hC : okI C = true := by simp at hv2; exact hv2.1
  have hD : okI D = true := by simp at hv2; exact hv2.2
  obtain ⟨q⟩ := anbT_txt hA hB
  obtain ⟨q2⟩ := wideT_txt hA hB
  have hlen := anbT_len hA hB
  have hlen2 := wideT_len hA hB
  obtain ⟨l, cT, cO⟩ := txt_read q (anbT_cls A B) (by omega) hA hB
  have cR := con_Read q (anbT_cls A B) (by omega) hA hB
  have cW := con_Read q2 (wideT_cls A B) (by omega) hA hB
  refine w_loadA rfl rfl (by simp) ?_
  refine iCall_con (by kernel_rfl) (con_text A B hA hB) ?_
  refine w_extr rfl rfl ?_
  refine w_extr rfl rfl ?_
  refine w_loadA rfl rfl (by simp) ?_
  refine iCall_con (by kernel_rfl) (con_text C D hC hD) ?_
  refine w_extr rfl rfl ?_
  refine w_extr rfl rfl ?_
  refine iCall_con (by kernel_rfl) cR ?_
  refine w_extr rfl rfl ?_
  refine w_extr rfl rfl ?_
  refine n_new (cs := [int 0, int 0]) (n := 2) (h' := [anC A B, anC C D, anC 0 0]) rfl (by simp [scal]) rfl rfl ?_
  refine n_store (cs := [int A, int B]) (h' := [anC A B, anC C D, anC A B]) rfl rfl rfl rfl (by simp) rfl (by simp [scal]) rfl ?_
  refine iCall_con (by kernel_rfl) cT ?_
  refine w_extr rfl rfl ?_
  refine w_extr rfl rfl ?_
  refine iCall_con (by kernel_rfl) cO ?_
  refine w_extr rfl rfl ?_
  refine w_extr rfl rfl ?_
  refine n_new (cs := [int 0, int 0]) (n := 3) (h' := [anC A B, anC C D, anC A B, anC 0 0]) rfl (by simp [scal]) rfl rfl ?_
  refine n_store (cs := [int A, int B]) (h' := [anC A B, anC C D, anC A B, anC A B]) rfl rfl rfl rfl (by simp) rfl (by simp [scal]) rfl ?_
  have eqA : (decide (A = A) && decide (B = B)) = true := by simp
  -- the errors
  refine a_neq rfl rfl ?_
  refine w_let ?_
  refine a_guard1 rfl rfl ?_
  refine a_neq rfl rfl ?_
  refine w_and ?_
  refine w_pick_f rfl ?_
  refine w_let ?_
  refine a_guard1 rfl rfl ?_
  refine a_neq rfl rfl ?_
  refine w_and ?_
  refine w_pick_f rfl ?_
  refine w_let ?_
  refine a_guard1 rfl rfl ?_
  refine a_neq rfl rfl ?_
  refine w_and ?_
  refine w_pick_f rfl ?_
  refine w_let ?_
  refine a_guard1 rfl rfl ?_
  refine a_neq rfl rfl ?_
  refine w_and ?_
  refine w_pick_f rfl ?_
  refine w_let ?_
  refine a_guard1 rfl rfl ?_
  -- what was read
  refine w_loadA rfl rfl (by simp) ?_
  refine w_loadA rfl rfl (by simp) ?_
  refine a_eqAnb ?_
  rw [if_pos rfl, eqA]
  refine w_and ?_
  refine w_pick_f rfl ?_
  refine w_let ?_
  refine a_guard1 rfl rfl ?_
  refine w_loadA rfl rfl (by simp) ?_
  refine w_loadA rfl rfl (by simp) ?_
  refine a_eqAnb ?_
  rw [if_pos rfl, eqA]
  refine w_and ?_
  refine w_pick_f rfl ?_
  -- the texts
  refine w_let ?_
  refine a_guard1 rfl rfl ?_
  refine a_eqlS rfl rfl ?_
  refine w_fad rfl ?_
  refine w_load rfl rfl rfl ?_
  refine w_fad rfl ?_
  refine w_load rfl rfl rfl ?_
  refine a_eql rfl rfl ?_
  refine w_and ?_
  have ht : decide (anbT A B = anbT C D) = (decide (A = C) && decide (B = D)) := by
    by_cases e : anbT A B = anbT C D
    · have := anbT_inj e
      simp [e, this.1, this.2]
    · rw [decide_eq_false e]
      by_cases h1 : A = C
      · by_cases h2 : B = D
        · exact absurd (by rw [h1, h2]) e
        · simp [h2]
      · simp [h1]
  rw [ht]
  have dig : ∀ c : UInt8, ∀ k : Nat, ∃ b1 b2 b3 : Bool, decide ((0 : Int) < (k : Int)) = b1 ∧ decide ((if c = 110 then [78] else [c] : Str) = [43]) = b2 ∧ decide ((if c = 110 then [78] else [c] : Str) = [45]) = b3 ∧
      wc (decide (k = 0)) c = (if b1 && (b2 || b3) then [32] ++ (if c = 110 then [78] else [c]) ++ [32] else (if c = 110 then [78] else [c])) := by
    intro c k
    refine ⟨_, _, _, rfl, rfl, rfl, ?_⟩
    unfold wc
    by_cases h1 : c = 110
    · subst h1; simp
    · by_cases h2 : k = 0
      · subst h2; simp [h1]
      · have h3 : (0 : Int) < (k : Int) := by omega
        by_cases h4 : c = 43
        · subst h4; simp [h2, h3]
        · by_cases h5 : c = 45
          · subst h5; simp [h2, h3]
          · simp [h1, h2, h3, h4, h5]
  have sl : ∀ (k : Nat) (c : UInt8), (anbT A B)[k]? = some c → ((anbT A B).take (k + 1)).drop k = [c] := by
    intro k c hc
    have hk := (List.getElem?_eq_some_iff.1 hc).1
    rw [List.drop_take, List.drop_eq_getElem_cons hk, (List.getElem?_eq_some_iff.1 hc).2]
    simp
  have dr : ∀ (k : Nat) (c : UInt8), (anbT A B)[k]? = some c → (anbT A B).drop k = c :: (anbT A B).drop (k + 1) := by
    intro k c hc
    have hk := (List.getElem?_eq_some_iff.1 hc).1
    rw [List.drop_eq_getElem_cons hk, (List.getElem?_eq_some_iff.1 hc).2]
  have hwl : (wmap true (anbT A B)).length ≤ 38 := by rw [wide_is] at hlen2; simp at hlen2; omega
  refine w_let ?_
  by_cases hAC : A = C
  · refine a_guard1 rfl (decide_eq_true hAC) ?_
    refine w_fad rfl ?_
    refine w_load rfl rfl rfl ?_
    refine w_fad rfl ?_
    refine w_load rfl rfl rfl ?_
    refine a_eql rfl rfl ?_
    refine w_and ?_
    refine w_let ?_
    refine a_guard1 rfl rfl ?_
    refine w_pick_t rfl ?_
    refine a_neqB rfl rfl ?_
    refine w_and ?_
    refine w_pick_f rfl ?_
    refine a_cond0 rfl (by rw [decide_eq_true hAC]; simp) ?_
    refine iLoop_of (α := Nat × Str) (fun x => x.1 ≤ (anbT A B).length ∧ x.2 ++ wmap (decide (x.1 = 0)) ((anbT A B).drop x.1) = 32 :: wmap true (anbT A B)) (fun x => [.str x.2, int x.1]) (fun _ => [anC A B, anC C D, anC A B, anC A B]) (fun x => (anbT A B).length - x.1) (0, [32]) ⟨Nat.zero_le _, rfl⟩ (Wk.refl _ _ _ (Nat.le_refl _)) ?_
    rintro ⟨k, w⟩ ⟨hk, hw⟩
    have hk : k ≤ (anbT A B).length := hk
    have hw : w ++ wmap (decide (k = 0)) ((anbT A B).drop k) = 32 :: wmap true (anbT A B) := hw
    have hwle : w.length ≤ 39 := by have := congrArg List.length hw; simp at this; omega
    refine a_lenS rfl fun _ => ?_
    refine a_lss rfl rfl ?_
    by_cases hkl : k < (anbT A B).length
    · obtain ⟨c, hc⟩ : ∃ c, (anbT A B)[k]? = some c := ⟨_, List.getElem?_eq_getElem hkl⟩
      refine a_cond1 rfl (decide_eq_true (by omega)) ?_
      refine w_add rfl rfl (by unfold inI; omega) ?_
      refine a_slS (a := k) (b := k + 1) (r := [c]) rfl rfl rfl (by omega) hkl (sl k c hc) ?_
      refine w_join [.str (if c = 110 then [78] else [c])] [anC A B, anC C D, anC A B, anC A B] ?_ fun F hF => ?_
      · obtain ⟨b1, b2, b3, h1, h2, h3, hwc⟩ := dig c k
        have hcl : (if c = 110 then [78] else [c] : Str).length = 1 := by split <;> rfl
        generalize (if c = 110 then [78] else [c] : Str) = c' at h2 h3 hwc hcl
        refine w_join [.str (wc (decide (k = 0)) c)] [anC A B, anC C D, anC A B, anC A B] ?_ fun F hF => ?_
        · have hwcl : (wc (decide (k = 0)) c).length ≤ 3 := by rw [hwc]; split <;> simp [hcl]
          refine a_catS (a := w) rfl rfl (by omega) ?_
          refine w_add rfl rfl (by unfold inI; omega) ?_
          refine w_and ⟨(k + 1, w ++ wc (decide (k = 0)) c), ⟨hkl, ?_⟩, Wk.refl _ _ _ (Nat.le_refl _), by show _ - (k + 1) < _ - k; omega⟩
          rw [← hw, dr k c hc, wmap]
          simp
        · refine a_gtr rfl rfl ?_
          refine w_let ?_
          rw [hwc] at hF
          cases b1 with
          | false =>
            refine a_guard0 rfl h1 ?_
            refine w_and ?_
            refine w_let ?_
            refine w_guard_u rfl ?_
            refine w_and ?_
            refine w_let ?_
            refine a_guard0 rfl rfl ?_
            refine w_and ?_
            refine w_pick_f rfl ?_
            refine a_cond0 rfl rfl ?_
            exact w_and hF
          | true =>
            refine a_guard1 rfl h1 ?_
            refine a_eqlS rfl rfl ?_
            refine w_and ?_
            have cat : iBin .add (.str [32]) (.str c') fun v131 => iBin .add v131 (.str [32]) fun v132 => [AV.op 0 0, .str (anbT A B), .str w, int k] = [AV.op 0 0, .str (anbT A B), .str w, int k] ∧ (v132 = .str ([32] ++ c' ++ [32])) := by
              refine a_catS rfl rfl (by simp [hcl]) ?_
              exact a_catS rfl rfl (by simp [hcl]) ⟨rfl, rfl⟩
            refine w_let ?_
            cases b2 with
            | true =>
              refine a_guard0 rfl h2 ?_
              refine w_and ?_
              refine w_let ?_
              refine a_guard1 rfl rfl ?_
              refine w_pick_t rfl ?_
              refine w_and ?_
              refine w_pick_t rfl ?_
              refine a_cond1 rfl rfl ?_
              refine a_catS rfl rfl (by simp [hcl]) ?_
              refine a_catS rfl rfl (by simp [hcl]) ?_
              exact w_and hF
            | false =>
              refine a_guard1 rfl h2 ?_
              refine a_eqlS rfl rfl ?_
              refine w_and ?_
              refine w_let ?_
              refine a_guard1 rfl rfl ?_
              refine w_pick_f rfl ?_
              refine w_and ?_
              refine w_pick_t rfl ?_
              cases b3 with
              | true =>
                refine a_cond1 rfl h3 ?_
                refine a_catS rfl rfl (by simp [hcl]) ?_
                refine a_catS rfl rfl (by simp [hcl]) ?_
                exact w_and hF
              | false =>
                refine a_cond0 rfl h3 ?_
                exact w_and hF
      · refine a_eqlS rfl rfl ?_
        by_cases h110 : c = 110
        · refine a_cond1 rfl (by simp [h110]) ?_
          rw [if_pos h110] at hF
          exact w_and hF
        · refine a_cond0 rfl (by simp [h110]) ?_
          rw [if_neg h110] at hF
          exact w_and hF
    · have hkl : k = (anbT A B).length := by omega
      refine a_cond0 rfl (decide_eq_false (by omega)) ?_
      have hw2 : w = 32 :: wmap true (anbT A B) := by rw [← hw, hkl, List.drop_length]; simp [wmap]
      refine a_catS (a := w) rfl rfl (by simp; omega) ?_
      have hw3 : w ++ [32] = wideT A B := by rw [wide_is, hw2]; rfl
      rw [hw3]
      refine iCall_con (by kernel_rfl) cW ?_
      refine w_extr rfl rfl ?_
      refine w_extr rfl rfl ?_
      refine n_new (cs := [int 0, int 0]) (n := 4) (h' := [anC A B, anC C D, anC A B, anC A B, anC 0 0]) rfl (by simp [scal]) rfl rfl ?_
      refine n_store (cs := [int A, int B]) (h' := [anC A B, anC C D, anC A B, anC A B, anC A B]) rfl rfl rfl rfl (by simp) rfl (by simp [scal]) rfl ?_
      refine a_eql rfl rfl ?_
      refine w_let ?_
      refine a_guard1 rfl rfl ?_
      refine w_loadA rfl rfl (by simp) ?_
      refine w_loadA rfl rfl (by simp) ?_
      refine a_eqAnb ?_
      rw [if_neg (by decide), eqA]
      refine w_pick_t rfl ?_
      refine w_let ?_
      refine a_guard1 rfl rfl ?_
      refine iCall_con (by kernel_rfl) al ?_
      refine w_pick_t rfl ?_
      exact .pure (by simp) rfl
  · refine a_guard0 rfl (decide_eq_false hAC) ?_
    refine w_and ?_
    refine w_let ?_
    refine a_guard1 rfl rfl ?_
    refine w_pick_f rfl ?_
    refine a_neqB rfl rfl ?_
    refine w_and ?_
    refine w_pick_f rfl ?_
    refine a_cond0 rfl (by rw [decide_eq_false hAC]; rfl) ?_
    refine iLoop_of (α := Nat × Str) (fun x => x.1 ≤ (anbT A B).length ∧ x.2 ++ wmap (decide (x.1 = 0)) ((anbT A B).drop x.1) = 32 :: wmap true (anbT A B)) (fun x => [.str x.2, int x.1]) (fun _ => [anC A B, anC C D, anC A B, anC A B]) (fun x => (anbT A B).length - x.1) (0, [32]) ⟨Nat.zero_le _, rfl⟩ (Wk.refl _ _ _ (Nat.le_refl _)) ?_
    rintro ⟨k, w⟩ ⟨hk, hw⟩
    have hk : k ≤ (anbT A B).length := hk
    have hw : w ++ wmap (decide (k = 0)) ((anbT A B).drop k) = 32 :: wmap true (anbT A B) := hw
    have hwle : w.length ≤ 39 := by have := congrArg List.length hw; simp at this; omega
    refine a_lenS rfl fun _ => ?_
    refine a_lss rfl rfl ?_
    by_cases hkl : k < (anbT A B).length
    · obtain ⟨c, hc⟩ : ∃ c, (anbT A B)[k]? = some c := ⟨_, List.getElem?_eq_getElem hkl⟩
      refine a_cond1 rfl (decide_eq_true (by omega)) ?_
      refine w_add rfl rfl (by unfold inI; omega) ?_
      refine a_slS (a := k) (b := k + 1) (r := [c]) rfl rfl rfl (by omega) hkl (sl k c hc) ?_
      refine w_join [.str (if c = 110 then [78] else [c])] [anC A B, anC C D, anC A B, anC A B] ?_ fun F hF => ?_
      · obtain ⟨b1, b2, b3, h1, h2, h3, hwc⟩ := dig c k
        have hcl : (if c = 110 then [78] else [c] : Str).length = 1 := by split <;> rfl
        generalize (if c = 110 then [78] else [c] : Str) = c' at h2 h3 hwc hcl
        refine w_join [.str (wc (decide (k = 0)) c)] [anC A B, anC C D, anC A B, anC A B] ?_ fun F hF => ?_
        · have hwcl : (wc (decide (k = 0)) c).length ≤ 3 := by rw [hwc]; split <;> simp [hcl]
          refine a_catS (a := w) rfl rfl (by omega) ?_
          refine w_add rfl rfl (by unfold inI; omega) ?_
          refine w_and ⟨(k + 1, w ++ wc (decide (k = 0)) c), ⟨hkl, ?_⟩, Wk.refl _ _ _ (Nat.le_refl _), by show _ - (k + 1) < _ - k; omega⟩
          rw [← hw, dr k c hc, wmap]
          simp
        · refine a_gtr rfl rfl ?_
          refine w_let ?_
          rw [hwc] at hF
          cases b1 with
          | false =>
            refine a_guard0 rfl h1 ?_
            refine w_and ?_
            refine w_let ?_
            refine w_guard_u rfl ?_
            refine w_and ?_
            refine w_let ?_
            refine a_guard0 rfl rfl ?_
            refine w_and ?_
            refine w_pick_f rfl ?_
            refine a_cond0 rfl rfl ?_
            exact w_and hF
          | true =>
            refine a_guard1 rfl h1 ?_
            refine a_eqlS rfl rfl ?_
            refine w_and ?_
            have cat : iBin .add (.str [32]) (.str c') fun v131 => iBin .add v131 (.str [32]) fun v132 => [AV.op 0 0, .str (anbT A B), .str w, int k] = [AV.op 0 0, .str (anbT A B), .str w, int k] ∧ (v132 = .str ([32] ++ c' ++ [32])) := by
              refine a_catS rfl rfl (by simp [hcl]) ?_
              exact a_catS rfl rfl (by simp [hcl]) ⟨rfl, rfl⟩
            refine w_let ?_
            cases b2 with
            | true =>
              refine a_guard0 rfl h2 ?_
              refine w_and ?_
              refine w_let ?_
              refine a_guard1 rfl rfl ?_
              refine w_pick_t rfl ?_
              refine w_and ?_
              refine w_pick_t rfl ?_
              refine a_cond1 rfl rfl ?_
              refine a_catS rfl rfl (by simp [hcl]) ?_
              refine a_catS rfl rfl (by simp [hcl]) ?_
              exact w_and hF
            | false =>
              refine a_guard1 rfl h2 ?_
              refine a_eqlS rfl rfl ?_
              refine w_and ?_
              refine w_let ?_
              refine a_guard1 rfl rfl ?_
              refine w_pick_f rfl ?_
              refine w_and ?_
              refine w_pick_t rfl ?_
              cases b3 with
              | true =>
                refine a_cond1 rfl h3 ?_
                refine a_catS rfl rfl (by simp [hcl]) ?_
                refine a_catS rfl rfl (by simp [hcl]) ?_
                exact w_and hF
              | false =>
                refine a_cond0 rfl h3 ?_
                exact w_and hF
      · refine a_eqlS rfl rfl ?_
        by_cases h110 : c = 110
        · refine a_cond1 rfl (by simp [h110]) ?_
          rw [if_pos h110] at hF
          exact w_and hF
        · refine a_cond0 rfl (by simp [h110]) ?_
          rw [if_neg h110] at hF
          exact w_and hF
    · have hkl : k = (anbT A B).length := by omega
      refine a_cond0 rfl (decide_eq_false (by omega)) ?_
      have hw2 : w = 32 :: wmap true (anbT A B) := by rw [← hw, hkl, List.drop_length]; simp [wmap]
      refine a_catS (a := w) rfl rfl (by simp; omega) ?_
      have hw3 : w ++ [32] = wideT A B := by rw [wide_is, hw2]; rfl
      rw [hw3]
      refine iCall_con (by kernel_rfl) cW ?_
      refine w_extr rfl rfl ?_
      refine w_extr rfl rfl ?_
      refine n_new (cs := [int 0, int 0]) (n := 4) (h' := [anC A B, anC C D, anC A B, anC A B, anC 0 0]) rfl (by simp [scal]) rfl rfl ?_
      refine n_store (cs := [int A, int B]) (h' := [anC A B, anC C D, anC A B, anC A B, anC A B]) rfl rfl rfl rfl (by simp) rfl (by simp [scal]) rfl ?_
      refine a_eql rfl rfl ?_
      refine w_let ?_
      refine a_guard1 rfl rfl ?_
      refine w_loadA rfl rfl (by simp) ?_
      refine w_loadA rfl rfl (by simp) ?_
      refine a_eqAnb ?_
      rw [if_neg (by decide), eqA]
      refine w_pick_t rfl ?_
      refine w_let ?_
      refine a_guard1 rfl rfl ?_
      refine iCall_con (by kernel_rfl) al ?_
      refine w_pick_t rfl ?_
      exact .pure (by simp) rfl
end Go.Proofs.YtfijncpmhnnpiaaGreatDoor
end
