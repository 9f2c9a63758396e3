/-
  Progressions as texts, by the program and by the reference.
  No conditions: contracts.
-/
import Derived.Test.YthblflmjingcfaaGreatDoorWAnb
import Derived.Test.YthblflmjingcfaaGreatDoorShelfFmt
import Derived.Test.YthblflmjingcfaaGreatDoorCfg
import Derived.Test.YthblflmjingcfaaGreatDoorL5
import Derived.Test.YthblflmjingcfaaGreatDoorS1
import Derived.Lib.AppendIntMem
set_option linter.unusedVariables false
set_option linter.unusedSimpArgs false
namespace Go.Proofs.YthblflmjingcfaaGreatDoor
open Go Go.Aw Go.Sel Go.RowKit
set_option maxRecDepth 100000
def anbA (A B : Int) : AV := .agg [int A, int B]
def okN (n : Int) : Bool := decide (-1000000000 ≤ n) && decide (n ≤ 1000000000)
theorem okN_is (n : Int) : okN n = anbOK n := by
  unfold okN anbOK
  rw [Bool.eq_iff_iff]
  simp
def powN : List Int := [1, 10, 100, 1000, 10000, 100000, 1000000, 10000000, 100000000, 1000000000, 10000000000, 100000000000, 1000000000000, 10000000000000, 100000000000000, 1000000000000000, 10000000000000000, 100000000000000000, 1000000000000000000, 10000000000000000000]
noncomputable def powA : List AV := powN.map fun z => .v (.int .u64 z)
theorem tab_is {P : Program} {S : Stab} {W : World} {g : Nat} {name : String} {k : IntKind} {zs : List Int} (hn : P.globalNamed name = some g) (h : RepC [] S W (zs.map fun z => .v (.int k z)) g 0) (hs : ∃ ty, W.shape? g = some (ty, zs.length)) : Lib.TabIs P W name k zs := by
  obtain ⟨ty, hs⟩ := hs
  unfold Lib.TabIs World.var?
  rw [hn, Option.bind_some]
  unfold World.shape? at hs
  split at hs
  · rename_i c t f hh
    simp only [Option.some.injEq, Prod.mk.injEq] at hs
    obtain ⟨_, hz⟩ := hs
    rw [hh]
    simp only [Option.some.injEq]
    refine Array.ext (by simpa using hz) fun i h1 h2 => ?_
    have hi : i < zs.length := by simpa using h2
    obtain ⟨u, hu, _, ru⟩ := h.get i (.v (.int k zs[i])) (by rw [List.getElem?_map, List.getElem?_eq_getElem hi]; rfl)
    rw [Rep_v] at ru
    subst ru
    rw [Nat.zero_add, cell_at hh] at hu
    rw [Array.getElem?_eq_getElem h1] at hu
    simpa using hu
  · cases hs
variable [MaxL]
theorem con_fmt (n : Int) (h : inI n) : Con Tryz.prog 72 [int n, int 10] (.str (Lib.itoa n)) := by
  have hlen : (Lib.itoa n).length ≤ 21 := by
    unfold inI at h
    unfold Lib.itoa
    have key : ∀ u : Nat, u ≤ 9223372036854775808 → (Lib.decDigits u).length ≤ 20 := fun u hu => by
      rw [Lib.decDigits_length]
      by_cases h0 : u = 0
      · subst h0; rw [Lib.nDigits_small (by omega)]; omega
      · have := Lib.numDigits_eq u (by omega) (by omega); split at this <;> omega
    split
    · have := key n.natAbs (by omega); simp; omega
    · have := key n.toNat (by omega); omega
  refine con_below (v := .string ⟨(Lib.itoa n).toArray⟩) (by simp [PureL]) (by simp) (by simp) (fun w => by simp [maxLen]; omega) ?_
  intro ι S w vs h1 hg
  match vs, h1 with
  | [], h1 => simp at h1
  | [v], h1 => simp at h1
  | v :: u :: x :: vs, h1 => simp at h1
  | [v, u], h1 =>
    simp only [RepL_cons, RepL_nil, and_true, Rep_v] at h1
    obtain ⟨rfl, rfl⟩ := h1
    have ht : Lib.TabIs Tryz.prog w "internal/strconv.uint64pow10" .u64 Lib.pow10Tab := by
      have e : Lib.pow10Tab = powN := by decide
      rw [e]
      obtain ⟨hc, hs⟩ := hg 0 powA (by rfl)
      exact tab_is (g := 0) (by kernel_rfl) hc (by simpa [powA] using hs)
    refine (formatInt_laid n h.1 h.2 w ht).mono ?_
    rintro e w' ⟨rfl, k, os, rfl⟩
    exact ⟨rfl, Lib.below_grow _ _ (Nat.le_refl _) _ _⟩

/-! ### The reference's digits -/
theorem con_digits : ∀ k : Nat, k ≤ 1000000000 → Con Tryz.prog 78 [int k] (.str (Lib.decDigits k)) := by
  intro k
  induction k using Nat.strongRecOn with
  | _ k ih =>
    intro hk
    refine (V78 _).gives (by simp) (by simp) ?_
    unfold W78
    have e1 : (k : Int).tmod 10 = (k : Int) % 10 := Int.tmod_eq_emod_of_nonneg (by omega)
    have e3 : inI (48 + (k : Int) % 10) := by unfold inI; omega
    have e4 : IntKind.u8.wrap (48 + (k : Int) % 10) = 48 + (k : Int) % 10 := by rw [IntKind.wrap_u8]; omega
    have e5 : IntKind.i64.wrap ((k : Int) / 10) = (k : Int) / 10 := by rw [IntKind.wrap_i64]; omega
    simp [e1, e3, e4, e5]
    have hb : (48 + (k : Int) % 10).toNat = 48 + k % 10 := by omega
    simp [iOfBytes, chunks, unB, hb]
    constructor
    · intro h
      have h : k < 10 := by omega
      refine .pure (by simp) ?_
      rw [Lib.decDigits, dif_pos h, show k % 10 = k by omega]
      simp
    · intro h
      have hl : (Lib.decDigits (k / 10)).length ≤ 20 := by
        rw [Lib.decDigits_length]
        have := Lib.numDigits_eq (k / 10) (by omega) (by omega)
        split at this <;> omega
      refine w_call (by simp) (by kernel_rfl) (ih (k / 10) (by omega) (by omega)) ?_
      simp [maxLen]
      refine ⟨by omega, .pure (by simp) ?_⟩
      rw [Lib.decDigits.eq_def k, dif_neg (show ¬ k < 10 by omega)]
      simp
omit [MaxL] in
theorem itoa_len (n : Int) (h : okN n = true) : (Lib.itoa n).length ≤ 21 := by
  simp only [okN, Bool.and_eq_true, decide_eq_true_eq] at h
  unfold Lib.itoa
  have key : ∀ u : Nat, u ≤ 1000000000 → (Lib.decDigits u).length ≤ 20 := fun u hu => by
    rw [Lib.decDigits_length]
    by_cases h0 : u = 0
    · subst h0; rw [Lib.nDigits_small (by omega)]; omega
    · have := Lib.numDigits_eq u (by omega) (by omega); split at this <;> omega
  split
  · have := key n.natAbs (by omega); simp; omega
  · have := key n.toNat (by omega); omega
theorem con_signed (n : Int) (h : okN n = true) : Con Tryz.prog 77 [int n] (.str (Lib.itoa n)) := by
  have hl := itoa_len n h
  simp only [okN, Bool.and_eq_true, decide_eq_true_eq] at h
  refine (V77 _).gives (by simp) (by simp) ?_
  unfold W77
  by_cases hn : n < 0
  · have e1 : inI (-n) := by unfold inI; omega
    simp [hn, e1]
    refine w_call (args' := [int ((n.natAbs : Nat) : Int)]) (by simp; omega) (by kernel_rfl) (con_digits n.natAbs (by omega)) ?_
    rw [Lib.itoa, if_pos hn] at hl ⊢
    simp at hl
    simp [maxLen]
    exact ⟨by omega, .pure (by simp) rfl⟩
  · simp [hn]
    refine w_call (args' := [int ((n.toNat : Nat) : Int)]) (by simp; omega) (by kernel_rfl) (con_digits n.toNat (by omega)) ?_
    exact .pure (by simp) (by rw [Lib.itoa, if_neg hn])
/-- The text of a progression. -/
def anbT (A B : Int) : List UInt8 :=
  if A = 0 then Lib.itoa B else
    (if A = 1 then [] else if A = -1 then [45] else Lib.itoa A) ++ [110] ++ (if 0 < B then 43 :: Lib.itoa B else if B < 0 then Lib.itoa B else [])
theorem con_written (A B : Int) (hA : okN A = true) (hB : okN B = true) : Con Tryz.prog 59 [anbA A B] (.str (anbT A B)) := by
  have lA := itoa_len A hA
  have lB := itoa_len B hB
  refine (V59 _).gives (by simp [anbA]) (by simp) ?_
  unfold W59
  by_cases h0 : A = 0
  · simp [anbA, h0]
    refine w_call rfl (by kernel_rfl) (con_signed B hB) ?_
    exact .pure (by simp) (by simp [anbT])
  · simp [anbA, h0, -iLet_r]
    refine w_call rfl (by kernel_rfl) (con_signed A hA) ?_
    refine w_join [.str (if A = 1 then [] else Lib.itoa A)] [.blk ⟨51, [int A, int B], true⟩] ?_ (fun F hF => by
      by_cases h1 : A = 1
      · simp [h1] at hF ⊢; exact hF
      · simp [h1] at hF ⊢; exact hF)
    refine w_join [.str (if A = 1 then [] else if A = -1 then [45] else Lib.itoa A)] [.blk ⟨51, [int A, int B], true⟩] ?_ (fun F hF => by
      by_cases h1 : A = -1
      · simp [h1] at hF ⊢; exact hF
      · by_cases h2 : A = 1 <;> simp [h1, h2] at hF ⊢ <;> exact hF)
    have hl : (if A = 1 then [] else if A = -1 then [45] else Lib.itoa A).length ≤ 21 := by
      (repeat' split) <;> first | exact lA | simp
    generalize hs : (if A = 1 then [] else if A = -1 then [45] else Lib.itoa A) = s at hl
    have out : anbT A B = s ++ [110] ++ (if 0 < B then 43 :: Lib.itoa B else if B < 0 then Lib.itoa B else []) := by rw [anbT, if_neg h0, hs]
    have e1 : s.length + 1 ≤ maxLen := by unfold maxLen; omega
    have e2 : s.length + (1 + 1) ≤ maxLen := by unfold maxLen; omega
    simp [e1, e2]
    simp only [okN, Bool.and_eq_true, decide_eq_true_eq] at hB
    refine ⟨fun hp => ?_, fun hp => ⟨fun hn => ?_, fun hn => ?_⟩⟩
    · refine w_call (args' := [int ((B.toNat : Nat) : Int)]) (by simp; omega) (by kernel_rfl) (con_digits B.toNat (by omega)) ?_
      have e : Lib.itoa B = Lib.decDigits B.toNat := by rw [Lib.itoa, if_neg (by omega)]
      rw [e] at lB
      simp
      refine ⟨by unfold maxLen; omega, .pure (by simp) ?_⟩
      rw [out, if_pos hp, e]; simp
    · refine w_call rfl (by kernel_rfl) (con_signed B (by simp [okN]; omega)) ?_
      simp
      refine ⟨by unfold maxLen; omega, .pure (by simp) ?_⟩
      rw [out, if_neg (by omega), if_pos hn]; simp
    · refine .pure (by simp) ?_
      rw [out, if_neg (by omega), if_neg (by omega)]; simp
/-! ### The program's -/
theorem con_hasSuffix (s : List UInt8) (h : s = [49] ∨ s = [45, 49]) : Con Tryz.prog 135 [.str s, .str [49]] (bool true) := by
  refine (V135 _ _).gives (by simp) (by simp) ?_
  unfold W135
  rcases h with rfl | rfl <;> simp [maxLen, inI] <;> exact .pure (by simp) rfl
theorem con_trim1 (s : List UInt8) (h : s = [49] ∨ s = [45, 49]) : Con Tryz.prog 106 [.str s, .str [49]] (.str (s.dropLast)) := by
  refine (V106 _ _).gives (by simp) (by simp) ?_
  unfold W106
  refine w_call rfl (by kernel_rfl) (con_hasSuffix s h) ?_
  rcases h with rfl | rfl <;> simp [maxLen, inI] <;> exact .pure (by simp) rfl
theorem con_trim (s : List UInt8) (h : s = [49] ∨ s = [45, 49]) : Con Tryz.prog 73 [.str s, .str [49]] (.str (s.dropLast)) := by
  refine (V73 _ _).gives (by simp) (by simp) ?_
  unfold W73
  refine w_call rfl (by kernel_rfl) (con_trim1 s h) ?_
  exact .pure (by simp) rfl
omit [MaxL] in
theorem itoa_one : Lib.itoa 1 = [49] := by rw [Lib.itoa, if_neg (by omega), Lib.decDigits, dif_pos (by decide)]; rfl
omit [MaxL] in
theorem itoa_neg : Lib.itoa (-1) = [45, 49] := by rw [Lib.itoa, if_pos (by omega), Lib.decDigits, dif_pos (by decide)]; rfl
theorem con_text (A B : Int) (hA : okN A = true) (hB : okN B = true) : Con Tryz.prog 53 [anbA A B] (.tup [.str (anbT A B), int 0]) := by
  refine (V53 _).gives (by simp [anbA]) (by simp) ?_
  unfold W53
  simp [anbA, -iLet_r]
  have hc : Con Tryz.prog 71 [.agg [int A, int B]] (int 0) := by
    have := con_anbCheck A B
    rw [← okN_is, ← okN_is, hA, hB] at this
    exact this
  refine iCall_con (by kernel_rfl) hc ?_
  have lA := itoa_len A hA
  have lB := itoa_len B hB
  have iA : inI A := by simp only [okN, Bool.and_eq_true, decide_eq_true_eq] at hA; unfold inI; omega
  have iB : inI B := by simp only [okN, Bool.and_eq_true, decide_eq_true_eq] at hB; unfold inI; omega
  simp [-iLet_r]
  refine w_call rfl (by kernel_rfl) (con_fmt B iB) ?_
  by_cases h0 : A = 0
  · simp [h0, -iLet_r]
    exact .pure (by simp) (by simp [anbT])
  simp [h0, -iLet_r]
  refine w_call rfl (by kernel_rfl) (con_fmt A iA) ?_
  refine w_join [.str (if A = 1 then [] else if A = -1 then [45] else Lib.itoa A)] [.blk ⟨51, [int A, int B], true⟩] ?_ (fun F hF => by
    by_cases h1 : A = 1
    · subst h1
      simp
      refine w_call rfl (by kernel_rfl) (con_trim _ (.inl itoa_one)) ?_
      simpa [itoa_one] using hF
    · by_cases h2 : A = -1
      · subst h2
        simp
        refine w_call rfl (by kernel_rfl) (con_trim _ (.inr itoa_neg)) ?_
        simpa [itoa_neg] using hF
      · simpa [h1, h2] using hF)
  have hl : (if A = 1 then [] else if A = -1 then [45] else Lib.itoa A).length ≤ 21 := by
    (repeat' split) <;> first | exact lA | simp
  generalize hs : (if A = 1 then [] else if A = -1 then [45] else Lib.itoa A) = s at hl
  have out : anbT A B = s ++ [110] ++ (if 0 < B then 43 :: Lib.itoa B else if B < 0 then Lib.itoa B else []) := by rw [anbT, if_neg h0, hs]
  rw [out]
  have e1 : s.length + 1 ≤ maxLen := by unfold maxLen; omega
  have e2 : 1 + (Lib.itoa B).length ≤ maxLen := by unfold maxLen; omega
  have e3 : s.length + 1 + ((Lib.itoa B).length + 1) ≤ maxLen := by unfold maxLen; omega
  have e4 : s.length + 1 + (Lib.itoa B).length ≤ maxLen := by unfold maxLen; omega
  simp [e1, e2, e3, e4]
  refine ⟨fun hp => .pure (by simp) (by simp [hp]), fun hp => ⟨fun hn => .pure (by simp) ?_, fun hn => .pure (by simp) ?_⟩⟩
  · rw [if_neg (by omega), if_pos hn]
  · rw [if_neg (by omega), if_neg (by omega)]
end Go.Proofs.YthblflmjingcfaaGreatDoor
