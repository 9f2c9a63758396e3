/-
  A text of many letters: a contract, known to the runs.
  No conditions.
-/
import Derived.Test.YtdngilegbpgjgaaGreatDoorWLng
import Derived.Test.YtdngilegbpgjgaaGreatDoorGrow
import Derived.Test.YtdngilegbpgjgaaGreatDoorK1
import Derived.Lib.Bytealg
set_option linter.unusedVariables false
set_option linter.unusedSimpArgs false
namespace Go.Proofs.YtdngilegbpgjgaaGreatDoor
open Go Go.Aw Go.RowKit
set_option maxRecDepth 1000000
theorem rep0_one (n : Nat) (a : AV) : rep0 n [a] = List.replicate n a := by
  induction n with
  | zero => rfl
  | succ n ih => rw [rep0, ih]; rfl
theorem set_rep {f : UInt8 → AV} {a b : UInt8} {k n : Nat} (h : k < n) : ((List.replicate k a).map f ++ (List.replicate (n - k) b).map f).set k (f a) = (List.replicate (k + 1) a).map f ++ (List.replicate (n - (k + 1)) b).map f := by
  simp only [List.map_replicate]
  obtain ⟨m, hm⟩ : ∃ m, n - k = m + 1 := ⟨n - k - 1, by omega⟩
  rw [hm, show n - (k + 1) = m by omega, List.set_append_right _ _ (by simp), List.length_replicate, Nat.sub_self, List.replicate_succ (n := m), List.set_cons_zero, List.replicate_succ' (n := k), List.append_assoc]
  rfl
def lngH (n k : Nat) : Heap := [.blk ⟨5, (List.replicate k (120 : UInt8)).map byteA ++ (List.replicate (n - k) (0 : UInt8)).map byteA, true⟩]
section
variable [Laid]
theorem con_long (n : Nat) (hn : n ≤ 100000) : Con Tryz.prog 12 [int n] (.str (List.replicate n 120)) := by
  refine (V12 _).gives (by simp) (by simp) ?_
  unfold W12
  refine ⟨⟨by omega, by omega, by omega, by omega⟩, ?_⟩
  have e0 : ([] : Heap) ++ [.blk ⟨5, rep0 (n : Int).toNat (vcells (u8 0)), true⟩] = lngH n 0 := by
    have : vcells (u8 0) = [u8 0] := rfl
    rw [this, rep0_one]
    simp [lngH, byteA]
  rw [e0]
  refine iLoop_of (α := Nat) (fun k => k ≤ n) (fun k => [int k]) (fun k => lngH n k) (fun k => n - k) 0 (by simp) (Wk.refl _ _ _ (by simp)) ?_
  intro k hk
  refine a_lss rfl rfl ?_
  rcases Nat.lt_or_ge k n with q | q
  · refine a_cond1 rfl (by simpa using q) ?_
    refine a_idxOw (n := k) rfl rfl (by simpa using q) ?_
    refine n_store (id := 0) (h' := lngH n (k + 1)) (cs := [byteA 120]) rfl rfl rfl rfl (by simp; omega) rfl rfl (by
      unfold lngH
      simp only [List.set_cons_zero, setAll, Nat.zero_add, Nat.mul_one]
      rw [set_rep q]) ?_
    refine w_add rfl rfl (by unfold inI; omega) ?_
    refine w_and ?_
    exact ⟨k + 1, q, Wk.refl _ _ _ (by simp [lngH]), by omega⟩
  · obtain rfl : k = n := by omega
    refine a_cond0 rfl (by simp) ?_
    refine a_ofBytes (id := 0) (l := List.replicate k 120) (by simp) rfl (by simp) ?_
    exact .pure (by simp) rfl
end
def cfgQ : Cfg := ⟨ownK, fun f => (match f with | 98 => true | _ => cfg.keep f), 100000⟩
/-- Many letters. -/
def x4 : List UInt8 := List.replicate 4001 120
variable [MaxL]
noncomputable def known6 : CallF := fun f args h => match Nat.beq f 12 with
  | true => (match args with | [.v (.int .i64 (.ofNat n))] => (match Nat.beq n 4001 with | true => some (.str x4, none) | false => none) | _ => none)
  | false => known5 f args h
theorem known6_ok : CallOK Tryz.prog known6 := by
  intro f args h v oh e
  unfold known6 at e
  split at e
  · rename_i hf
    obtain rfl := Nat.eq_of_beq_eq_true hf
    split at e
    · split at e
      · rename_i n hn
        obtain rfl := Nat.eq_of_beq_eq_true hn
        cases e
        exact .inl ⟨by kernel_rfl, (con_long 4001 (by omega)).call ⟨rfl, rfl⟩⟩
      · cases e
    · cases e
  · exact known5_ok _ _ _ _ _ e
omit [MaxL] in
theorem ext_compare [Laid] (a b : List UInt8) (h : Heap) : ExtSem Tryz.prog 276 [.str a, .str b] h fun r hh => r = int (Lib.compareBytes a b) ∧ hh = h := by
  have hf := Tryz.func276
  refine ⟨by kernel_rfl, fun base ι S w vs h1 h2 => ?_⟩
  match vs, h1 with
  | [v1, v2], h1 =>
    simp only [RepL_cons, Rep_str, RepL_nil, and_true] at h1
    obtain ⟨⟨rfl, _⟩, rfl, _⟩ := h1
    refine ⟨.int .i64 (Lib.compareBytes a b), _, w, ι, S, h, ?_, Evo.refl _ _ _ _ _, ?_, h2, Nat.le_refl _, rfl, rfl⟩
    · rw [run_callFunc_extern hf (by kernel_rfl) (by kernel_rfl) (by kernel_rfl) (e := Extern.BytealgCompare.compare) (by kernel_rfl), Lib.run_compareString]; rfl
    · simp
  | [], h1 => simp at h1
  | [_], h1 => simp at h1
  | _ :: _ :: _ :: _, h1 => simp at h1
noncomputable def known7 : CallF := fun f args h => match Nat.beq f 276 with
  | true => (match args with | [.str a, .str b] => some (int (Lib.compareBytes a b), none) | _ => none)
  | false => known6 f args h
theorem known7_ok : CallOK Tryz.prog known7 := by
  intro f args h v oh e
  unfold known7 at e
  split at e
  · rename_i hf
    obtain rfl := Nat.eq_of_beq_eq_true hf
    split at e
    · cases e
      exact .inr (ext_compare _ _ h)
    · cases e
  · exact known6_ok _ _ _ _ _ e
end Go.Proofs.YtdngilegbpgjgaaGreatDoor
