/-
  In, All, Text and Check answer as the reference does.
  No conditions.
-/
import Derived.Test.YtedaaincibcbkaaDoorAnbText
namespace Go.Proofs.YtedaaincibcbkaaDoor
open Go Go.Aw Go.AnbLaw Go.RowKit
set_option maxRecDepth 100000
theorem con_tells (A B p m : Int) : Con Tryd.prog 3 [anbA A B, int p, int m] (bool true) := by
  refine (V3 _ _ _).gives (by simp) (by simp) ?_
  unfold W3
  refine w_new (by simp [anbA]) ?_
  refine w_loadA rfl rfl (Nat.le_refl 2) ?_
  refine w_call rfl (by kernel_rfl) (con_in A B p) ?_
  refine w_extr rfl rfl ?_
  refine w_extr rfl rfl ?_
  refine w_loadA rfl rfl (Nat.le_refl 2) ?_
  refine w_call rfl (by kernel_rfl) (con_rIn A B p) ?_
  refine w_extr rfl rfl ?_
  refine w_extr rfl rfl ?_
  refine w_loadA rfl rfl (Nat.le_refl 2) ?_
  refine w_call rfl (by kernel_rfl) (con_all A B m) ?_
  refine w_extr rfl rfl ?_
  refine w_extr rfl rfl ?_
  refine w_loadA rfl rfl (Nat.le_refl 2) ?_
  refine w_call rfl (by kernel_rfl) (con_rAll A B m) ?_
  refine w_extr rfl rfl ?_
  refine w_extr rfl rfl ?_
  refine w_loadA rfl rfl (Nat.le_refl 2) ?_
  refine w_call rfl (by kernel_rfl) (con_text A B) ?_
  refine w_extr rfl rfl ?_
  refine w_extr rfl rfl ?_
  refine w_loadA rfl rfl (Nat.le_refl 2) ?_
  refine w_call rfl (by kernel_rfl) (con_rText A B) ?_
  refine w_extr rfl rfl ?_
  refine w_extr rfl rfl ?_
  refine w_lenS rfl ?_
  refine w_lenS rfl ?_
  refine w_neq false rfl rfl (by simp) ?_
  refine w_cond_f rfl ?_
  have hlen : (allL A B m).length ≤ 64 := by
    unfold allL
    split
    · rename_i h
      unfold allE at h
      split at h
      · split at h
        · have := places_length A B m.toNat; omega
        · cases h
      · cases h
    · simp
  generalize allL A B m = l at hlen
  generalize hs : (if ckA A B = 0 then anbT A B else []) = s
  generalize allE A B m = e1
  generalize inE A B p = e2
  generalize inB A B p = b
  refine iLoop_of (α := Nat) (fun n => n ≤ l.length) (fun n => [int (n : Nat)]) (fun _ => [.blk ⟨23, [int A, int B], true⟩]) (fun n => l.length - n) 0 (by omega) (Wk.refl _ _ _ (by simp)) ?_
  intro n hn
  refine w_lenS rfl ?_
  rcases Nat.lt_or_ge n l.length with q | q
  · refine w_lss true rfl rfl (decide_eq_true (by rw [rowsOf_len]; omega)) ?_
    refine w_cond_t rfl ?_
    have hr : (rowsOf l).getD n [] = [int (l.getD n 0)] := by
      rw [List.getD_eq_getElem?_getD, rowsOf, List.getElem?_map, List.getElem?_eq_getElem q, List.getD_eq_getElem?_getD, List.getElem?_eq_getElem q]; rfl
    refine w_idxS rfl rfl (by rw [rowsOf_len]; exact q) ?_
    rw [hr]
    refine w_loadI rfl ?_
    refine w_idxS rfl rfl (by rw [rowsOf_len]; exact q) ?_
    rw [hr]
    refine w_loadI rfl ?_
    refine w_neq false rfl rfl (by simp) ?_
    refine w_cond_f rfl ?_
    refine w_add rfl rfl (by unfold inI; omega) ?_
    refine w_and ?_
    exact ⟨n + 1, by omega, by simpa using Wk.refl _ _ _ (by simp), by omega⟩
  · obtain rfl : n = l.length := by omega
    refine w_lss false rfl rfl (decide_eq_false (by rw [rowsOf_len]; omega)) ?_
    refine w_cond_f rfl ?_
    refine w_loadA rfl rfl (Nat.le_refl 2) ?_
    refine w_callQ rfl (by kernel_rfl) (con_check A B) ?_
    refine w_loadA rfl rfl (Nat.le_refl 2) ?_
    refine w_callQ rfl (by kernel_rfl) (con_rCheck A B) ?_
    simp
    exact .pure (by simp) rfl
end Go.Proofs.YtedaaincibcbkaaDoor
