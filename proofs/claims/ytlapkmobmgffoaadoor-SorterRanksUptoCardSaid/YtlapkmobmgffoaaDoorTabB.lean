/-
  The table of properties: the code's.
  No conditions: contracts.
-/
import Derived.Test.YtlapkmobmgffoaaDoorTabA
set_option linter.unusedVariables false
set_option linter.unusedSimpArgs false
namespace Go.Proofs.YtlapkmobmgffoaaDoor
open Go Go.Aw
set_option maxRecDepth 1000000
theorem a_addS {x y : AV} {a b : List UInt8} {K : AV → Prop} (ex : x = .str a) (ey : y = .str b) (hl : a.length + b.length ≤ maxLen) (q : K (.str (a ++ b))) : iBin .add x y K := by
  subst ex; subst ey
  exact ⟨hl, q⟩
def tM : Nat → Heap
  | 0 => []
  | k + 1 => tM k ++ [.dead]
def tH (k : Nat) : Heap := [.blk ⟨94, [u8 1, .str [97, 117, 116, 111], int 0, u8 0, u8 0, u8 0, u8 0], true⟩, .blk ⟨94, [u8 2, .str [], int 0, u8 0, u8 0, u8 0, u8 0], true⟩] ++ tM k ++ [.blk ⟨115, (tabP.take (8 + k)).flatten, true⟩]
set_option maxHeartbeats 4000000 in
theorem con_Table : Con Tryd.prog 62 [] (.sl 12 tabP) := by
  refine (V62).gives (by simp) (by simp [tabP]) ?_
  unfold W62
  refine w_call rfl (by kernel_rfl) tb0 ?_
  refine a_build rfl ?_
  refine n_new (n := 0) (h' := [_]) rfl rfl rfl rfl ?_
  refine n_new (n := 1) (h' := [_, _]) rfl rfl rfl rfl ?_
  refine n_store (h' := [_, _]) rfl rfl rfl rfl (Nat.le_refl _) rfl rfl rfl ?_
  refine n_store (h' := [_, _]) rfl rfl rfl rfl (Nat.le_refl _) rfl rfl rfl ?_
  refine a_build rfl ?_
  refine a_build rfl ?_
  refine w_callQ rfl (by kernel_rfl) tb1 ?_
  refine a_build rfl ?_
  refine w_callQ rfl (by kernel_rfl) tb2 ?_
  refine a_build rfl ?_
  refine w_callQ rfl (by kernel_rfl) tb3 ?_
  refine a_build rfl ?_
  refine w_callQ rfl (by kernel_rfl) tb4 ?_
  refine w_callQ rfl (by kernel_rfl) tb6 ?_
  refine w_callQ rfl (by kernel_rfl) tb8 ?_
  refine w_loadA rfl rfl (Nat.le_refl _) ?_
  refine w_callQ rfl (by kernel_rfl) tb9 ?_
  refine w_loadA rfl rfl (Nat.le_refl _) ?_
  refine w_callQ rfl (by kernel_rfl) tb10 ?_
  refine a_mkSlN (n := 2) (h' := tH 0) rfl rfl rfl ?_
  refine a_mkSlP rfl ?_
  refine a_len rfl rfl fun _ => ?_
  refine iLoop_of (α := Nat) (fun k => k ≤ 4) (fun k => [.own (2 + k) 0 (8 + k) 12, int k]) tH (fun k => 4 - k) 0 (by simp) (Wk.refl _ _ _ (by simp)) ?_
  intro k hk
  obtain rfl | rfl | rfl | rfl | rfl : k = 0 ∨ k = 1 ∨ k = 2 ∨ k = 3 ∨ k = 4 := by omega
  · refine a_lss rfl rfl ?_
    refine a_cond1 rfl rfl ?_
    refine w_idxS rfl rfl (by decide) ?_
    refine w_loadI rfl ?_
    refine a_addS rfl rfl (by unfold maxLen; decide) ?_
    refine w_loadA rfl rfl (Nat.le_refl _) ?_
    refine w_call rfl (by kernel_rfl) tb11 ?_
    refine a_mkSlP rfl ?_
    refine n_appK (n := 3) (h' := [_, _, _, _]) (cells := (tabP.take 8).flatten) (len := 8) rfl rfl (by decide) (by omega) srcR_sl rfl (by unfold roomA maxLen; decide) rfl rfl ?_
    refine w_add rfl rfl (by unfold inI; omega) ?_
    refine w_and ?_
    exact ⟨1, by omega, Wk.refl _ _ _ (by simp [tH, tM]), by omega⟩
  · refine a_lss rfl rfl ?_
    refine a_cond1 rfl rfl ?_
    refine w_idxS rfl rfl (by decide) ?_
    refine w_loadI rfl ?_
    refine a_addS rfl rfl (by unfold maxLen; decide) ?_
    refine w_loadA rfl rfl (Nat.le_refl _) ?_
    refine w_call rfl (by kernel_rfl) tb12 ?_
    refine a_mkSlP rfl ?_
    refine n_appK (n := 4) (h' := [_, _, _, _, _]) (cells := (tabP.take 9).flatten) (len := 9) rfl rfl (by decide) (by omega) srcR_sl rfl (by unfold roomA maxLen; decide) rfl rfl ?_
    refine w_add rfl rfl (by unfold inI; omega) ?_
    refine w_and ?_
    exact ⟨2, by omega, Wk.refl _ _ _ (by simp [tH, tM]), by omega⟩
  · refine a_lss rfl rfl ?_
    refine a_cond1 rfl rfl ?_
    refine w_idxS rfl rfl (by decide) ?_
    refine w_loadI rfl ?_
    refine a_addS rfl rfl (by unfold maxLen; decide) ?_
    refine w_loadA rfl rfl (Nat.le_refl _) ?_
    refine w_call rfl (by kernel_rfl) tb13 ?_
    refine a_mkSlP rfl ?_
    refine n_appK (n := 5) (h' := [_, _, _, _, _, _]) (cells := (tabP.take 10).flatten) (len := 10) rfl rfl (by decide) (by omega) srcR_sl rfl (by unfold roomA maxLen; decide) rfl rfl ?_
    refine w_add rfl rfl (by unfold inI; omega) ?_
    refine w_and ?_
    exact ⟨3, by omega, Wk.refl _ _ _ (by simp [tH, tM]), by omega⟩
  · refine a_lss rfl rfl ?_
    refine a_cond1 rfl rfl ?_
    refine w_idxS rfl rfl (by decide) ?_
    refine w_loadI rfl ?_
    refine a_addS rfl rfl (by unfold maxLen; decide) ?_
    refine w_loadA rfl rfl (Nat.le_refl _) ?_
    refine w_call rfl (by kernel_rfl) tb14 ?_
    refine a_mkSlP rfl ?_
    refine n_appK (n := 6) (h' := [_, _, _, _, _, _, _]) (cells := (tabP.take 11).flatten) (len := 11) rfl rfl (by decide) (by omega) srcR_sl rfl (by unfold roomA maxLen; decide) rfl rfl ?_
    refine w_add rfl rfl (by unfold inI; omega) ?_
    refine w_and ?_
    exact ⟨4, by omega, Wk.refl _ _ _ (by simp [tH, tM]), by omega⟩
  · refine a_lss rfl rfl ?_
    refine a_cond0 rfl rfl ?_
    refine a_build rfl ?_
    refine w_callQ rfl (by kernel_rfl) tb15 ?_
    refine w_callQ rfl (by kernel_rfl) tb16 ?_
    refine a_mkSlP rfl ?_
    refine w_callQ rfl (by kernel_rfl) tb17 ?_
    refine w_callQ rfl (by kernel_rfl) tb19 ?_
    refine a_build rfl ?_
    refine a_mkSlP rfl ?_
    refine a_build rfl ?_
    refine w_loadA rfl rfl (Nat.le_refl _) ?_
    refine a_mkSlP rfl ?_
    refine a_mkSlP rfl ?_
    refine a_build rfl ?_
    refine a_build rfl ?_
    refine a_mkSlP rfl ?_
    refine a_build rfl ?_
    refine a_mkSlP rfl ?_
    refine a_appK (cells := (tabP.take 12).flatten) (len := 12) rfl rfl (by decide) (by omega) srcR_sl rfl (by unfold roomA maxLen; decide) ?_
    refine Gives.of ?_
    show _ = _
    rfl
end Go.Proofs.YtlapkmobmgffoaaDoor
