/-
  What is known by runs; the statement itself, run by the kernel.
  No conditions.
-/
import Derived.Test.YtpggiljgcckmoaaGreatDoorAlC0
namespace Go.Proofs.YtpggiljgcckmoaaGreatDoor
open Go Go.Aw Go.RowKit
set_option maxRecDepth 1000000
noncomputable def layAl1 : Memo := memAl0 ++ memAl1 ++ memAl2
noncomputable def knAl1 : CallF := withM layAl1 known2
theorem knAl1_ok : CallOK Tryz.prog knAl1 := withM_ok (C := cfg) known2_ok known2_ok (by
  intro p hp
  simp only [layAl1, List.mem_append] at hp
  rcases hp with ((hp | hp) | hp)
  · exact ⟨_, hp, memAl0_ok⟩
  · exact ⟨_, hp, memAl1_ok⟩
  · exact ⟨_, hp, memAl2_ok⟩)
theorem runAl : callD Tryz.prog cfg knAl1 80 12 [] [] = some (bool true, none) := by kernel_rfl
theorem conAl : Con Tryz.prog 12 [] (bool true) := callD_con knAl1_ok (by kernel_rfl) (by kernel_rfl) (by kernel_rfl) runAl
end Go.Proofs.YtpggiljgcckmoaaGreatDoor
