/-
  The statement itself, run by the kernel.
  No conditions.
-/
import Derived.Test.YtpggiljgcckmoaaGreatDoorWnC0
import Derived.Test.YtpggiljgcckmoaaGreatDoorWnC1
import Derived.Test.YtpggiljgcckmoaaGreatDoorWnC2
import Derived.Test.YtpggiljgcckmoaaGreatDoorWnC3
import Derived.Test.YtpggiljgcckmoaaGreatDoorWnC4
import Derived.Test.YtpggiljgcckmoaaGreatDoorWnC5
import Derived.Test.YtpggiljgcckmoaaGreatDoorWnC6
import Derived.Test.YtpggiljgcckmoaaGreatDoorWnC7
namespace Go.Proofs.YtpggiljgcckmoaaGreatDoor
open Go Go.Aw Go.RowKit
set_option maxRecDepth 1000000
theorem knWn0_ok : CallOK Tryz.prog knWn0 := known2_ok
theorem knWn1_ok : CallOK Tryz.prog knWn1 := withM_ok (C := cfg) knWn0_ok knWn0_ok (by
  intro p hp
  simp only [layWn0, List.mem_append] at hp
  rcases hp with ((((((hp | hp) | hp) | hp) | hp) | hp) | hp)
  · exact ⟨_, hp, memWn0_ok⟩
  · exact ⟨_, hp, memWn1_ok⟩
  · exact ⟨_, hp, memWn2_ok⟩
  · exact ⟨_, hp, memWn3_ok⟩
  · exact ⟨_, hp, memWn4_ok⟩
  · exact ⟨_, hp, memWn5_ok⟩
  · exact ⟨_, hp, memWn6_ok⟩)
theorem knWn2_ok : CallOK Tryz.prog knWn2 := withM_ok (C := cfg) knWn1_ok knWn1_ok (by
  intro p hp
  exact ⟨_, hp, memWn7_ok⟩)
theorem runWn : callD Tryz.prog cfg knWn2 80 7 [] [] = some (bool true, none) := by kernel_rfl
theorem conWn : Con Tryz.prog 7 [] (bool true) := callD_con knWn2_ok (by kernel_rfl) (by kernel_rfl) (by kernel_rfl) runWn
end Go.Proofs.YtpggiljgcckmoaaGreatDoor
