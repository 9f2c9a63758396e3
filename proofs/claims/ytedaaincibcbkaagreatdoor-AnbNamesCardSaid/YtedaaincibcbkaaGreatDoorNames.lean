/-
  The statement itself, run by the kernel.
  No conditions.
-/
import Derived.Test.YtedaaincibcbkaaGreatDoorMemo0
import Derived.Test.YtedaaincibcbkaaGreatDoorMemo1
import Derived.Test.YtedaaincibcbkaaGreatDoorMemo2
import Derived.Test.YtedaaincibcbkaaGreatDoorMemo3
import Derived.Test.YtedaaincibcbkaaGreatDoorMemo4
import Derived.Test.YtedaaincibcbkaaGreatDoorMemo5
namespace Go.Proofs.YtedaaincibcbkaaGreatDoor
open Go Go.Aw Go.RowKit
set_option maxRecDepth 1000000
def memo : Memo := memo0 ++ memo1 ++ memo2 ++ memo3 ++ memo4 ++ memo5
noncomputable def known3 : CallF := withM memo known2
theorem known3_ok : CallOK Tryz.prog known3 := withM_ok (C := cfg) known2_ok known2_ok (by
  intro p hp
  simp only [memo, List.mem_append] at hp
  rcases hp with (((((hp | hp) | hp) | hp) | hp) | hp)
  · exact ⟨_, hp, memo0_ok⟩
  · exact ⟨_, hp, memo1_ok⟩
  · exact ⟨_, hp, memo2_ok⟩
  · exact ⟨_, hp, memo3_ok⟩
  · exact ⟨_, hp, memo4_ok⟩
  · exact ⟨_, hp, memo5_ok⟩)
theorem run5 : callD Tryz.prog cfg known3 30 5 [] [] = some (bool true, none) := by kernel_rfl
theorem con5 : Con Tryz.prog 5 [] (bool true) := callD_con known3_ok (by kernel_rfl) (by kernel_rfl) (by kernel_rfl) run5
end Go.Proofs.YtedaaincibcbkaaGreatDoor
