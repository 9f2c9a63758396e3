/-
  Calls that are known by runs of their own, and these runs, by the kernel. What is known by runs; the statement itself, run by the kernel.
  No conditions.
-/
import Derived.Test.YthblflmjingcfaaGreatDoorC1
set_option linter.unusedVariables false
set_option linter.unusedSimpArgs false
section
namespace Go.Proofs.YthblflmjingcfaaGreatDoor
open Go Go.Aw Go.RowKit
set_option maxRecDepth 1000000
variable [MaxL]
noncomputable def memAl0 : Memo := [(44, [.str [58, 105, 115, 40, 97, 44, 32, 35, 98, 32, 99, 41, 58, 119, 104, 101, 114, 101, 40, 35, 100, 41]], .tup [.sl 3 [[.v (.int .u8 0), .sl 2 [[.str [], .sl 9 [[.v (.int .u8 11), .str [], .v (.int .u8 0), .str [], .v (.bool false), int 0, int 0, .v (.bool false), .sl 3 [[.v (.int .u8 0), .sl 2 [[.str [97], .v (.slice none 0 0)]], .v (.slice none 0 0)], [.v (.int .u8 0), .sl 2 [[.str [], .sl 9 [[.v (.int .u8 1), .str [98], .v (.int .u8 0), .str [], .v (.bool false), int 0, int 0, .v (.bool false), .v (.slice none 0 0)]]], [.str [99], .v (.slice none 0 0)]], .sl 1 [[.v (.int .u8 1)]]]]], [.v (.int .u8 12), .str [], .v (.int .u8 0), .str [], .v (.bool false), int 0, int 0, .v (.bool false), .sl 3 [[.v (.int .u8 0), .sl 2 [[.str [], .sl 9 [[.v (.int .u8 1), .str [100], .v (.int .u8 0), .str [], .v (.bool false), int 0, int 0, .v (.bool false), .v (.slice none 0 0)]]]], .v (.slice none 0 0)]]]]]], .v (.slice none 0 0)]], int 0]), (16, [.sl 3 [[.v (.int .u8 0), .sl 2 [[.str [], .sl 9 [[.v (.int .u8 11), .str [], .v (.int .u8 0), .str [], .v (.bool false), int 0, int 0, .v (.bool false), .sl 3 [[.v (.int .u8 0), .sl 2 [[.str [97], .v (.slice none 0 0)]], .v (.slice none 0 0)], [.v (.int .u8 0), .sl 2 [[.str [], .sl 9 [[.v (.int .u8 1), .str [98], .v (.int .u8 0), .str [], .v (.bool false), int 0, int 0, .v (.bool false), .v (.slice none 0 0)]]], [.str [99], .v (.slice none 0 0)]], .sl 1 [[.v (.int .u8 1)]]]]], [.v (.int .u8 12), .str [], .v (.int .u8 0), .str [], .v (.bool false), int 0, int 0, .v (.bool false), .sl 3 [[.v (.int .u8 0), .sl 2 [[.str [], .sl 9 [[.v (.int .u8 1), .str [100], .v (.int .u8 0), .str [], .v (.bool false), int 0, int 0, .v (.bool false), .v (.slice none 0 0)]]]], .v (.slice none 0 0)]]]]]], .v (.slice none 0 0)]]], .tup [.agg [int 1, int 0, int 1], int 0]), (16, [.sl 3 [[.v (.int .u8 0), .sl 2 [[.str [108, 105], .sl 9 [[.v (.int .u8 9), .str [], .v (.int .u8 0), .str [], .v (.bool false), int 2, int 0, .v (.bool true), .sl 3 [[.v (.int .u8 0), .sl 2 [[.str [], .sl 9 [[.v (.int .u8 2), .str [97], .v (.int .u8 0), .str [], .v (.bool false), int 0, int 0, .v (.bool false), .v (.slice none 0 0)]]]], .v (.slice none 0 0)], [.v (.int .u8 0), .sl 2 [[.str [], .sl 9 [[.v (.int .u8 1), .str [98], .v (.int .u8 0), .str [], .v (.bool false), int 0, int 0, .v (.bool false), .v (.slice none 0 0)]]]], .v (.slice none 0 0)]]]]]], .v (.slice none 0 0)]]], .tup [.agg [int 1, int 1, int 1], int 0]), (16, [.sl 3 [[.v (.int .u8 0), .sl 2 [[.str [97], .sl 9 [[.v (.int .u8 1), .str [98], .v (.int .u8 0), .str [], .v (.bool false), int 0, int 0, .v (.bool false), .v (.slice none 0 0)]]], [.str [], .sl 9 [[.v (.int .u8 2), .str [99], .v (.int .u8 0), .str [], .v (.bool false), int 0, int 0, .v (.bool false), .v (.slice none 0 0)], [.v (.int .u8 3), .str [100], .v (.int .u8 0), .str [], .v (.bool false), int 0, int 0, .v (.bool false), .v (.slice none 0 0)], [.v (.int .u8 7), .str [], .v (.int .u8 0), .str [], .v (.bool false), int 0, int 0, .v (.bool false), .v (.slice none 0 0)]]]], .sl 1 [[.v (.int .u8 1)]]]]], .tup [.agg [int 1, int 3, int 1], int 0])]
theorem memAl0_ok : memoOK Tryz.prog cfg known2 memAl0 = true := by kernel_rfl
noncomputable def memAl1 : Memo := [(44, [.str [108, 105, 58, 110, 116, 104, 45, 99, 104, 105, 108, 100, 40, 50, 110, 32, 111, 102, 32, 46, 97, 44, 32, 35, 98, 41]], .tup [.sl 3 [[.v (.int .u8 0), .sl 2 [[.str [108, 105], .sl 9 [[.v (.int .u8 9), .str [], .v (.int .u8 0), .str [], .v (.bool false), int 2, int 0, .v (.bool true), .sl 3 [[.v (.int .u8 0), .sl 2 [[.str [], .sl 9 [[.v (.int .u8 2), .str [97], .v (.int .u8 0), .str [], .v (.bool false), int 0, int 0, .v (.bool false), .v (.slice none 0 0)]]]], .v (.slice none 0 0)], [.v (.int .u8 0), .sl 2 [[.str [], .sl 9 [[.v (.int .u8 1), .str [98], .v (.int .u8 0), .str [], .v (.bool false), int 0, int 0, .v (.bool false), .v (.slice none 0 0)]]]], .v (.slice none 0 0)]]]]]], .v (.slice none 0 0)]], int 0])]
theorem memAl1_ok : memoOK Tryz.prog cfg known2 memAl1 = true := by kernel_rfl
noncomputable def memAl2 : Memo := [(44, [.str [97, 35, 98, 32, 46, 99, 91, 100, 93, 58, 114, 111, 111, 116]], .tup [.sl 3 [[.v (.int .u8 0), .sl 2 [[.str [97], .sl 9 [[.v (.int .u8 1), .str [98], .v (.int .u8 0), .str [], .v (.bool false), int 0, int 0, .v (.bool false), .v (.slice none 0 0)]]], [.str [], .sl 9 [[.v (.int .u8 2), .str [99], .v (.int .u8 0), .str [], .v (.bool false), int 0, int 0, .v (.bool false), .v (.slice none 0 0)], [.v (.int .u8 3), .str [100], .v (.int .u8 0), .str [], .v (.bool false), int 0, int 0, .v (.bool false), .v (.slice none 0 0)], [.v (.int .u8 7), .str [], .v (.int .u8 0), .str [], .v (.bool false), int 0, int 0, .v (.bool false), .v (.slice none 0 0)]]]], .sl 1 [[.v (.int .u8 1)]]]], int 0])]
theorem memAl2_ok : memoOK Tryz.prog cfg known2 memAl2 = true := by kernel_rfl
end Go.Proofs.YthblflmjingcfaaGreatDoor
end

section
namespace Go.Proofs.YthblflmjingcfaaGreatDoor
open Go Go.Aw Go.RowKit
set_option maxRecDepth 1000000
variable [MaxL]
noncomputable def layAl1 : Memo := memAl0 ++ memAl1 ++ memAl2
noncomputable def knAl1 : CallF := withM layAl1 known2
theorem knAl1_ok : CallOK Tryz.prog knAl1 := withM_ok (C := cfg) known2_ok known2_ok (by
  intro p hp
  simp only [layAl1, List.mem_append] at hp
  rcases hp with ((hp | hp) | hp)
  · exact ⟨_, hp, memAl0_ok⟩
  · exact ⟨_, hp, memAl1_ok⟩
  · exact ⟨_, hp, memAl2_ok⟩)
theorem runAl : callD Tryz.prog cfg knAl1 80 13 [] [] = some (bool true, none) := by kernel_rfl
theorem conAl : Con Tryz.prog 13 [] (bool true) := callD_con knAl1_ok (by kernel_rfl) (by kernel_rfl) (by kernel_rfl) runAl
end Go.Proofs.YthblflmjingcfaaGreatDoor
end
