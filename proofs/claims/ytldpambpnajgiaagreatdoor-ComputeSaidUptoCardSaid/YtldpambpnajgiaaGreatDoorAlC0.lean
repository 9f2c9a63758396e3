/-
 Calls that are known by runs of their own,and these runs,by the kernel.
 No conditions.
-/
import Derived.Test.YtldpambpnajgiaaGreatDoorZk
set_option linter.unusedVariables false
set_option linter.unusedSimpArgs false
set_option maxRecDepth 1000000
set_option maxHeartbeats 16000000
noncomputable section
namespace Go.Proofs.YtldpambpnajgiaaGreatDoor
section
open Go Go.Aw Go.RowKit
def Pu:nK:=[(128,[.str [45,45,97,58,32,49,112,120,59,32,119,105,100,116,104,58,32,118,97,114,40,45,45,97,41,59,32,104,101,105,103,104,116,58,32,118,97,114,40,45,45,98,44,32,105,110,104,101,114,105,116,41]],.aF [.sl 5 [[u8 1,.str [45,45,97],qO,qE,qF],[u8 16,qE,qO,qE,qF],[u8 13,qE,qO,qE,qF],[u8 12,qE,i_ 1000,.str [112,120],qT],[u8 17,qE,qO,qE,qF],[u8 13,qE,qO,qE,qF],[u8 1,.str [119,105,100,116,104],qO,qE,qF],[u8 16,qE,qO,qE,qF],[u8 13,qE,qO,qE,qF],[u8 2,.str [118,97,114],qO,qE,qF],[u8 1,.str [45,45,97],qO,qE,qF],[u8 22,qE,qO,qE,qF],[u8 17,qE,qO,qE,qF],[u8 13,qE,qO,qE,qF],[u8 1,.str [104,101,105,103,104,116],qO,qE,qF],[u8 16,qE,qO,qE,qF],[u8 13,qE,qO,qE,qF],[u8 2,.str [118,97,114],qO,qE,qF],[u8 1,.str [45,45,98],qO,qE,qF],[u8 18,qE,qO,qE,qF],[u8 13,qE,qO,qE,qF],[u8 1,.str [105,110,104,101,114,105,116],qO,qE,qF],[u8 22,qE,qO,qE,qF]],qO]),(125,[.agg [.str [98,111,114,100,101,114,45,99,111,108,111,114],.sl 6 [qK 1 [99,117,114,114,101,110,116,99,111,108,111,114]],qF]],.aF [.sl 3 [[.str [98,111,114,100,101,114,45,99,111,108,111,114],.sl 6 [qK 1 [99,117,114,114,101,110,116,99,111,108,111,114]],qE]],qO]),(125,[.agg [.str [109,97,114,103,105,110,45,108,101,102,116],.sl 6 [[u8 12,qE,i_ 3000,.str [114,101,109],qT,qN]],qF]],.aF [.sl 3 [[.str [109,97,114,103,105,110,45,108,101,102,116],.sl 6 [[u8 12,qE,i_ 3000,.str [114,101,109],qT,qN]],qE]],qO])]
theorem Pv:mB Tryz.prog lM vQ Pu=true:=by kernel_rfl
def Pw:nK:=[(128,[.str [102,111,110,116,45,115,105,122,101,58,32,50,101,109,59,32,119,105,100,116,104,58,32,49,46,53,101,109,59,32,109,97,114,103,105,110,45,108,101,102,116,58,32,51,114,101,109]],.aF [.sl 5 [[u8 1,.str [102,111,110,116,45,115,105,122,101],qO,qE,qF],[u8 16,qE,qO,qE,qF],[u8 13,qE,qO,qE,qF],[u8 12,qE,i_ 2000,.str [101,109],qT],[u8 17,qE,qO,qE,qF],[u8 13,qE,qO,qE,qF],[u8 1,.str [119,105,100,116,104],qO,qE,qF],[u8 16,qE,qO,qE,qF],[u8 13,qE,qO,qE,qF],[u8 12,qE,i_ 1500,.str [101,109],qF],[u8 17,qE,qO,qE,qF],[u8 13,qE,qO,qE,qF],[u8 1,.str [109,97,114,103,105,110,45,108,101,102,116],qO,qE,qF],[u8 16,qE,qO,qE,qF],[u8 13,qE,qO,qE,qF],[u8 12,qE,i_ 3000,.str [114,101,109],qT]],qO]),(128,[.str [99,111,108,111,114,58,32,114,101,100,59,32,98,111,114,100,101,114,45,99,111,108,111,114,58,32,99,117,114,114,101,110,116,99,111,108,111,114]],.aF [.sl 5 [[u8 1,.str [99,111,108,111,114],qO,qE,qF],[u8 16,qE,qO,qE,qF],[u8 13,qE,qO,qE,qF],[u8 1,.str [114,101,100],qO,qE,qF],[u8 17,qE,qO,qE,qF],[u8 13,qE,qO,qE,qF],[u8 1,.str [98,111,114,100,101,114,45,99,111,108,111,114],qO,qE,qF],[u8 16,qE,qO,qE,qF],[u8 13,qE,qO,qE,qF],[u8 1,.str [99,117,114,114,101,110,116,99,111,108,111,114],qO,qE,qF]],qO]),(125,[.agg [.str [99,111,108,111,114],.sl 6 [qK 1 [114,101,100]],qF]],.aF [.sl 3 [[.str [99,111,108,111,114],.sl 6 [qK 1 [114,101,100]],qE]],qO])]
theorem Px:mB Tryz.prog lM vQ Pw=true:=by kernel_rfl
end
end Go.Proofs.YtldpambpnajgiaaGreatDoor
end
