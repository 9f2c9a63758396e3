/-
 Calls that are known by runs of their own,and these runs,by the kernel.
 No conditions.
-/
import Derived.Test.YtldpambpnajgiaaGreatDoorZk
set_option linter.unusedVariables false
set_option linter.unusedSimpArgs false
set_option maxRecDepth 1000000
set_option maxHeartbeats 16000000
noncomputable section
namespace Go.Proofs.YtldpambpnajgiaaGreatDoor
section
open Go Go.Aw Go.RowKit
def Py:nK:=[(125,[.agg [.str [104,101,105,103,104,116],.sl 6 [[u8 2,.str [118,97,114],qO,qE,qF,.sl 6 [qK 1 [45,45,98],qK 18 [],qK 13 [],qK 1 [105,110,104,101,114,105,116]]]],qF]],.aF [.sl 3 [[.str [104,101,105,103,104,116],.sl 6 [[u8 2,.str [118,97,114],qO,qE,qF,.sl 6 [qK 1 [45,45,98],qK 18 [],qK 13 [],qK 1 [105,110,104,101,114,105,116]]]],qE]],qO]),(125,[.agg [.str [102,111,110,116,45,115,105,122,101],.sl 6 [[u8 12,qE,i_ 2000,.str [101,109],qT,qN]],qF]],.aF [.sl 3 [[.str [102,111,110,116,45,115,105,122,101],.sl 6 [[u8 12,qE,i_ 2000,.str [101,109],qT,qN]],qE]],qO]),(125,[.agg [.str [119,105,100,116,104],.sl 6 [[u8 2,.str [118,97,114],qO,qE,qF,.sl 6 [qK 1 [45,45,97]]]],qF]],.aF [.sl 3 [[.str [119,105,100,116,104],.sl 6 [[u8 2,.str [118,97,114],qO,qE,qF,.sl 6 [qK 1 [45,45,97]]]],qE]],qO]),(125,[.agg [.str [119,105,100,116,104],.sl 6 [[u8 12,qE,i_ 1500,.str [101,109],qF,qN]],qF]],.aF [.sl 3 [[.str [119,105,100,116,104],.sl 6 [[u8 12,qE,i_ 1500,.str [101,109],qF,qN]],qE]],qO]),(128,[.str [53,112,120]],.aF [.sl 5 [[u8 12,qE,i_ 5000,.str [112,120],qT]],qO]),(125,[.agg [.str [45,45,97],.sl 6 [[u8 12,qE,i_ 1000,.str [112,120],qT,qN]],qF]],.aF [.sl 3 [[.str [45,45,97],.sl 6 [[u8 12,qE,i_ 1000,.str [112,120],qT,qN]],qE]],qO]),(71,[.agg [.str [45,45,97],.sl 6 [[u8 12,qE,i_ 1000,.str [112,120],qT,qN]],qE,qF,u8 3,qT,qO,qO,qO,qO,qO]],qO),(74,[.str [108,105,110,101,45,104,101,105,103,104,116]],.aF [i_ 13,qO]),(74,[.str [116,101,120,116,45,97,108,105,103,110]],.aF [i_ 14,qO]),(74,[.str [122,45,105,110,100,101,120]],.aF [i_ 16,qO]),(74,[.str [111,114,100,101,114]],.aF [i_ 17,qO]),(74,[.str [111,112,97,99,105,116,121]],.aF [i_ 15,qO]),(74,[.str [109,97,114,103,105,110,45,98,111,116,116,111,109]],.aF [i_ 10,qO]),(74,[.str [109,97,114,103,105,110,45,108,101,102,116]],.aF [i_ 11,qO]),(74,[.str [102,111,110,116,45,115,105,122,101]],.aF [i_ 12,qO]),(74,[.str [109,97,114,103,105,110,45,114,105,103,104,116]],.aF [i_ 9,qO]),(74,[.str [109,97,114,103,105,110,45,116,111,112]],.aF [i_ 8,qO]),(74,[.str [98,97,99,107,103,114,111,117,110,100,45,99,111,108,111,114]],.aF [i_ 1,qO]),(74,[.str [111,117,116,108,105,110,101,45,99,111,108,111,114]],.aF [i_ 3,qO]),(74,[.str [118,105,115,105,98,105,108,105,116,121]],.aF [i_ 5,qO]),(74,[.str [104,101,105,103,104,116]],.aF [i_ 7,qO]),(74,[.str [98,111,114,100,101,114,45,99,111,108,111,114]],.aF [i_ 2,qO]),(74,[.str [119,105,100,116,104]],.aF [i_ 6,qO]),(74,[.str [100,105,115,112,108,97,121]],.aF [i_ 4,qO]),(74,[.str [99,111,108,111,114]],.aF [qO,qO])]
theorem Pz:mB Tryz.prog lM vQ Py=true:=by kernel_rfl
end
end Go.Proofs.YtldpambpnajgiaaGreatDoor
end
