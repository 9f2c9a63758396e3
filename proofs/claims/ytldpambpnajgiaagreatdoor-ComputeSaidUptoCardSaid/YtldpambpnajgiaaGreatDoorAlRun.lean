/-
 What is known by runs;the statement itself,run by the kernel.
 No conditions.
-/
import Derived.Test.YtldpambpnajgiaaGreatDoorAlC0
import Derived.Test.YtldpambpnajgiaaGreatDoorAlC1
set_option linter.unusedVariables false
set_option linter.unusedSimpArgs false
set_option maxRecDepth 1000000
set_option maxHeartbeats 16000000
open Go.Proofs.Tryz renaming prog→p_
noncomputable section
namespace Go.Proofs.YtldpambpnajgiaaGreatDoor
section
open Go Go.Aw Go.RowKit
def KV:aZ:=pz Pu vQ
theorem Nb:dZ p_ KV:=lY (C:=lM) uM uM fun _ hp=>⟨_,hp,Pv⟩
def KW:aZ:=pz Pw KV
theorem Nc:dZ p_ KW:=lY (C:=lM) uM Nb fun _ hp=>⟨_,hp,Px⟩
def Ha:aZ:=pz Py KW
theorem BE:dZ p_ Ha:=lY (C:=lM) uM Nc fun _ hp=>⟨_,hp,Pz⟩
def qx1:AV:=.sl 11 [[.str [102,111,110,116,45,115,105,122,101],.sl 6 [[u8 12,qE,i_ 2000,.str [101,109],qT,qN]],qE,qF,u8 3,qT,qO,qO,qO,qO,qO],[.str [119,105,100,116,104],.sl 6 [[u8 12,qE,i_ 1500,.str [101,109],qF,qN]],qE,qF,u8 3,qT,qO,qO,qO,qO,i_ 1],[.str [109,97,114,103,105,110,45,108,101,102,116],.sl 6 [[u8 12,qE,i_ 3000,.str [114,101,109],qT,qN]],qE,qF,u8 3,qT,qO,qO,qO,qO,i_ 2]]
def qx2:AV:=.agg [.sl 7 [[u8 7,qE,qO,u8 255,qZ,qZ,u8 255],qV 7 0,qV 8 0,qV 8 0,qR [105,110,108,105,110,101],qR [118,105,115,105,98,108,101],qR [97,117,116,111],qV 2 7000,qV 2 0,qV 2 0,qV 2 0,qV 2 0,qV 2 20000,qR [110,111,114,109,97,108],qR [108,101,102,116],qV 5 1000,qR [97,117,116,111],qV 6 0],.sl 2 [[.str [45,45,112],.sl 6 [[u8 12,qE,i_ 5000,.str [112,120],qT,qN]]]]]
def Uh:List AV:=[.str [98,111,114,100,101,114,45,99,111,108,111,114],.sl 6 [qK 1 [99,117,114,114,101,110,116,99,111,108,111,114]],qE,qF,u8 3,qT,qO,qO,qO,qO,i_ 1]
def Ui:List AV:=[.str [99,111,108,111,114],.sl 6 [qK 1 [114,101,100]],qE,qF,u8 3,qT,qO,qO,qO,qO,qO]
def qx5:AV:=.sl 6 [[u8 2,.str [118,97,114],qO,qE,qF,.sl 6 [qK 1 [45,45,98],qK 18 [],qK 13 [],qK 1 [105,110,104,101,114,105,116]]]]
def qx0:AV:=.sl 11 [[.str [45,45,97],.sl 6 [[u8 12,qE,i_ 1000,.str [112,120],qT,qN]],qE,qF,u8 3,qT,qO,qO,qO,qO,qO],[.str [119,105,100,116,104],.sl 6 [[u8 2,.str [118,97,114],qO,qE,qF,.sl 6 [qK 1 [45,45,97]]]],qE,qF,u8 3,qT,qO,qO,qO,qO,i_ 1],[.str [104,101,105,103,104,116],qx5,qE,qF,u8 3,qT,qO,qO,qO,qO,i_ 2]]
def PA:nK:=[(88,[.str [45,45,97,58,32,49,112,120,59,32,119,105,100,116,104,58,32,118,97,114,40,45,45,97,41,59,32,104,101,105,103,104,116,58,32,118,97,114,40,45,45,98,44,32,105,110,104,101,114,105,116,41]],.aF [.sl 3 [[.str [45,45,97],.sl 6 [[u8 12,qE,i_ 1000,.str [112,120],qT,qN]],qF],[.str [119,105,100,116,104],.sl 6 [[u8 2,.str [118,97,114],qO,qE,qF,.sl 6 [qK 1 [45,45,97]]]],qF],[.str [104,101,105,103,104,116],qx5,qF]],qO]),(88,[.str [102,111,110,116,45,115,105,122,101,58,32,50,101,109,59,32,119,105,100,116,104,58,32,49,46,53,101,109,59,32,109,97,114,103,105,110,45,108,101,102,116,58,32,51,114,101,109]],.aF [.sl 3 [[.str [102,111,110,116,45,115,105,122,101],.sl 6 [[u8 12,qE,i_ 2000,.str [101,109],qT,qN]],qF],[.str [119,105,100,116,104],.sl 6 [[u8 12,qE,i_ 1500,.str [101,109],qF,qN]],qF],[.str [109,97,114,103,105,110,45,108,101,102,116],.sl 6 [[u8 12,qE,i_ 3000,.str [114,101,109],qT,qN]],qF]],qO]),(71,[.agg [.str [104,101,105,103,104,116],qx5,qE,qF,u8 3,qT,qO,qO,qO,qO,i_ 2]],qO),(71,[.agg [.str [119,105,100,116,104],.sl 6 [[u8 2,.str [118,97,114],qO,qE,qF,.sl 6 [qK 1 [45,45,97]]]],qE,qF,u8 3,qT,qO,qO,qO,qO,i_ 1]],qO),(71,[.agg Uh],qO),(90,[.str [53,112,120]],.sl 6 [[u8 12,qE,i_ 5000,.str [112,120],qT,qN]])]
theorem PB:mB p_ lM Ha PA=true:=by kernel_rfl
def PC:nK:=[(88,[.str [99,111,108,111,114,58,32,114,101,100,59,32,98,111,114,100,101,114,45,99,111,108,111,114,58,32,99,117,114,114,101,110,116,99,111,108,111,114]],.aF [.sl 3 [[.str [99,111,108,111,114],.sl 6 [qK 1 [114,101,100]],qF],[.str [98,111,114,100,101,114,45,99,111,108,111,114],.sl 6 [qK 1 [99,117,114,114,101,110,116,99,111,108,111,114]],qF]],qO]),(71,[.agg [.str [109,97,114,103,105,110,45,108,101,102,116],.sl 6 [[u8 12,qE,i_ 3000,.str [114,101,109],qT,qN]],qE,qF,u8 3,qT,qO,qO,qO,qO,i_ 2]],qO),(71,[.agg [.str [102,111,110,116,45,115,105,122,101],.sl 6 [[u8 12,qE,i_ 2000,.str [101,109],qT,qN]],qE,qF,u8 3,qT,qO,qO,qO,qO,qO]],qO),(71,[.agg Ui],qO),(71,[.agg [.str [119,105,100,116,104],.sl 6 [[u8 12,qE,i_ 1500,.str [101,109],qF,qN]],qE,qF,u8 3,qT,qO,qO,qO,qO,i_ 1]],qO)]
theorem PD:mB p_ lM Ha PC=true:=by kernel_rfl
def KX:aZ:=pz PA Ha
theorem Nd:dZ p_ KX:=lY (C:=lM) BE BE fun _ hp=>⟨_,hp,PB⟩
def Hb:aZ:=pz PC KX
theorem BF:dZ p_ Hb:=lY (C:=lM) BE Nd fun _ hp=>⟨_,hp,PD⟩
def PE:nK:=[(46,[],qx2),(45,[.agg [.sl 4 [[.str [104,116,109,108],.sl 2 [[.str [115,116,121,108,101],.str [45,45,97,58,32,49,112,120,59,32,119,105,100,116,104,58,32,118,97,114,40,45,45,97,41,59,32,104,101,105,103,104,116,58,32,118,97,114,40,45,45,98,44,32,105,110,104,101,114,105,116,41]]],i_ (-1),qN]]],qO,i_ (-1),qN,qN],qx0),(45,[.agg [.sl 4 [[.str [104,116,109,108],.sl 2 [[.str [115,116,121,108,101],.str [102,111,110,116,45,115,105,122,101,58,32,50,101,109,59,32,119,105,100,116,104,58,32,49,46,53,101,109,59,32,109,97,114,103,105,110,45,108,101,102,116,58,32,51,114,101,109]]],i_ (-1),qN]]],qO,i_ (-1),qN,qN],qx1),(37,[qx0],qO),(37,[.sl 11 [Ui,Uh]],qO)]
theorem PF:mB p_ lM Hb PE=true:=by kernel_rfl
def PG:nK:=[(45,[.agg [.sl 4 [[.str [104,116,109,108],.sl 2 [[.str [115,116,121,108,101],.str [99,111,108,111,114,58,32,114,101,100,59,32,98,111,114,100,101,114,45,99,111,108,111,114,58,32,99,117,114,114,101,110,116,99,111,108,111,114]]],i_ (-1),qN]]],qO,i_ (-1),qN,qN],.sl 11 [Ui,Uh]),(37,[qx1],qO)]
theorem PH:mB p_ lM Hb PG=true:=by kernel_rfl
def KY:aZ:=pz PE Hb
theorem Nf:dZ p_ KY:=lY (C:=lM) BF BF fun _ hp=>⟨_,hp,PF⟩
def Dr:aZ:=pz PG KY
theorem xh:dZ p_ Dr:=lY (C:=lM) BF Nf fun _ hp=>⟨_,hp,PH⟩
def PI:nK:=[(7,[qx0,qx2,i_ 10000],.aF [.agg [.sl 7 [[u8 7,qE,qO,u8 255,qZ,qZ,u8 255],qV 7 0,qV 8 0,qV 8 0,qR [105,110,108,105,110,101],qR [118,105,115,105,98,108,101],qV 2 1000,qV 2 7000,qV 2 0,qV 2 0,qV 2 0,qV 2 0,qV 2 20000,qR [110,111,114,109,97,108],qR [108,101,102,116],qV 5 1000,qR [97,117,116,111],qV 6 0],.sl 2 [[.str [45,45,97],.sl 6 [[u8 12,qE,i_ 1000,.str [112,120],qT,.sl 6 []]]],[.str [45,45,112],.sl 6 [[u8 12,qE,i_ 5000,.str [112,120],qT,.sl 6 []]]]]],qO])]
theorem PJ:mB p_ lM Dr PI=true:=by kernel_rfl
def PK:nK:=[(7,[qx1,qx2,i_ 10000],.aF [.agg [.sl 7 [[u8 7,qE,qO,u8 255,qZ,qZ,u8 255],qV 7 0,qV 8 0,qV 8 0,qR [105,110,108,105,110,101],qR [118,105,115,105,98,108,101],qV 2 60000,qR [97,117,116,111],qV 2 0,qV 2 0,qV 2 0,qV 2 30000,qV 2 40000,qR [110,111,114,109,97,108],qR [108,101,102,116],qV 5 1000,qR [97,117,116,111],qV 6 0],.sl 2 [[.str [45,45,112],.sl 6 [[u8 12,qE,i_ 5000,.str [112,120],qT,.sl 6 []]]]]],qO])]
theorem PL:mB p_ lM Dr PK=true:=by kernel_rfl
def PM:nK:=[(7,[.sl 11 [Ui,Uh],.agg [.sl 7 [[u8 7,qE,qO,qZ,qZ,qZ,u8 255],qV 7 0,qV 8 0,qV 8 0,qR [105,110,108,105,110,101],qR [118,105,115,105,98,108,101],qR [97,117,116,111],qR [97,117,116,111],qV 2 0,qV 2 0,qV 2 0,qV 2 0,qV 2 16000,qR [110,111,114,109,97,108],qR [108,101,102,116],qV 5 1000,qR [97,117,116,111],qV 6 0],qN],i_ 10000],.aF [.agg [.sl 7 [[u8 7,qE,qO,u8 255,qZ,qZ,u8 255],qV 7 0,qV 8 0,qV 8 0,qR [105,110,108,105,110,101],qR [118,105,115,105,98,108,101],qR [97,117,116,111],qR [97,117,116,111],qV 2 0,qV 2 0,qV 2 0,qV 2 0,qV 2 16000,qR [110,111,114,109,97,108],qR [108,101,102,116],qV 5 1000,qR [97,117,116,111],qV 6 0],qN],qO])]
theorem PN:mB p_ lM Dr PM=true:=by kernel_rfl
def KZ:aZ:=pz PI Dr
theorem Ng:dZ p_ KZ:=lY (C:=lM) xh xh fun _ hp=>⟨_,hp,PJ⟩
def K1:aZ:=pz PK KZ
theorem Nh:dZ p_ K1:=lY (C:=lM) xh Ng fun _ hp=>⟨_,hp,PL⟩
def T1:aZ:=pz PM K1
theorem Sh:dZ p_ T1:=lY (C:=lM) xh Nh fun _ hp=>⟨_,hp,PN⟩
theorem ab5:sN p_ lM T1 80 5 [] []=some (tt,none):=by kernel_rfl
theorem TL:aP p_ 5 [] (tt):=uz Sh (by kernel_rfl) (by kernel_rfl) (by kernel_rfl) ab5
end
end Go.Proofs.YtldpambpnajgiaaGreatDoor
end
