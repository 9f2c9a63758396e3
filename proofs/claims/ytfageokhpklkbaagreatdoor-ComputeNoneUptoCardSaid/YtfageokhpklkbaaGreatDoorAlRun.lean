/-
 What is known by runs;the statement itself,run by the kernel.
 No conditions.
-/
import Derived.Test.YtfageokhpklkbaaGreatDoorA1
set_option linter.unusedVariables false
set_option linter.unusedSimpArgs false
namespace Go.Proofs.YtfageokhpklkbaaGreatDoor
open Go Go.Aw Go.RowKit
set_option maxRecDepth 1000000
noncomputable def zb : aw:=bU EL iq
theorem Cc : aW Tryz.prog zb:=bq (C:=bp) ga ga fun _ hp=>⟨_,hp,EM⟩
noncomputable def zc : aw:=bU EN zb
theorem Cd : aW Tryz.prog zc:=bq (C:=bp) ga Cc fun _ hp=>⟨_,hp,EO⟩
noncomputable def zd : aw:=bU EP zc
theorem Ce : aW Tryz.prog zd:=bq (C:=bp) ga Cd fun _ hp=>⟨_,hp,ER⟩
noncomputable def ze : aw:=bU ES zd
theorem Cf : aW Tryz.prog ze:=bq (C:=bp) ga Ce fun _ hp=>⟨_,hp,ET⟩
noncomputable def zf : aw:=bU EU ze
theorem Cg : aW Tryz.prog zf:=bq (C:=bp) ga Cf fun _ hp=>⟨_,hp,EV⟩
noncomputable def zg : aw:=bU EW zf
theorem Ch : aW Tryz.prog zg:=bq (C:=bp) ga Cg fun _ hp=>⟨_,hp,EX⟩
noncomputable def lY : aw:=bU EY zg
theorem iL : aW Tryz.prog lY:=bq (C:=bp) ga Ch fun _ hp=>⟨_,hp,EZ⟩
noncomputable def qx3 : AV:=.tup [int (-1),.str [105,110,105,116,105,97,108],qO]
noncomputable def qx5 : AV:=.tup [int (-1),.str [105,110,104,101,114,105,116],qO]
noncomputable def qx6 : AV:=.sl 6 [[u8 2,.str [118,97,114],qO,qE,qF,.sl 6 [qK 1 [45,45,98],qK 18 [],qK 13 [],qK 1 [105,110,104,101,114,105,116]]]]
noncomputable def qx7 : AV:=.str [98,111,114,100,101,114,45,99,111,108,111,114]
noncomputable def qx8 : AV:=.str [109,97,114,103,105,110,45,108,101,102,116]
noncomputable def qx9 : AV:=.str [102,111,110,116,45,115,105,122,101]
noncomputable def DB : AV:=.sl 2 [[.str [45,45,97],.sl 6 [[u8 12,qE,int 1000,.str [112,120],qT,.sl 6 []]]],[.str [45,45,112],.sl 6 [[u8 12,qE,int 5000,.str [112,120],qT,.sl 6 []]]]]
noncomputable def ij : AV:=.str [119,105,100,116,104]
noncomputable def tV : AV:=.sl 6 [[u8 2,.str [118,97,114],qO,qE,qF,.sl 6 [qK 1 [45,45,97]]]]
noncomputable def lz : AV:=.str [104,101,105,103,104,116]
noncomputable def tW : AV:=.sl 6 [qK 1 [99,117,114,114,101,110,116,99,111,108,111,114]]
noncomputable def qw : AV:=.sl 6 [[u8 12,qE,int 1000,.str [112,120],qT,qN]]
noncomputable def qx0 : AV:=.sl 11 [[.str [45,45,97],qw,qE,qF,u8 3,qT,qO,qO,qO,qO,qO],[ij,tV,qE,qF,u8 3,qT,qO,qO,qO,qO,int 1],[lz,qx6,qE,qF,u8 3,qT,qO,qO,qO,qO,int 2]]
noncomputable def tX : AV:=.sl 6 [[u8 12,qE,int 3000,.str [114,101,109],qT,qN]]
noncomputable def lA : AV:=.str [99,111,108,111,114]
noncomputable def qx2 : AV:=.sl 11 [[lA,.sl 6 [qK 1 [114,101,100]],qE,qF,u8 3,qT,qO,qO,qO,qO,qO],[qx7,tW,qE,qF,u8 3,qT,qO,qO,qO,qO,int 1]]
noncomputable def tY : AV:=.sl 6 [[u8 12,qE,int 2000,.str [101,109],qT,qN]]
noncomputable def tZ : AV:=.sl 6 [[u8 12,qE,int 1500,.str [101,109],qF,qN]]
noncomputable def qx1 : AV:=.sl 11 [[qx9,tY,qE,qF,u8 3,qT,qO,qO,qO,qO,qO],[ij,tZ,qE,qF,u8 3,qT,qO,qO,qO,qO,int 1],[qx8,tX,qE,qF,u8 3,qT,qO,qO,qO,qO,int 2]]
noncomputable def qx : List AV:=[u8 7,qE,qO,u8 255,qZ,qZ,u8 255]
noncomputable def qx4 : AV:=.agg [.sl 7 [qx,qV 7 0,qV 8 0,qV 8 0,qR [105,110,108,105,110,101],qR [118,105,115,105,98,108,101],qR [97,117,116,111],qV 2 7000,qV 2 0,qV 2 0,qV 2 0,qV 2 0,qV 2 20000,qR [110,111,114,109,97,108],qR [108,101,102,116],qV 5 1000,qR [97,117,116,111],qV 6 0],.sl 2 [[.str [45,45,112],.sl 6 [[u8 12,qE,int 5000,.str [112,120],qT,qN]]]]]
noncomputable def Hw : AV:=.agg [.sl 7 [qx,qV 7 0,qV 8 0,qV 8 0,qR [105,110,108,105,110,101],qR [118,105,115,105,98,108,101],qR [97,117,116,111],qR [97,117,116,111],qV 2 0,qV 2 0,qV 2 0,qV 2 0,qV 2 16000,qR [110,111,114,109,97,108],qR [108,101,102,116],qV 5 1000,qR [97,117,116,111],qV 6 0],qN]
noncomputable def DC : AV:=.str [98,97,99,107,103,114,111,117,110,100,45,99,111,108,111,114]
noncomputable def E0 : cc:=[(49,[.str [45,45,97,58,32,49,112,120,59,32,119,105,100,116,104,58,32,118,97,114,40,45,45,97,41,59,32,104,101,105,103,104,116,58,32,118,97,114,40,45,45,98,44,32,105,110,104,101,114,105,116,41]],.tup [.sl 3 [[.str [45,45,97],qw,qF],[ij,tV,qF],[lz,qx6,qF]],qO])]
theorem E1 : bH Tryz.prog bp lY E0 = true:=by kernel_rfl
noncomputable def E2 : cc:=[(49,[.str [102,111,110,116,45,115,105,122,101,58,32,50,101,109,59,32,119,105,100,116,104,58,32,49,46,53,101,109,59,32,109,97,114,103,105,110,45,108,101,102,116,58,32,51,114,101,109]],.tup [.sl 3 [[qx9,tY,qF],[ij,tZ,qF],[qx8,tX,qF]],qO]),(41,[int 2,.agg (qR [99,117,114,114,101,110,116,99,111,108,111,114])],.tup [qF,qO])]
theorem E3 : bH Tryz.prog bp lY E2 = true:=by kernel_rfl
noncomputable def E4 : cc:=[(49,[.str [99,111,108,111,114,58,32,114,101,100,59,32,98,111,114,100,101,114,45,99,111,108,111,114,58,32,99,117,114,114,101,110,116,99,111,108,111,114]],.tup [.sl 3 [[lA,.sl 6 [qK 1 [114,101,100]],qF],[qx7,tW,qF]],qO]),(84,[.agg [.str [45,45,97],qw,qF]],.tup [.sl 3 [[.str [45,45,97],qw,qE]],qO]),(40,[DB],qO),(62,[.agg [.str [45,45,97],qw,qE,qF,u8 3,qT,qO,qO,qO,qO,qO]],qO),(101,[.str [100,105,115,112,108,97,121]],.tup [qF,qO])]
theorem E5 : bH Tryz.prog bp lY E4 = true:=by kernel_rfl
noncomputable def zJ : cc:=[(40,[.sl 2 [[.str [45,45,112],.sl 6 [[u8 12,qE,int 5000,.str [112,120],qT,qN]]]]],qO),(41,[int 5,.agg (qR [118,105,115,105,98,108,101])],.tup [qT,qO]),(41,[int 4,.agg (qR [105,110,108,105,110,101])],.tup [qT,qO]),(41,[int 13,.agg (qR [110,111,114,109,97,108])],.tup [qT,qO]),(41,[int 14,.agg (qR [108,101,102,116])],.tup [qT,qO]),(53,[.str [53,112,120]],.sl 6 [[u8 12,qE,int 5000,.str [112,120],qT,qN]]),(41,[int 16,.agg (qR [97,117,116,111])],.tup [qT,qO]),(133,[qx7],.tup [.sl 1 [[qx7]],qO]),(41,[int 6,.agg (qR [97,117,116,111])],.tup [qT,qO]),(41,[int 7,.agg (qR [97,117,116,111])],.tup [qT,qO]),(41,[int 11,.agg (qV 4 3000)],.tup [qT,qO]),(41,[int 12,.agg (qV 3 2000)],.tup [qT,qO]),(41,[int 6,.agg (qV 3 1500)],.tup [qT,qO]),(133,[qx8],.tup [.sl 1 [[qx8]],qO]),(41,[int 12,.agg (qV 2 16000)],.tup [qT,qO]),(41,[int 12,.agg (qV 2 20000)],.tup [qT,qO]),(41,[int 15,.agg (qV 5 1000)],.tup [qT,qO])]
theorem CN : bH Tryz.prog bp lY zJ = true:=by kernel_rfl
noncomputable def zK : cc:=[(41,[qO,.agg qx],.tup [qT,qO]),(41,[int 2,.agg (qV 8 0)],.tup [qT,qO]),(41,[int 3,.agg (qV 8 0)],.tup [qT,qO]),(41,[int 7,.agg (qV 2 7000)],.tup [qT,qO]),(41,[int 6,.agg (qV 2 1000)],.tup [qT,qO]),(41,[qO,.agg [u8 7,qE,qO,qZ,qZ,qZ,u8 255]],.tup [qT,qO]),(41,[int 10,.agg (qV 2 0)],.tup [qT,qO]),(41,[int 11,.agg (qV 2 0)],.tup [qT,qO]),(41,[int 17,.agg (qV 6 0)],.tup [qT,qO]),(41,[int 1,.agg (qV 7 0)],.tup [qT,qO]),(41,[int 8,.agg (qV 2 0)],.tup [qT,qO]),(41,[int 9,.agg (qV 2 0)],.tup [qT,qO]),(133,[qx9],.tup [.sl 1 [[qx9]],qO]),(101,[DC],.tup [qF,qO]),(133,[lz],.tup [.sl 1 [[lz]],qO]),(101,[.str [111,117,116,108,105,110,101,45,99,111,108,111,114]],.tup [qF,qO]),(101,[.str [109,97,114,103,105,110,45,98,111,116,116,111,109]],.tup [qF,qO]),(133,[ij],.tup [.sl 1 [[ij]],qO]),(101,[.str [109,97,114,103,105,110,45,114,105,103,104,116]],.tup [qF,qO]),(133,[lA],.tup [.sl 1 [[lA]],qO]),(101,[qx7],.tup [qF,qO])]
theorem CO : bH Tryz.prog bp lY zK = true:=by kernel_rfl
noncomputable def zL : cc:=[(101,[qx8],.tup [qF,qO]),(101,[.str [108,105,110,101,45,104,101,105,103,104,116]],.tup [qT,qO]),(101,[.str [118,105,115,105,98,105,108,105,116,121]],.tup [qT,qO]),(101,[.str [109,97,114,103,105,110,45,116,111,112]],.tup [qF,qO]),(101,[.str [116,101,120,116,45,97,108,105,103,110]],.tup [qT,qO]),(101,[qx9],.tup [qT,qO]),(101,[.str [122,45,105,110,100,101,120]],.tup [qF,qO]),(101,[.str [111,112,97,99,105,116,121]],.tup [qF,qO]),(101,[lz],.tup [qF,qO]),(101,[ij],.tup [qF,qO]),(101,[.str [111,114,100,101,114]],.tup [qF,qO]),(101,[lA],.tup [qT,qO])]
theorem CP : bH Tryz.prog bp lY zL = true:=by kernel_rfl
noncomputable def zh : aw:=bU E0 lY
theorem Ci : aW Tryz.prog zh:=bq (C:=bp) iL iL fun _ hp=>⟨_,hp,E1⟩
noncomputable def zi : aw:=bU E2 zh
theorem Cj : aW Tryz.prog zi:=bq (C:=bp) iL Ci fun _ hp=>⟨_,hp,E3⟩
noncomputable def zj : aw:=bU E4 zi
theorem Ck : aW Tryz.prog zj:=bq (C:=bp) iL Cj fun _ hp=>⟨_,hp,E5⟩
noncomputable def zk : aw:=bU zJ zj
theorem Cl : aW Tryz.prog zk:=bq (C:=bp) iL Ck fun _ hp=>⟨_,hp,CN⟩
noncomputable def zl : aw:=bU zK zk
theorem Cm : aW Tryz.prog zl:=bq (C:=bp) iL Cl fun _ hp=>⟨_,hp,CO⟩
noncomputable def jP : aw:=bU zL zl
theorem gm : aW Tryz.prog jP:=bq (C:=bp) iL Cm fun _ hp=>⟨_,hp,CP⟩
noncomputable def zM : cc:=[(21,[qx4],qO),(84,[.agg [qx9,tY,qF]],.tup [.sl 3 [[qx9,tY,qE]],qO])]
theorem CQ : bH Tryz.prog bp jP zM = true:=by kernel_rfl
noncomputable def zN : cc:=[(30,[],qx4),(84,[.agg [lA,.sl 6 [qK 1 [114,101,100]],qF]],.tup [.sl 3 [[lA,.sl 6 [qK 1 [114,101,100]],qE]],qO])]
theorem CR : bH Tryz.prog bp jP zN = true:=by kernel_rfl
noncomputable def zO : cc:=[(21,[Hw],qO),(119,[tV,DB],.tup [qw,qO])]
theorem CS : bH Tryz.prog bp jP zO = true:=by kernel_rfl
noncomputable def zP : cc:=[(21,[.agg [.sl 7 [[u8 7,qE,qO,qZ,qZ,qZ,u8 255],qV 7 0,qV 8 0,qV 8 0,qR [105,110,108,105,110,101],qR [118,105,115,105,98,108,101],qR [97,117,116,111],qR [97,117,116,111],qV 2 0,qV 2 0,qV 2 0,qV 2 0,qV 2 16000,qR [110,111,114,109,97,108],qR [108,101,102,116],qV 5 1000,qR [97,117,116,111],qV 6 0],qN]],qO),(84,[.agg [qx8,tX,qF]],.tup [.sl 3 [[qx8,tX,qE]],qO])]
theorem CT : bH Tryz.prog bp jP zP = true:=by kernel_rfl
noncomputable def zQ : cc:=[(84,[.agg [qx7,tW,qF]],.tup [.sl 3 [[qx7,tW,qE]],qO]),(119,[qx6,DB],.tup [.sl 6 [qK 1 [105,110,104,101,114,105,116]],qO]),(62,[.agg [qx8,tX,qE,qF,u8 3,qT,qO,qO,qO,qO,int 2]],qO)]
theorem CU : bH Tryz.prog bp jP zQ = true:=by kernel_rfl
noncomputable def zR : cc:=[(84,[.agg [lz,qx6,qF]],.tup [.sl 3 [[lz,qx6,qE]],qO]),(84,[.agg [ij,tV,qF]],.tup [.sl 3 [[ij,tV,qE]],qO]),(62,[.agg [lz,qx6,qE,qF,u8 3,qT,qO,qO,qO,qO,int 2]],qO),(62,[.agg [qx9,tY,qE,qF,u8 3,qT,qO,qO,qO,qO,qO]],qO)]
theorem CV : bH Tryz.prog bp jP zR = true:=by kernel_rfl
noncomputable def zS : cc:=[(84,[.agg [ij,tZ,qF]],.tup [.sl 3 [[ij,tZ,qE]],qO]),(125,[int 2,tW],.tup [.agg (qV 8 0),qO]),(62,[.agg [qx7,tW,qE,qF,u8 3,qT,qO,qO,qO,qO,int 1]],qO),(62,[.agg [ij,tV,qE,qF,u8 3,qT,qO,qO,qO,qO,int 1]],qO),(125,[int 11,tX],.tup [.agg (qV 4 3000),qO]),(125,[qO,.sl 6 [qK 1 [114,101,100]]],.tup [.agg qx,qO]),(125,[int 12,tY],.tup [.agg (qV 3 2000),qO]),(125,[int 6,tZ],.tup [.agg (qV 3 1500),qO])]
theorem CW : bH Tryz.prog bp jP zS = true:=by kernel_rfl
noncomputable def zT : cc:=[(125,[int 6,qw],.tup [.agg (qV 2 1000),qO]),(62,[.agg [lA,.sl 6 [qK 1 [114,101,100]],qE,qF,u8 3,qT,qO,qO,qO,qO,qO]],qO),(62,[.agg [ij,tZ,qE,qF,u8 3,qT,qO,qO,qO,qO,int 1]],qO)]
theorem CX : bH Tryz.prog bp jP zT = true:=by kernel_rfl
noncomputable def zm : aw:=bU zM jP
theorem Cn : aW Tryz.prog zm:=bq (C:=bp) gm gm fun _ hp=>⟨_,hp,CQ⟩
noncomputable def zn : aw:=bU zN zm
theorem Co : aW Tryz.prog zn:=bq (C:=bp) gm Cn fun _ hp=>⟨_,hp,CR⟩
noncomputable def zo : aw:=bU zO zn
theorem Cp : aW Tryz.prog zo:=bq (C:=bp) gm Co fun _ hp=>⟨_,hp,CS⟩
noncomputable def zp : aw:=bU zP zo
theorem Cq : aW Tryz.prog zp:=bq (C:=bp) gm Cp fun _ hp=>⟨_,hp,CT⟩
noncomputable def zq : aw:=bU zQ zp
theorem Cr : aW Tryz.prog zq:=bq (C:=bp) gm Cq fun _ hp=>⟨_,hp,CU⟩
noncomputable def zr : aw:=bU zR zq
theorem Cs : aW Tryz.prog zr:=bq (C:=bp) gm Cr fun _ hp=>⟨_,hp,CV⟩
noncomputable def zt : aw:=bU zS zr
theorem Ct : aW Tryz.prog zt:=bq (C:=bp) gm Cs fun _ hp=>⟨_,hp,CW⟩
noncomputable def py : aw:=bU zT zt
theorem lh : aW Tryz.prog py:=bq (C:=bp) gm Ct fun _ hp=>⟨_,hp,CX⟩
noncomputable def zU : cc:=[(12,[Hw,int 2],.tup [.agg qx,qO]),(38,[qx2],qO)]
theorem CY : bH Tryz.prog bp py zU = true:=by kernel_rfl
noncomputable def zW : cc:=[(28,[.agg [.sl 4 [[.str [104,116,109,108],.sl 2 [[.str [115,116,121,108,101],.str [45,45,97,58,32,49,112,120,59,32,119,105,100,116,104,58,32,118,97,114,40,45,45,97,41,59,32,104,101,105,103,104,116,58,32,118,97,114,40,45,45,98,44,32,105,110,104,101,114,105,116,41]]],int (-1),qN]]],qO,int (-1),qN,qN],qx0),(38,[qx1],qO)]
theorem CZ : bH Tryz.prog bp py zW = true:=by kernel_rfl
noncomputable def zX : cc:=[(28,[.agg [.sl 4 [[.str [104,116,109,108],.sl 2 [[.str [115,116,121,108,101],.str [102,111,110,116,45,115,105,122,101,58,32,50,101,109,59,32,119,105,100,116,104,58,32,49,46,53,101,109,59,32,109,97,114,103,105,110,45,108,101,102,116,58,32,51,114,101,109]]],int (-1),qN]]],qO,int (-1),qN,qN],qx1),(38,[qx0],qO)]
theorem C0 : bH Tryz.prog bp py zX = true:=by kernel_rfl
noncomputable def zY : cc:=[(28,[.agg [.sl 4 [[.str [104,116,109,108],.sl 2 [[.str [115,116,121,108,101],.str [99,111,108,111,114,58,32,114,101,100,59,32,98,111,114,100,101,114,45,99,111,108,111,114,58,32,99,117,114,114,101,110,116,99,111,108,111,114]]],int (-1),qN]]],qO,int (-1),qN,qN],qx2)]
theorem C1 : bH Tryz.prog bp py zY = true:=by kernel_rfl
noncomputable def zu : aw:=bU zU py
theorem Cv : aW Tryz.prog zu:=bq (C:=bp) lh lh fun _ hp=>⟨_,hp,CY⟩
noncomputable def zv : aw:=bU zW zu
theorem Cw : aW Tryz.prog zv:=bq (C:=bp) lh Cv fun _ hp=>⟨_,hp,CZ⟩
noncomputable def zw : aw:=bU zX zv
theorem Cx : aW Tryz.prog zw:=bq (C:=bp) lh Cw fun _ hp=>⟨_,hp,C0⟩
noncomputable def ef : aw:=bU zY zw
theorem cJ : aW Tryz.prog ef:=bq (C:=bp) lh Cx fun _ hp=>⟨_,hp,C1⟩
noncomputable def zZ : cc:=[(74,[qx0,DC],qx3),(74,[qx0,.str [111,117,116,108,105,110,101,45,99,111,108,111,114]],qx3)]
theorem C3 : bH Tryz.prog bp ef zZ = true:=by kernel_rfl
noncomputable def z6 : cc:=[(74,[qx0,.str [109,97,114,103,105,110,45,98,111,116,116,111,109]],qx3),(74,[qx0,.str [109,97,114,103,105,110,45,114,105,103,104,116]],qx3)]
theorem C4 : bH Tryz.prog bp ef z6 = true:=by kernel_rfl
noncomputable def z7 : cc:=[(74,[qx0,qx7],qx3),(74,[qx0,.str [108,105,110,101,45,104,101,105,103,104,116]],qx5)]
theorem C5 : bH Tryz.prog bp ef z7 = true:=by kernel_rfl
noncomputable def z8 : cc:=[(74,[qx0,qx8],qx3),(74,[qx0,.str [118,105,115,105,98,105,108,105,116,121]],qx5)]
theorem C6 : bH Tryz.prog bp ef z8 = true:=by kernel_rfl
noncomputable def Aa : cc:=[(74,[qx0,.str [116,101,120,116,45,97,108,105,103,110]],qx5),(74,[qx0,.str [109,97,114,103,105,110,45,116,111,112]],qx3)]
theorem C7 : bH Tryz.prog bp ef Aa = true:=by kernel_rfl
noncomputable def Ab : cc:=[(74,[qx0,qx9],qx5),(74,[qx0,.str [100,105,115,112,108,97,121]],qx3)]
theorem C8 : bH Tryz.prog bp ef Ab = true:=by kernel_rfl
noncomputable def Ac : cc:=[(74,[qx0,.str [122,45,105,110,100,101,120]],qx3),(74,[qx0,.str [111,112,97,99,105,116,121]],qx3)]
theorem C9 : bH Tryz.prog bp ef Ac = true:=by kernel_rfl
noncomputable def Ad : cc:=[(74,[qx0,lA],qx5),(74,[qx0,.str [111,114,100,101,114]],qx3)]
theorem Da : bH Tryz.prog bp ef Ad = true:=by kernel_rfl
noncomputable def Ae : cc:=[(123,[qx0,int 2,.str [105,110,104,101,114,105,116]],qx5),(74,[qx0,.str [45,45,112]],qx5)]
theorem Db : bH Tryz.prog bp ef Ae = true:=by kernel_rfl
noncomputable def Af : cc:=[(74,[qx0,ij],.tup [int 1,qE,qO]),(74,[qx0,.str [45,45,97]],.tup [qO,qE,qO]),(74,[qx2,qx9],qx5)]
theorem Dd : bH Tryz.prog bp ef Af = true:=by kernel_rfl
noncomputable def Ag : cc:=[(74,[qx0,lz],.tup [int 2,qE,qO]),(74,[qx1,DC],qx3),(74,[qx1,.str [111,117,116,108,105,110,101,45,99,111,108,111,114]],qx3)]
theorem De : bH Tryz.prog bp ef Ag = true:=by kernel_rfl
noncomputable def Ah : cc:=[(74,[qx1,.str [109,97,114,103,105,110,45,98,111,116,116,111,109]],qx3),(74,[qx1,.str [109,97,114,103,105,110,45,114,105,103,104,116]],qx3),(74,[qx1,qx7],qx3)]
theorem Df : bH Tryz.prog bp ef Ah = true:=by kernel_rfl
noncomputable def Ai : cc:=[(74,[qx1,.str [108,105,110,101,45,104,101,105,103,104,116]],qx5),(74,[qx1,.str [118,105,115,105,98,105,108,105,116,121]],qx5),(74,[qx1,.str [116,101,120,116,45,97,108,105,103,110]],qx5)]
theorem Dg : bH Tryz.prog bp ef Ai = true:=by kernel_rfl
noncomputable def Aj : cc:=[(74,[qx1,.str [109,97,114,103,105,110,45,116,111,112]],qx3),(74,[qx1,.str [100,105,115,112,108,97,121]],qx3),(74,[qx1,.str [122,45,105,110,100,101,120]],qx3)]
theorem Dh : bH Tryz.prog bp ef Aj = true:=by kernel_rfl
noncomputable def Ak : cc:=[(74,[qx1,.str [111,112,97,99,105,116,121]],qx3),(74,[qx1,lz],qx3),(74,[qx1,lA],qx5)]
theorem Di : bH Tryz.prog bp ef Ak = true:=by kernel_rfl
noncomputable def Al : cc:=[(74,[qx1,.str [111,114,100,101,114]],qx3),(74,[qx1,.str [45,45,112]],qx5),(74,[qx1,qx9],.tup [qO,qE,qO])]
theorem Dj : bH Tryz.prog bp ef Al = true:=by kernel_rfl
noncomputable def Am : cc:=[(74,[qx1,qx8],.tup [int 2,qE,qO]),(74,[qx1,ij],.tup [int 1,qE,qO]),(74,[qx2,qx7],.tup [int 1,qE,qO])]
theorem Dk : bH Tryz.prog bp ef Am = true:=by kernel_rfl
noncomputable def Ao : cc:=[(74,[qx2,DC],qx3),(74,[qx2,.str [111,117,116,108,105,110,101,45,99,111,108,111,114]],qx3),(74,[qx2,.str [109,97,114,103,105,110,45,98,111,116,116,111,109]],qx3),(74,[qx2,.str [109,97,114,103,105,110,45,114,105,103,104,116]],qx3)]
theorem Dl : bH Tryz.prog bp ef Ao = true:=by kernel_rfl
noncomputable def Ap : cc:=[(74,[qx2,.str [108,105,110,101,45,104,101,105,103,104,116]],qx5),(74,[qx2,qx8],qx3),(74,[qx2,.str [118,105,115,105,98,105,108,105,116,121]],qx5),(74,[qx2,.str [116,101,120,116,45,97,108,105,103,110]],qx5)]
theorem Dm : bH Tryz.prog bp ef Ap = true:=by kernel_rfl
noncomputable def Aq : cc:=[(74,[qx2,.str [109,97,114,103,105,110,45,116,111,112]],qx3),(74,[qx2,.str [100,105,115,112,108,97,121]],qx3),(74,[qx2,.str [122,45,105,110,100,101,120]],qx3),(74,[qx2,.str [111,112,97,99,105,116,121]],qx3)]
theorem Dn : bH Tryz.prog bp ef Aq = true:=by kernel_rfl
noncomputable def Ar : cc:=[(74,[qx2,lA],.tup [qO,qE,qO]),(74,[qx2,lz],qx3),(74,[qx2,ij],qx3),(74,[qx2,.str [111,114,100,101,114]],qx3)]
theorem Dp : bH Tryz.prog bp ef Ar = true:=by kernel_rfl
noncomputable def zx : aw:=bU zZ ef
theorem Cy : aW Tryz.prog zx:=bq (C:=bp) cJ cJ fun _ hp=>⟨_,hp,C3⟩
noncomputable def zy : aw:=bU z6 zx
theorem Cz : aW Tryz.prog zy:=bq (C:=bp) cJ Cy fun _ hp=>⟨_,hp,C4⟩
noncomputable def zz : aw:=bU z7 zy
theorem CA : aW Tryz.prog zz:=bq (C:=bp) cJ Cz fun _ hp=>⟨_,hp,C5⟩
noncomputable def zA : aw:=bU z8 zz
theorem CB : aW Tryz.prog zA:=bq (C:=bp) cJ CA fun _ hp=>⟨_,hp,C6⟩
noncomputable def zB : aw:=bU Aa zA
theorem CC : aW Tryz.prog zB:=bq (C:=bp) cJ CB fun _ hp=>⟨_,hp,C7⟩
noncomputable def zC : aw:=bU Ab zB
theorem CD : aW Tryz.prog zC:=bq (C:=bp) cJ CC fun _ hp=>⟨_,hp,C8⟩
noncomputable def zD : aw:=bU Ac zC
theorem CE : aW Tryz.prog zD:=bq (C:=bp) cJ CD fun _ hp=>⟨_,hp,C9⟩
noncomputable def zE : aw:=bU Ad zD
theorem CF : aW Tryz.prog zE:=bq (C:=bp) cJ CE fun _ hp=>⟨_,hp,Da⟩
noncomputable def zF : aw:=bU Ae zE
theorem CG : aW Tryz.prog zF:=bq (C:=bp) cJ CF fun _ hp=>⟨_,hp,Db⟩
noncomputable def zG : aw:=bU Af zF
theorem CH : aW Tryz.prog zG:=bq (C:=bp) cJ CG fun _ hp=>⟨_,hp,Dd⟩
noncomputable def wO : aw:=bU Ag zG
theorem ya : aW Tryz.prog wO:=bq (C:=bp) cJ CH fun _ hp=>⟨_,hp,De⟩
noncomputable def wP : aw:=bU Ah wO
theorem yb : aW Tryz.prog wP:=bq (C:=bp) cJ ya fun _ hp=>⟨_,hp,Df⟩
noncomputable def wQ : aw:=bU Ai wP
theorem yc : aW Tryz.prog wQ:=bq (C:=bp) cJ yb fun _ hp=>⟨_,hp,Dg⟩
noncomputable def wR : aw:=bU Aj wQ
theorem yd : aW Tryz.prog wR:=bq (C:=bp) cJ yc fun _ hp=>⟨_,hp,Dh⟩
noncomputable def wS : aw:=bU Ak wR
theorem ye : aW Tryz.prog wS:=bq (C:=bp) cJ yd fun _ hp=>⟨_,hp,Di⟩
noncomputable def wT : aw:=bU Al wS
theorem yf : aW Tryz.prog wT:=bq (C:=bp) cJ ye fun _ hp=>⟨_,hp,Dj⟩
noncomputable def wU : aw:=bU Am wT
theorem yg : aW Tryz.prog wU:=bq (C:=bp) cJ yf fun _ hp=>⟨_,hp,Dk⟩
noncomputable def wV : aw:=bU Ao wU
theorem yi : aW Tryz.prog wV:=bq (C:=bp) cJ yg fun _ hp=>⟨_,hp,Dl⟩
noncomputable def wW : aw:=bU Ap wV
theorem yj : aW Tryz.prog wW:=bq (C:=bp) cJ yi fun _ hp=>⟨_,hp,Dm⟩
noncomputable def wX : aw:=bU Aq wW
theorem yk : aW Tryz.prog wX:=bq (C:=bp) cJ yj fun _ hp=>⟨_,hp,Dn⟩
noncomputable def su : aw:=bU Ar wX
theorem nr : aW Tryz.prog su:=bq (C:=bp) cJ yk fun _ hp=>⟨_,hp,Dp⟩
noncomputable def Au : cc:=[(6,[qx0,qx4,int 10000],.tup [.agg [.sl 7 [qx,qV 7 0,qV 8 0,qV 8 0,qR [105,110,108,105,110,101],qR [118,105,115,105,98,108,101],qV 2 1000,qV 2 7000,qV 2 0,qV 2 0,qV 2 0,qV 2 0,qV 2 20000,qR [110,111,114,109,97,108],qR [108,101,102,116],qV 5 1000,qR [97,117,116,111],qV 6 0],DB],qO])]
theorem Dq : bH Tryz.prog bp su Au = true:=by kernel_rfl
noncomputable def Av : cc:=[(6,[qx1,qx4,int 10000],.tup [.agg [.sl 7 [qx,qV 7 0,qV 8 0,qV 8 0,qR [105,110,108,105,110,101],qR [118,105,115,105,98,108,101],qV 2 60000,qR [97,117,116,111],qV 2 0,qV 2 0,qV 2 0,qV 2 30000,qV 2 40000,qR [110,111,114,109,97,108],qR [108,101,102,116],qV 5 1000,qR [97,117,116,111],qV 6 0],.sl 2 [[.str [45,45,112],.sl 6 [[u8 12,qE,int 5000,.str [112,120],qT,.sl 6 []]]]]],qO])]
theorem Dr : bH Tryz.prog bp su Av = true:=by kernel_rfl
noncomputable def Ax : cc:=[(6,[qx2,.agg [.sl 7 [[u8 7,qE,qO,qZ,qZ,qZ,u8 255],qV 7 0,qV 8 0,qV 8 0,qR [105,110,108,105,110,101],qR [118,105,115,105,98,108,101],qR [97,117,116,111],qR [97,117,116,111],qV 2 0,qV 2 0,qV 2 0,qV 2 0,qV 2 16000,qR [110,111,114,109,97,108],qR [108,101,102,116],qV 5 1000,qR [97,117,116,111],qV 6 0],qN],int 10000],.tup [Hw,qO])]
theorem Ds : bH Tryz.prog bp su Ax = true:=by kernel_rfl
noncomputable def zH : aw:=bU Au su
theorem CI : aW Tryz.prog zH:=bq (C:=bp) nr nr fun _ hp=>⟨_,hp,Dq⟩
noncomputable def zI : aw:=bU Av zH
theorem CJ : aW Tryz.prog zI:=bq (C:=bp) nr CI fun _ hp=>⟨_,hp,Dr⟩
noncomputable def H5 : aw:=bU Ax zI
theorem Hd : aW Tryz.prog H5:=bq (C:=bp) nr CJ fun _ hp=>⟨_,hp,Ds⟩
theorem Nj : iy Tryz.prog bp H5 80 4 [] [] = some (bool true,none):=by kernel_rfl
theorem MB : Con Tryz.prog 4 [] (bool true):=gF Hd (by kernel_rfl) (by kernel_rfl) (by kernel_rfl) Nj
end Go.Proofs.YtfageokhpklkbaaGreatDoor

