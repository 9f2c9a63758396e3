/-
 What functions of the translation ask,held against their code by the kernel. Printed by a program.
 No conditions.
-/
import Derived.Test.YtpcnidmmkknndaaGreatDoorProg
import Derived.KernelRfl
import Derived.Tactics
import Derived.Tactics2
import Derived.Defers
import Derived.Laws.Pointers
import Derived.Laws.LoneSync
import Derived.RegionTactic
import Derived.RegionCalls
import Derived.ChangeAlike
import Derived.Shelf.Strings.IndexAnyAll
import Derived.Shelf.Strings.SlTrimAscii
import Derived.Shelf.Strings.Cut
import Derived.Shelf.Small.Wraps
import Derived.Shelf.Strconv.ParseIntPublic10
import Derived.Lib.AtoiAll
import Derived.Lib.AtoiErrMem
import Derived.Shelf.Small.Strs
import Derived.ScopeJumps
import Derived.Test.YtpcnidmmkknndaaGreatDoorZc
import Derived.Test.YtpcnidmmkknndaaGreatDoorZa
set_option linter.unusedVariables false
set_option linter.unusedSimpArgs false
set_option linter.unusedSectionVars false
set_option linter.defProp false
set_option autoImplicit true
set_option maxRecDepth 1000000
set_option maxHeartbeats 16000000
open Go.Proofs.Tryz renaming prog→p_
noncomputable section
namespace Go.Proofs.YtpcnidmmkknndaaGreatDoor
section
open Go Go.Aw
variable [Laid]
def Yx(a:AV)(h:aa)(K:AV→aa→Prop):Prop:=
 qBe .or a 32 fun f=>iC p_ 137 [f,i_ 97,i_ 122] h fun g b=>qJa g [a] b (fun i=>qBe .lss a 128 fun j=>i j b) fun k c=>qJa k [a] c (fun l=>qBe .gtr a 64 fun m=>l m c) fun n d=>qJo n [a] d (fun o=>qBe .eql a 95 fun p=>o p d) fun q e=>qKo q e (fun r=>qBe .geq a 128 fun s=>r s e) fun t u=>K t u
def V97(a:AV):Body p_ 97 [a] (Yx a):=bC Tryz.func97 (sn (.seq (.aN (oR 0 4 (.aA 3 true (fR 4 2) [0] [6,8]::oR 6 2 (.aA 7 true (fR 8 2) [0] [10,12]::oR 10 2 (.aA 11 false (fR 12 2) [0] [14,16]::oR 14 2 (.aA 15 false (fR 16 2) [] [18,20]::oR 18 2 [])))))) .nil)) 22 [.tmp 2]
def Sz(a b e:AV)(h:aa)(K:AV→aa→Prop):Prop:=
 ag .leq b a fun c=>qKa c h (fun d=>ag .leq a e fun f=>d f h) fun g i=>K g i
def Y9(a b c:AV):Body p_ 137 [a,b,c] (Sz a b c):=bC Tryz.func137 (sn (.seq (.aN (oR 0 4 (.aA 3 true (fR 4 3) [] [10,13]::oR 7 2 []))) .nil)) 15 [.tmp 6]
def X6(a:AV)(h:aa)(K:AV→aa→Prop):Prop:=
 iC p_ 97 [a] h fun d b=>qJo d [a] b (fun e=>iC p_ 98 [a] b e) fun f c=>qKo f c (fun g=>qBe .eql a 45 fun i=>g i c) fun j k=>K j k
def V65(a:AV):Body p_ 65 [a] (X6 a):=bC Tryz.func65 (sn (.seq (.aN (oR 0 3 (.aA 2 false (fR 3 2) [0] [5,7]::oR 5 2 (.aA 6 false (fR 7 2) [] [9,11]::oR 9 2 [])))) .nil)) 13 [.tmp 2]
def X3(a:AV)(h:aa)(K:AV→aa→Prop):Prop:=
 qBe .eql a 32 fun c=>qJo c [a] h (fun d=>qBe .eql a 9 fun e=>d e h) fun f b=>qKo f b (fun g=>qBe .eql a 10 fun i=>g i b) fun j k=>K j k
def V62(a:AV):Body p_ 62 [a] (X3 a):=bC Tryz.func62 (sn (.seq (.aN (oR 0 3 (.aA 2 false (fR 3 2) [0] [5,7]::oR 5 2 (.aA 6 false (fR 7 2) [] [9,11]::oR 9 2 [])))) .nil)) 13 [.tmp 2]
def S8(b a:AV)(h:aa)(K:AV→aa→Prop):Prop:=
 cZ b fun c=>cZ a fun d=>ag .geq c d fun e=>qKa e h (fun f=>cZ a fun g=>eV b none (some g) fun i=>ag .eql i a fun j=>f j h) fun k l=>K k l
def Xj(a b:AV):Body p_ 94 [a,b] (S8 a b):=bC Tryz.func94 (sn (.seq (.aN (oR 0 6 (.aA 5 true (fR 6 6) [] [10,16]::oR 12 2 []))) .nil)) 18 [.tmp 4]
def S7(a b:AV)(h:aa)(K:AV→aa→Prop):Prop:=
 iC p_ 94 [a,b] h fun c d=>K c d
def Xi(a b:AV):Body p_ 59 [a,b] (S7 a b):=bC Tryz.func59 .nil 8 [.tmp 4]
def Yy(a:AV)(h:aa)(K:AV→aa→Prop):Prop:=
 iC p_ 137 [a,i_ 48,i_ 57] h fun b c=>K b c
def V98(a:AV):Body p_ 98 [a] (Yy a):=bC Tryz.func98 .nil 5 [.tmp 2]
def R6(a d:AV)(h:aa)(K:AV→aa→Prop):Prop:=
 iC p_ 76 [a] h fun b c=>iC p_ 76 [d] c fun e f=>ag .eql b e fun g=>K g f
def YK(a b:AV):Body p_ 101 [a,b] (R6 a b):=bC Tryz.func101 .nil 10 [.tmp 4]
end
section
set_option maxHeartbeats 4000000
open Go
def disable(w:World):(callFunc 204 #[]).run p_ w=.ok (.value (.tuple #[])) w:=run_call_mark0 Tryz.func204 (by kernel_rfl) (by kernel_rfl) (by kernel_rfl) .disable (by kernel_rfl) w
def enable(w:World):(callFunc 206 #[]).run p_ w=.ok (.value (.tuple #[])) w:=run_call_mark0 Tryz.func206 (by kernel_rfl) (by kernel_rfl) (by kernel_rfl) .enable (by kernel_rfl) w
def acquire(a:Addr)(w:World):(callFunc 207 #[.pointer (some a)]).run p_ w=.ok (.value (.tuple #[])) w:=run_call_marked Tryz.func207 (by kernel_rfl) (by kernel_rfl) (by kernel_rfl) .acquire (by kernel_rfl) a w
def releaseMerge(a:Addr)(w:World):(callFunc 209 #[.pointer (some a)]).run p_ w=.ok (.value (.tuple #[])) w:=run_call_marked Tryz.func209 (by kernel_rfl) (by kernel_rfl) (by kernel_rfl) .releaseMerge (by kernel_rfl) a w
def Cm(a:Addr)(x:Value)(u:FrameMode)(w:World)(hc:w.cell? a=some x)(hz:w.frozen? a=false):
 CallsD p_ 161 #[.pointer (some a),.bool true] u w fun e u' w' => u'=u∧(e=.returned (.tuple #[])∧w'=w.drew.setCell a (.int .u32 1)):=by
 have hc':w.drew.cell? a=some x:=by go_simp
 have hz':w.drew.frozen? a=false:=by go_simp
 have hst:=run_call_store (P:=p_) Tryz.func191 (by kernel_rfl) (by kernel_rfl) (by kernel_rfl) (by kernel_rfl) (k:=.u32) (y:=1) hc' hz'
 go_enter_d Tryz.func161,Tryz.ntmps161
 go_wp2
 go_region_calls
 all_goals (go_end0;exact⟨rfl,rfl⟩)
def Bt(a:Addr)(u:FrameMode)(w:World)(hc:w.cell? a=some (.int .i32 1))(hz:w.frozen? a=false):
 CallsD p_ 160 #[.pointer (some a)] u w fun e u' w' => u'=u∧(e=.returned (.tuple #[])∧w'=w.setCell a (.int .i32 0)):=by
 have hd:=disable;have he:=enable;have hr:=releaseMerge;have hadd:=run_call_add (P:=p_) Tryz.func210 (by kernel_rfl) (by kernel_rfl) (by kernel_rfl) .i32 (by kernel_rfl) (y:=-1) (s:=0) hc hz (by simp[go_sem];rfl);have hcv:=run_convert_to_unsafe (P:=p_) (src:=265) (dst:=138) Tryz.underlying265 Tryz.underlying138 (by kernel_rfl) hc
 go_enter_d Tryz.func160,Tryz.ntmps160
 go_wp2
 go_end0
 go_wp2
 go_end0
 exact⟨rfl,rfl⟩
def K4(a:Addr)(w:World)(hc:w.cell? a=some (.int .i32 0))(hz:w.frozen? a=false):
 Calls p_ 159 #[.pointer (some a)] w fun e w' => e=.returned (.tuple #[])∧w'=w.setCell a (.int .i32 1):=by
 have hd:=disable;have he:=enable;have ha:=acquire;have hcas:=run_call_cas_hit (P:=p_) Tryz.func205 (by kernel_rfl) (by kernel_rfl) (by kernel_rfl) .i32 (by kernel_rfl) (y:=1) hc hz;have hc':(w.setCell a (.int .i32 1)).cell? a=some (.int .i32 1):=World.cell?_setCell_same w a _ hc;have hcv:=run_convert_to_unsafe (P:=p_) (src:=265) (dst:=138) Tryz.underlying265 Tryz.underlying138 (by kernel_rfl) hc'
 go_enter Tryz.func159,Tryz.ntmps159
 go_wp2
 first|go_end0|(simp only[Exit.inBlock,Exit.then];refine bodyPost_ret (results_none rfl _ _ _) rfl ?_)|refine bodyPost_ret (results_none rfl _ _ _) rfl ?_
 go_wp2
 go_end0
 exact⟨rfl,rfl⟩
end
section
open Go
set_option maxHeartbeats 4000000
def C5(a:Addr)(w:World)(hc:w.cell? a=some (.int .u32 0)):Calls p_ 129 #[.pointer (some a)] w fun e w' => e=.returned (.bool false)∧w'=w:=by
 have hl:=run_call_load (P:=p_) Tryz.func158 (by kernel_rfl) (by kernel_rfl) (by kernel_rfl) .u32 (by kernel_rfl) (w:=w) (a:=a) (x:=0) hc
 go_enter Tryz.func129,Tryz.ntmps129
 go_wp2
 go_ret
 exact⟨rfl,rfl⟩
def Ox(b:Nat)(w:World)(Q:World→Prop)(h0:w.cell? ⟨b,0,none⟩=some (.int .u32 0))(h1:w.cell? ⟨b,0+1,none⟩=some (.int .i32 0))
 (f0:w.frozen? ⟨b,0,none⟩=false) (f1:w.frozen? ⟨b,0+1,none⟩=false)
 (hf:Calls p_ 93 #[.pointer (some ⟨b,0,none⟩)] (w.setCell ⟨b,0+1,none⟩ (.int .i32 1)) fun e w' => e=.returned (.tuple #[])∧(∃x,w'.cell? ⟨b,0,none⟩=some x)∧w'.cell? ⟨b,0+1,none⟩=some (.int .i32 1) ∧
  w'.frozen? ⟨b,0,none⟩=false∧w'.frozen? ⟨b,0+1,none⟩=false∧Q w') :
 Calls p_ 130 #[.pointer (some ⟨b,0,none⟩),.func (.func 93) #[.pointer (some ⟨b,0,none⟩)] #[]] w fun e w'' => e=.returned (.tuple #[]) ∧
  ∃w',Q w'∧w''=(w'.drew.setCell ⟨b,0,none⟩ (.int .u32 1)).setCell ⟨b,0+1,none⟩ (.int .i32 0):=by
 have hl:=run_call_load (P:=p_) Tryz.func158 (by kernel_rfl) (by kernel_rfl) (by kernel_rfl) .u32 (by kernel_rfl) (w:=w.setCell ⟨b,0+1,none⟩ (.int .i32 1)) (a:=⟨b,0,none⟩) (x:=0) ((World.cell?_setCell_other _ ⟨b,0+1,none⟩ ⟨b,0,none⟩ _ (by simp)).trans h0);have hnot:∀(x:Bool) (w:World),(Op.unary .not (.bool x)).run p_ w=.ok (.bool (!x)) w:=fun _ _=>rfl
 go_enter_defers Tryz.func130,Tryz.ntmps130
 go_wp2_with (go_at_call 159;refine (K4 ⟨b,0+1,none⟩ _ (by go_simp) (by go_simp)).mono ?_;rintro e w' ⟨rfl,rfl⟩)
 go_wp2_with (go_at_call 129;refine (C5 ⟨b,0,none⟩ _ ((World.cell?_setCell_other _ ⟨b,0+1,none⟩ ⟨b,0,none⟩ _ (by simp)).trans h0)).mono ?_;rintro e w' ⟨rfl,rfl⟩)
 go_wp2_with (go_at_call 93;refine hf.mono ?_;rintro e w' ⟨rfl,⟨x,g0⟩,g1,z0,z1,hQ⟩)
 refine leaves_cons (f:=161) (args:=#[.pointer (some ⟨b,0,none⟩),.bool true]) (by simp) (by simp[go_sem]) ((Cm ⟨b,0,none⟩ x .returning _ g0 z0).mono ?_);rintro e u' w'' ⟨rfl,rfl,rfl⟩;refine leaves_cons (f:=160) (args:=#[.pointer (some ⟨b,0+1,none⟩)]) (by simp[settle]) (by simp[go_sem]) ?_;refine (Bt ⟨b,0+1,none⟩ _ _ ?_ (by simp[z1])).mono ?_
 ·refine (World.cell?_setCell_other _ ⟨b,0,none⟩ ⟨b,0+1,none⟩ _ (by simp)).trans ?_;rw[World.cell?_drew];exact g1
 rintro e u' w'' ⟨rfl,rfl,rfl⟩;simp[Leaves,settle,results,Tryz.results130];exact⟨w',hQ,rfl⟩
end
section
open Go.Shelf
theorem uSo0{α:Type}{a b:α}(h:a=b:=by kernel_rfl):some a=some b:=congrArg some h
def lays153_ren:Go.Shelf.Ren:=⟨fun|153=>139|152=>170|226=>171|227=>167|228=>172|137=>72|119=>197|224=>133|225=>132|217=>103|266=>142|n=>n,fun|9=>9|3=>3|4=>4|5=>5|21=>21|117=>226|116=>225|0=>0|46=>188|124=>229|n=>n,fun|n=>n⟩
theorem lays153:Go.Proofs.Lays.n153 p_ lays153_ren:={
 mixed:=by kernel_rfl
 f119:=Tryz.func197.trans uSo0
 f137:=Tryz.func72.trans uSo0
 f152:=Tryz.func170.trans uSo0
 f153:=Tryz.func139.trans uSo0
 f217:=Tryz.func103.trans uSo0
 f224:=Tryz.func133.trans uSo0
 f225:=Tryz.func132.trans uSo0
 f226:=Tryz.func171.trans uSo0
 f227:=Tryz.func167.trans uSo0
 f228:=Tryz.func172.trans uSo0
 f266:=Tryz.func142.trans uSo0
 t0:=Tryz.underlying0
 a0:=Tryz.isAgg0
 z0:=Tryz.sizeOf0
 v0:=Tryz.zeroValue0
 t3:=Tryz.underlying3
 a3:=Tryz.isAgg3
 z3:=Tryz.sizeOf3
 v3:=Tryz.zeroValue3
 t4:=Tryz.underlying4
 a4:=Tryz.isAgg4
 z4:=Tryz.sizeOf4
 v4:=Tryz.zeroValue4
 t5:=Tryz.underlying5
 a5:=Tryz.isAgg5
 z5:=Tryz.sizeOf5
 v5:=Tryz.zeroValue5
 t9:=Tryz.underlying9
 a9:=Tryz.isAgg9
 z9:=Tryz.sizeOf9
 v9:=Tryz.zeroValue9
 t21:=Tryz.underlying21
 a21:=Tryz.isAgg21
 z21:=Tryz.sizeOf21
 v21:=Tryz.zeroValue21
 t46:=Tryz.underlying188
 a46:=Tryz.isAgg188
 z46:=Tryz.sizeOf188
 v46:=Tryz.zeroValue188
 t116:=Tryz.underlying225
 a116:=Tryz.isAgg225
 z116:=Tryz.sizeOf225
 t117:=Tryz.underlying226
 a117:=Tryz.isAgg226
 z117:=Tryz.sizeOf226
 v117:=Tryz.zeroValue226
 t124:=Tryz.underlying229
 a124:=Tryz.isAgg229
 z124:=Tryz.sizeOf229
 v124:=Tryz.zeroValue229 }
open Go.RowKit Go.Lib in
theorem Dx(s chars:ByteArray)(w:World)(hs:s.size<4294967281)(hcs:chars.size<4294967281)(has:∀(j:Nat) b,s.data.toList[j]?=some b→b.toNat<128)(hac:∀(j:Nat) b,chars.data.toList[j]?=some b→b.toNat<128):
 Calls p_ 139 #[.string s,.string chars] w fun e w' => e=.returned (.int .i64 (Lib.indexAny s.data.toList chars.data.toList))∧Below w.heap.size w w':=Any.strings_IndexAny_laid lays153 (by kernel_rfl) s chars w hs hcs has hac
end
section
open Go Go.Aw
def PD(l:List Nat):List AV:=l.map fun n=>.v (.int .u8 (Int.ofNat n))
def OL(l:List Nat):List AV:=l.map fun n=>.v (.int .u64 (Int.ofNat n))
class bp where
 m:Int
 er:Value
 TB:er=.nilIface∨∃te pe,er=.iface te pe
variable [bp]
def JJ:Nat→Option (List AV):=fun g=>match g with
 | 1=>some (OL [1,10,100,1000,10000,100000,1000000,10000000,100000000,1000000000,10000000000,100000000000,1000000000000,10000000000000,100000000000000,1000000000000000,10000000000000000,100000000000000000,1000000000000000000,10000000000000000000])
 | 0=>some [i_ bp.m]
 | 7=>some [.v bp.er]
 | 3=>some (PD [0,1,56,2,57,49,28,3,61,58,42,50,38,29,17,4,62,47,59,36,45,43,51,22,53,39,33,30,24,18,12,5,63,55,48,27,60,41,37,16,46,35,44,21,52,32,23,11,54,26,40,15,34,20,31,10,25,14,19,9,13,8,7,6])
 | _=>none
instance acJ:Laid:=⟨JJ,fun g cs h=>by
 unfold JJ at h;split at h
 ·cases h;simp[OL,aO,Aw.Pure]
 ·cases h;simp[aO,Aw.Pure]
 ·cases h;simp[aO,Aw.Pure]
 ·cases h;simp[PD,aO,Aw.Pure]
 ·cases h⟩
end
section
open Go Go.Aw
variable [Laid]
def S5(x0:AV)(h:aa)(K:AV→aa→Prop):Prop:=
 cZ x0 fun v1=>ag .gtr v1 (i_ 4000) fun v2=>af v2 (K (.ay [(.str []),(i_ 28)]) h) (bx p_ (.fn (.func 57) [] []) [] h fun v3 g4=>bx p_ (.fn (.func 58) [] []) [v3,x0] g4 fun v5 g6=>K (.ay [v5,(i_ 0)]) g6)
def c42:Code:=(Tryz.f42.body).getD .skip
def Xg(x0:AV):Body p_ 42 [x0] (S5 x0):=⟨c42,.nil,10,[.tmp 2,.tmp 3],⟨Tryz.f42,Tryz.func42,rfl,by kernel_rfl,by kernel_rfl,by kernel_rfl⟩,by simp,fun h K=>by kernel_rfl⟩
def X1(x0 x1:AV)(h:aa)(K:AV→aa→Prop):Prop:=
 ca p_ x0 fun v1=>bg 0 v1 fun v2=>bx p_ (.fn (.func 92) [] []) [v2,(.fn (.func 93) [x0] [])] h fun v3 g4=>ca p_ x0 fun v5=>bg 3 v5 fun v6=>ah false 1 v6 g4 fun v7=>wV p_ (oY p_ "Replace") v7 [x1] g4 fun v8 g9=>K v8 g9
def c58:Code:=(Tryz.f58.body).getD .skip
def V58(x0 x1:AV):Body p_ 58 [x0,x1] (X1 x0 x1):=⟨c58,.nil,17,[.tmp 4],⟨Tryz.f58,Tryz.func58,rfl,by kernel_rfl,by kernel_rfl,by kernel_rfl⟩,by simp,fun h K=>by kernel_rfl⟩
def Yu(x0 x1:AV)(h:aa)(K:AV→aa→Prop):Prop:=
 ca p_ x0 fun v1=>bg 0 v1 fun v2=>bx p_ (.fn (.func 129) [] []) [v2] h fun v3 g4=>cr v3 fun v5=>af v5 (bx p_ (.fn (.func 130) [] []) [x0,x1] g4 fun v6 g7=>K (.ay []) g7) (K (.ay []) g4)
def c92:Code:=(Tryz.f92.body).getD .skip
def V92(x0 x1:AV):Body p_ 92 [x0,x1] (Yu x0 x1):=⟨c92,.nil,12,[],⟨Tryz.f92,Tryz.func92,rfl,by kernel_rfl,by kernel_rfl,by kernel_rfl⟩,by simp,fun h K=>by kernel_rfl⟩
def S4(x0 x1:AV)(h:aa)(K:AV→aa→Prop):Prop:=
 ca p_ x0 fun v1=>ah false 1 v1 h fun v2=>mL false 5 1 v2 x1 h fun v3 g4=>ca p_ x0 fun v5=>ao 1 v5 v3 g4 fun g6=>cZ x1 fun v7=>K (.ay [v7,(.v .nilIface)]) g6
def ZN:Code:=(Tryz.f282.body).getD .skip
def ZB(x0 x1:AV):Body p_ 282 [x0,x1] (S4 x0 x1):=⟨ZN,.nil,15,[.tmp 4,.tmp 5],⟨Tryz.f282,Tryz.func282,rfl,by kernel_rfl,by kernel_rfl,by kernel_rfl⟩,by simp,fun h K=>by kernel_rfl⟩
def SZ(x0 x1:AV)(h:aa)(K:AV→aa→Prop):Prop:=
 cZ x1 fun v1=>qK 5 1 1 (u8 0) (i_ 0) v1 h fun v2 g3=>aV 320 (.v (.slice none 0 0)) g3 fun v4 g5=>ao 1 v4 v2 g5 fun g6=>oW 321 v4 fun v7=>bx p_ (.fn (.func 267) [] []) [x0,v7,x1] g6 fun v8 g9=>ah false 1 v4 g9 fun v10=>cP v10 g9 fun v11=>K v11 g9
def ZJ:Code:=(Tryz.f266.body).getD .skip
def Zy(x0 x1:AV):Body p_ 266 [x0,x1] (SZ x0 x1):=⟨ZJ,.nil,15,[.tmp 4],⟨Tryz.f266,Tryz.func266,rfl,by kernel_rfl,by kernel_rfl,by kernel_rfl⟩,by simp,fun h K=>by kernel_rfl⟩
def S0(x0 x1 x2:AV)(h:aa)(K:AV→aa→Prop):Prop:=
 bx p_ (.fn (.func 268) [] []) [x1] h fun v1 g2=>bN [(i_ 0),(.v .nilIface),(i_ 0),ff,(i_ 0)] g2 fun N3 s4 g5 =>
 /- n err last prevMatchEmpty i -/ cZ x2 fun v6=>ag .leq (nx s4 4) v6 fun v7=>af v7 (aG (fun J8=>cZ x2 fun v9=>ag .neq (nx s4 4) v9 fun v10=>aG (fun J11=>aM v10 true (ca p_ x0 fun v12=>bg 0 v12 fun v13=>bg 1 v13 fun v14=>ah false 1 v14 g5 fun v15=>ag .eql v15 (i_ 0) fun v16=>[x0,x2,(nx s4 0),(nx s4 1),v1,(nx s4 2),(nx s4 3),(nx s4 4)]=[x0,x2,(nx s4 0),(nx s4 1),v1,(nx s4 2),(nx s4 3),(nx s4 4)]∧J11 [tt,v16] g5) ([x0,x2,(nx s4 0),(nx s4 1),v1,(nx s4 2),(nx s4 3),(nx s4 4)]=[x0,x2,(nx s4 0),(nx s4 1),v1,(nx s4 2),(nx s4 3),(nx s4 4)]∧J11 [(cd true v10),un] g5)) fun s17 g18=>bQ (nx s17 0) (nx s17 1) ff fun v19=>af v19 (eD x2 (nx s4 4) fun v20=>ca p_ x0 fun v21=>bg 6 v21 fun v22=>eU 256 1 v22 v20 fun v23=>ah false 1 v23 g18 fun v24=>cy .i64 v24 fun v25=>ca p_ x0 fun v26=>bg 5 v26 fun v27=>ah false 1 v27 g18 fun v28=>ag .eql v25 v28 fun v29=>aG (fun J30=>aM v29 false (ca p_ x0 fun v31=>bg 0 v31 fun v32=>bg 4 v32 fun v33=>ah false 1 v33 g18 fun v34=>aI 1 v34 v25 fun v35=>ah false 1 v35 g18 fun v36=>kI false (tD v36) fun v37=>[x0,x2,(nx s4 0),(nx s4 1),v1,(nx s4 2),(nx s4 3),(nx s4 4)]=[x0,x2,(nx s4 0),(nx s4 1),v1,(nx s4 2),(nx s4 3),(nx s4 4)]∧J30 [ff,v37] g18) ([x0,x2,(nx s4 0),(nx s4 1),v1,(nx s4 2),(nx s4 3),(nx s4 4)]=[x0,x2,(nx s4 0),(nx s4 1),v1,(nx s4 2),(nx s4 3),(nx s4 4)]∧J30 [(cd false v29),un] g18)) fun s38 g39=>bQ (nx s38 0) tt (nx s38 1) fun v40=>af v40 (ag .add (nx s4 4) (i_ 1) fun v41=>[x0,x2,v1]=[x0,x2,v1]∧N3 [(nx s4 0),(nx s4 1),(nx s4 2),(nx s4 3),v41] g39) ([x0,x2,(nx s4 0),(nx s4 1),v1,(nx s4 2),(nx s4 3)]=[x0,x2,(nx s4 0),(nx s4 1),v1,(nx s4 2),(nx s4 3)]∧J8 [(nx s4 4)] g39)) ([x0,x2,(nx s4 0),(nx s4 1),v1,(nx s4 2),(nx s4 3)]=[x0,x2,(nx s4 0),(nx s4 1),v1,(nx s4 2),(nx s4 3)]∧J8 [(nx s4 4)] g18)) fun s42 g43=>eV x2 (some (nx s42 0)) none fun v44=>bx p_ (.fn (.func 269) [] []) [x0,v44,(nx s4 3)] g43 fun v45 g46=>aR 0 v45 fun v47=>aR 1 v45 fun v48=>aR 2 v45 fun v49=>aG (fun J50=>aM v49 true (ag .eql v48 (i_ 0) fun v51=>[x0,x2,(nx s4 0),(nx s4 1),v1,(nx s4 2),(nx s42 0),v47,v48,v49]=[x0,x2,(nx s4 0),(nx s4 1),v1,(nx s4 2),(nx s42 0),v47,v48,v49]∧J50 [tt,v51] g46) ([x0,x2,(nx s4 0),(nx s4 1),v1,(nx s4 2),(nx s42 0),v47,v48,v49]=[x0,x2,(nx s4 0),(nx s4 1),v1,(nx s4 2),(nx s42 0),v47,v48,v49]∧J50 [(cd true v49),un] g46)) fun s52 g53=>bQ (nx s52 0) (nx s52 1) ff fun v54=>af v49 (eV x2 (some (nx s4 2)) (some (nx s42 0)) fun v55=>ca p_ (.fn (.method "WriteString") [v1] []) fun v56=>wV p_ (oY p_ "WriteString") v1 [v55] g53 fun v57 g58=>aR 0 v57 fun v59=>aR 1 v57 fun v60=>ag .add (nx s4 0) v59 fun v61=>kI true (vv v60) fun v62=>af v62 (K (.ay [v61,v60]) g58) (wV p_ (oY p_ "WriteString") v1 [v47] g58 fun v63 g64=>aR 0 v63 fun v65=>aR 1 v63 fun v66=>ag .add v61 v65 fun v67=>kI true (vv v66) fun v68=>af v68 (K (.ay [v67,v66]) g64) (ag .add (nx s42 0) v48 fun v69=>[x0,x2,v1]=[x0,x2,v1]∧N3 [v67,v66,v69,v54,v69] g64))) (ag .add (nx s42 0) (i_ 1) fun v70=>[x0,x2,v1]=[x0,x2,v1]∧N3 [(nx s4 0),(nx s4 1),(nx s4 2),v54,v70] g53)) (cZ x2 fun v71=>ag .neq (nx s4 2) v71 fun v72=>af v72 (eV x2 (some (nx s4 2)) none fun v73=>ca p_ (.fn (.method "WriteString") [v1] []) fun v74=>wV p_ (oY p_ "WriteString") v1 [v73] g5 fun v75 g76=>aR 0 v75 fun v77=>aR 1 v75 fun v78=>ag .add (nx s4 0) v77 fun v79=>K (.ay [v79,v78]) g76) (K (.ay [(nx s4 0),(nx s4 1)]) g5))
def ZK:Code:=(Tryz.f267.body).getD .skip
def Zz(x0 x1 x2:AV):Body p_ 267 [x0,x1,x2] (S0 x0 x1 x2):=⟨ZK,(.seq .nil (.seq .nil (.seq .nil (.seq .nil (.seq (.seq .nil (.one (.loop [0,2,8] [6,7,9,11,12] (.seq .nil (.one (.join [0,2,6,7,8,9,11] [12] (.seq (.aN [.op 0 false,.op 1 false,.op 2 false,.op 3 false,.op 4 false,.aA 4 true [(5,false),(6,false),(7,false),(8,false),(9,false),(10,false)] [0,2,6,7,8,9,11,12] [27,33],.op 11 false]) (.two (.seq (.draw 10 [.op 0 false,.op 1 false,.op 2 false,.op 3 false,.op 4 false,.op 5 false,.op 6 false,.op 7 false,.op 8 false,.op 9 false] [] []) (.seq (.aN [.op 0 false,.op 1 false,.op 2 false,.op 3 false,.op 4 false,.op 5 false,.op 6 false,.aA 6 false [(7,false),(8,false),(9,false),(10,false),(11,false),(12,false),(13,false),(14,false),(15,false)] [0,2,6,7,8,9,11,12] [50,59],.op 16 false]) .nil)) .nil)) (.seq .nil (.seq (.aN [.op 0 false,.op 1 false,.aA 1 true [(2,false),(3,false)] [0,2,6,7,8,9,12,14,15,16] [74,76],.op 4 false,.op 5 false]) (.seq (.seq .nil (.two (.seq (.draw 8 [.op 0 false,.op 1 false,.op 2 false,.op 3 false,.op 4 false,.op 5 false,.op 6 false,.op 7 false] [.op 8 false,.op 9 false] [.op 10 false,.op 11 false,.op 12 false,.op 13 false]) .nil) .nil)) .nil))))))))) (.seq (.seq .nil (.two (.seq (.draw 7 [.op 0 false,.op 1 false,.op 2 false,.op 3 false,.op 4 false,.op 5 false,.op 6 false] [.op 7 false,.op 8 false] [.op 9 false,.op 10 false,.op 11 false,.op 12 false]) .nil) .nil)) .nil)))))),131,[.tmp 6,.tmp 7],⟨Tryz.f267,Tryz.func267,rfl,by kernel_rfl,by kernel_rfl,by kernel_rfl⟩,by simp,fun h K=>by kernel_rfl⟩
def S3(x0:AV)(h:aa)(K:AV→aa→Prop):Prop:=
 yT (EM p_ 325) x0 fun v1=>aR 0 v1 fun v2=>aR 1 v1 fun v3=>cr v3 fun v4=>af v4 (aW (.agg [(.v .nilIface)]) [(0,1,x0)] fun v5=>oW 331 v5 fun v6=>K v6 h) (K v2 h)
def ZL:Code:=(Tryz.f268.body).getD .skip
def ZA(x0:AV):Body p_ 268 [x0] (S3 x0):=⟨ZL,.nil,16,[.tmp 2],⟨Tryz.f268,Tryz.func268,rfl,by kernel_rfl,by kernel_rfl,by kernel_rfl⟩,by simp,fun h K=>by kernel_rfl⟩
def BA(x0 x1 x2:AV)(h:aa)(K:AV→aa→Prop):Prop:=
 ca p_ x0 fun v1=>bg 0 v1 fun v2=>bN [x1,(.str []),(i_ 0),ff,(i_ 0),v2,(i_ 0)] h fun N3 s4 g5 =>
 /- s val keylen found bestPriority node n -/ kI true (tD (nx s4 5)) fun v6=>af v6 (aG (fun J7=>ca p_ (nx s4 5) fun v8=>bg 1 v8 fun v9=>ah false 1 v9 g5 fun v10=>ag .gtr v10 (nx s4 4) fun v11=>aG (fun J12=>aM v11 true ([x0,(nx s4 0),x2,(nx s4 1),(nx s4 2),(nx s4 3),(nx s4 4),(nx s4 5),(nx s4 6)]=[x0,(nx s4 0),x2,(nx s4 1),(nx s4 2),(nx s4 3),(nx s4 4),(nx s4 5),(nx s4 6)]∧J12 [tt,x2] g5) ([x0,(nx s4 0),x2,(nx s4 1),(nx s4 2),(nx s4 3),(nx s4 4),(nx s4 5),(nx s4 6)]=[x0,(nx s4 0),x2,(nx s4 1),(nx s4 2),(nx s4 3),(nx s4 4),(nx s4 5),(nx s4 6)]∧J12 [(cd true v11),un] g5)) fun s13 g14=>aG (fun J15=>aM (nx s13 1) true (ca p_ x0 fun v16=>bg 0 v16 fun v17=>False) ([x0,(nx s4 0),x2,(nx s4 1),(nx s4 2),(nx s4 3),(nx s4 4),(nx s4 5),(nx s4 6),(nx s13 0)]=[x0,(nx s4 0),x2,(nx s4 1),(nx s4 2),(nx s4 3),(nx s4 4),(nx s4 5),(nx s4 6),(nx s13 0)]∧J15 [(cd true (nx s13 1)),un] g14)) fun s18 g19=>aG (fun J20=>aM (nx s13 0) true (bQ (nx s18 0) (nx s18 1) ff fun v21=>cr v21 fun v22=>[x0,(nx s4 0),x2,(nx s4 1),(nx s4 2),(nx s4 3),(nx s4 4),(nx s4 5),(nx s4 6)]=[x0,(nx s4 0),x2,(nx s4 1),(nx s4 2),(nx s4 3),(nx s4 4),(nx s4 5),(nx s4 6)]∧J20 [tt,v22] g19) ([x0,(nx s4 0),x2,(nx s4 1),(nx s4 2),(nx s4 3),(nx s4 4),(nx s4 5),(nx s4 6)]=[x0,(nx s4 0),x2,(nx s4 1),(nx s4 2),(nx s4 3),(nx s4 4),(nx s4 5),(nx s4 6)]∧J20 [(cd true (nx s13 0)),un] g19)) fun s23 g24=>bQ (nx s23 0) (nx s23 1) ff fun v25=>af v25 (ca p_ (nx s4 5) fun v26=>bg 1 v26 fun v27=>ah false 1 v27 g24 fun v28=>ca p_ (nx s4 5) fun v29=>bg 0 v29 fun v30=>ah false 1 v30 g24 fun v31=>[x0,(nx s4 0),x2,(nx s4 5),(nx s4 6)]=[x0,(nx s4 0),x2,(nx s4 5),(nx s4 6)]∧J7 [v31,(nx s4 6),tt,v28] g24) ([x0,(nx s4 0),x2,(nx s4 5),(nx s4 6)]=[x0,(nx s4 0),x2,(nx s4 5),(nx s4 6)]∧J7 [(nx s4 1),(nx s4 2),(nx s4 3),(nx s4 4)] g24)) fun s32 g33=>ag .eql (nx s4 0) (.str []) fun v34=>af v34 (K (.ay [(nx s32 0),(nx s32 1),(nx s32 2)]) g33) (ca p_ (nx s4 5) fun v35=>bg 4 v35 fun v36=>ah false 1 v36 g33 fun v37=>kI true (vw v37) fun v38=>af v38 (eD (nx s4 0) (i_ 0) fun v39=>ca p_ x0 fun v40=>bg 6 v40 fun v41=>eU 256 1 v41 v39 fun v42=>ah false 1 v42 g33 fun v43=>cy .i64 v43 fun v44=>ca p_ x0 fun v45=>bg 5 v45 fun v46=>ah false 1 v46 g33 fun v47=>ag .eql v44 v47 fun v48=>af v48 (K (.ay [(nx s32 0),(nx s32 1),(nx s32 2)]) g33) (ca p_ (nx s4 5) fun v49=>bg 4 v49 fun v50=>ah false 1 v50 g33 fun v51=>aI 1 v51 v43 fun v52=>ah false 1 v52 g33 fun v53=>eV (nx s4 0) (some (i_ 1)) none fun v54=>ag .add (nx s4 6) (i_ 1) fun v55=>[x0,x2]=[x0,x2]∧N3 [v54,(nx s32 0),(nx s32 1),(nx s32 2),(nx s32 3),v53,v55] g33)) (ca p_ (nx s4 5) fun v56=>bg 2 v56 fun v57=>ah false 1 v57 g33 fun v58=>ag .neq v58 (.str []) fun v59=>aG (fun J60=>aM v59 true (ca p_ (nx s4 5) fun v61=>bg 2 v61 fun v62=>ah false 1 v62 g33 fun v63=>bx p_ (.fn (.func 59) [] []) [(nx s4 0),v63] g33 fun v64 g65=>[x0,(nx s4 0),x2,(nx s32 0),(nx s32 1),(nx s32 2),(nx s32 3),(nx s4 5),(nx s4 6)]=[x0,(nx s4 0),x2,(nx s32 0),(nx s32 1),(nx s32 2),(nx s32 3),(nx s4 5),(nx s4 6)]∧J60 [tt,v64] g65) ([x0,(nx s4 0),x2,(nx s32 0),(nx s32 1),(nx s32 2),(nx s32 3),(nx s4 5),(nx s4 6)]=[x0,(nx s4 0),x2,(nx s32 0),(nx s32 1),(nx s32 2),(nx s32 3),(nx s4 5),(nx s4 6)]∧J60 [(cd true v59),un] g33)) fun s66 g67=>bQ (nx s66 0) (nx s66 1) ff fun v68=>af v68 (ca p_ (nx s4 5) fun v69=>bg 2 v69 fun v70=>ah false 1 v70 g67 fun v71=>cZ v71 fun v72=>ag .add (nx s4 6) v72 fun v73=>ca p_ (nx s4 5) fun v74=>bg 2 v74 fun v75=>ah false 1 v75 g67 fun v76=>cZ v76 fun v77=>eV (nx s4 0) (some v77) none fun v78=>ca p_ (nx s4 5) fun v79=>bg 3 v79 fun v80=>ah false 1 v80 g67 fun v81=>[x0,x2]=[x0,x2]∧N3 [v78,(nx s32 0),(nx s32 1),(nx s32 2),(nx s32 3),v81,v73] g67) (K (.ay [(nx s32 0),(nx s32 1),(nx s32 2)]) g67)))) (K (.ay [(nx s4 1),(nx s4 2),(nx s4 3)]) g5)
def ZM:Code:=(Tryz.f269.body).getD .skip
def D5(x0 x1 x2:AV):Body p_ 269 [x0,x1,x2] (BA x0 x1 x2):=⟨ZM,(.seq .nil (.seq .nil (.seq .nil (.seq .nil (.seq (.one (.loop [0,2] [1,6,7,8,9,10,11] (.seq .nil (.one (.join [0,1,2,10,11] [6,7,8,9] (.seq (.aN [.op 0 false,.op 1 false,.op 2 false,.op 3 false,.op 4 false,.op 5 false,.op 6 false,.aA 6 true [(7,false),(8,false)] [0,1,2,6,7,8,9,10,11] [24,26],.aA 8 true [(9,false),(10,false),(11,false),(12,false),(13,false)] [0,1,2,6,7,8,9,10,11,24] [26,31],.aA 6 true [(14,false),(15,false)] [0,1,2,6,7,8,9,10,11] [24,33],.op 16 false]) .nil) (.seq .nil (.seq .nil (.two (.seq (.draw 8 [.op 0 false,.op 1 false,.op 2 false,.op 3 false,.op 4 false,.op 5 false,.op 6 false,.op 7 false] [] []) .nil) (.seq (.aN [.op 0 false,.op 1 false,.op 2 false,.op 3 false,.op 4 false,.op 5 false,.aA 5 true [(6,false),(7,false),(8,false),(9,false),(10,false),(11,false)] [0,1,2,6,7,8,9,10,11] [81,87],.op 12 false]) .nil))))))))) .nil))))),107,[.tmp 6,.tmp 7,.tmp 8],⟨Tryz.f269,Tryz.func269,rfl,by kernel_rfl,by kernel_rfl,by kernel_rfl⟩,by simp,fun h K=>by kernel_rfl⟩
end
section
open Go Go.Aw
def ft:List Nat:=[0]++List.replicate 9 4++[1,4,2,3]++List.replicate 242 4
def rb:List AV:=.str []:: i_ 0:: .str []:: .v (.pointer none):: .own 4 0 4 1:: i_ 4:: ft.map fun n=>.v (.int .u8 (Int.ofNat n))
def tb:List AV:=[.op 8 0,.v (.pointer none),.op 7 0,.op 5 0]
def e0:aK:=.ak ⟨9,[.str [13,10],.str [10],.str [13],.str [10],.str [12],.str [10],.str [0],.str [239,191,189]],true⟩
def e1:aK:=.tok 9 1 8
def tE(once mu:Int)(r s:AV):jJ:=⟨162,[.v (.int .u32 once),.v (.int .i32 mu),.v (.int .u32 0),r,s],true⟩
def keys:AV:=.sb 1 1 [[.str [13,10]],[.str [10]],[.str [13]],[.str [10]],[.str [12]],[.str [10]],[.str [0]],[.str [239,191,189]]]
def PC:aa:=[.ak ⟨250,[.str [10],i_ 6,.str [10],.op 6 0,.v (.slice none 0 0)],true⟩,.ak ⟨250,[.str [10],i_ 8,.str [],.v (.pointer none),.v (.slice none 0 0)],true⟩,.ak ⟨250,[.str [10],i_ 4,.str [],.v (.pointer none),.v (.slice none 0 0)],true⟩,.ak ⟨250,[.str [239,191,189],i_ 2,.str [],.v (.pointer none),.v (.slice none 0 0)],true⟩]
def Hb(mu:Int):aa:=[e0,e1,.ak (tE 0 mu (.v .nilIface) keys)]
def Ha(once mu:Int):aa:=e0:: e1:: .ak (tE once mu (.ib 212 (.op 3 0)) (.v (.slice none 0 0))):: .ak ⟨252,rb,true⟩:: .ak ⟨247,tb,true⟩:: PC
end
section
open Go Go.Aw
variable [Laid]
def X0(h:aa)(K:AV→aa→Prop):Prop:=
 qM 9 8 1 (.str []) [(0,1,(.str [13,10])),(1,1,(.str [10])),(2,1,(.str [13])),(3,1,(.str [10])),(4,1,(.str [12])),(5,1,(.str [10])),(6,1,(.str [0])),(7,1,(.str [239,191,189]))] h fun a b=>iC p_ 91 [a] b fun c d=>K c d
def V57:Body p_ 57 [] (X0):=bC Tryz.func57 .nil 3 [.tmp 0]
def Yt(a:AV)(h:aa)(K:AV→aa→Prop):Prop:=
 aG (fun b=>bq a fun c=>qBe .rem c 2 fun d=>qBe .eql d 1 fun e=>af e (oW 9 (.str [115,116,114,105,110,103,115,46,78,101,119,82,101,112,108,97,99,101,114,58,32,111,100,100,32,97,114,103,117,109,101,110,116,32,99,111,117,110,116]) fun m=>False) (eC [a] (b [] h))) fun n f=>bR false 9 1 16 qNs a f fun g i=>aW (.agg [.v (.int .u32 0),.v (.int .i32 0),.v (.int .u32 0),(.v .nilIface),qNs]) [(4,1,g)] fun j=>aV 162 j i fun k l=>K k l
def V91(a:AV):Body p_ 91 [a] (Yt a):=bC Tryz.func91 (sn (.join [0] [] .nil .nil)) 12 [.tmp 2]
def Yv(a:AV)(h:aa)(K:AV→aa→Prop):Prop:=
 iC p_ 131 [a] h fun b c=>qSt p_ a 3 b c fun d=>qSt p_ a 4 qNs d fun e=>K (.ay []) e
def V93(a:AV):Body p_ 93 [a] (Yv a):=bC Tryz.func93 .nil 10 []
def Sw(s:AV)(h:aa)(K:AV→aa→Prop):Prop:=
 qLd p_ s 4 h fun a=>bq a fun t=>qBe .eql t 2 fun u=>qJa u [a] h (fun v=>aI 1 a (i_ 0) fun w=>ah false 1 w h fun x=>cZ x fun y=>qBe .gtr y 1 fun z=>v z h) fun A i=>af A (aI 1 a (i_ 0) fun B=>ah false 1 B i fun C=>aI 1 a (i_ 1) fun D=>ah false 1 D i fun E=>iQ p_ 162 [C,E] i fun F=>oW 210 F fun G=>K G i) (bN [tt,i_ 0] i fun H c d =>
 bq a fun I=>ag .lss (nx c 1) I fun J=>af J (aG (fun o=>aI 1 a (nx c 1) fun L=>ah false 1 L d fun M=>cZ M fun N=>qBe .neq N 1 fun O=>af O (iC p_ 163 [a] d fun P Q=>oW 212 P fun R=>K R Q) (qBe .add (nx c 1) 1 fun S=>aI 1 a S fun T=>ah false 1 T d fun U=>cZ U fun V=>qBe .neq V 1 fun W=>af W (eC [a,nx c 1] (o [ff] d)) (eC [a,nx c 1] (o [nx c 0] d)))) fun X Y=>qBe .add (nx c 1) 2 fun Z=>eC [a] (H [nx X 0,Z] Y)) (af (nx c 0) (aW (.agg [u8 0,u8 0,u8 0,u8 0,u8 0,u8 0,u8 0,u8 0,u8 0,u8 0,u8 0,u8 0,u8 0,u8 0,u8 0,u8 0,u8 0,u8 0,u8 0,u8 0,u8 0,u8 0,u8 0,u8 0,u8 0,u8 0,u8 0,u8 0,u8 0,u8 0,u8 0,u8 0,u8 0,u8 0,u8 0,u8 0,u8 0,u8 0,u8 0,u8 0,u8 0,u8 0,u8 0,u8 0,u8 0,u8 0,u8 0,u8 0,u8 0,u8 0,u8 0,u8 0,u8 0,u8 0,u8 0,u8 0,u8 0,u8 0,u8 0,u8 0,u8 0,u8 0,u8 0,u8 0,u8 0,u8 0,u8 0,u8 0,u8 0,u8 0,u8 0,u8 0,u8 0,u8 0,u8 0,u8 0,u8 0,u8 0,u8 0,u8 0,u8 0,u8 0,u8 0,u8 0,u8 0,u8 0,u8 0,u8 0,u8 0,u8 0,u8 0,u8 0,u8 0,u8 0,u8 0,u8 0,u8 0,u8 0,u8 0,u8 0,u8 0,u8 0,u8 0,u8 0,u8 0,u8 0,u8 0,u8 0,u8 0,u8 0,u8 0,u8 0,u8 0,u8 0,u8 0,u8 0,u8 0,u8 0,u8 0,u8 0,u8 0,u8 0,u8 0,u8 0,u8 0,u8 0,u8 0,u8 0,u8 0,u8 0,u8 0,u8 0,u8 0,u8 0,u8 0,u8 0,u8 0,u8 0,u8 0,u8 0,u8 0,u8 0,u8 0,u8 0,u8 0,u8 0,u8 0,u8 0,u8 0,u8 0,u8 0,u8 0,u8 0,u8 0,u8 0,u8 0,u8 0,u8 0,u8 0,u8 0,u8 0,u8 0,u8 0,u8 0,u8 0,u8 0,u8 0,u8 0,u8 0,u8 0,u8 0,u8 0,u8 0,u8 0,u8 0,u8 0,u8 0,u8 0,u8 0,u8 0,u8 0,u8 0,u8 0,u8 0,u8 0,u8 0,u8 0,u8 0,u8 0,u8 0,u8 0,u8 0,u8 0,u8 0,u8 0,u8 0,u8 0,u8 0,u8 0,u8 0,u8 0,u8 0,u8 0,u8 0,u8 0,u8 0,u8 0,u8 0,u8 0,u8 0,u8 0,u8 0,u8 0,u8 0,u8 0,u8 0,u8 0,u8 0,u8 0,u8 0,u8 0,u8 0,u8 0,u8 0,u8 0,u8 0,u8 0,u8 0,u8 0,u8 0,u8 0,u8 0,u8 0,u8 0,u8 0,u8 0,u8 0,u8 0,u8 0,u8 0,u8 0,u8 0,u8 0,u8 0,u8 0,u8 0,u8 0,u8 0,u8 0,u8 0,u8 0,u8 0,u8 0,u8 0,u8 0,u8 0]) [] fun a0=>aV 215 (.agg [u8 0,u8 0,u8 0,u8 0,u8 0,u8 0,u8 0,u8 0,u8 0,u8 0,u8 0,u8 0,u8 0,u8 0,u8 0,u8 0,u8 0,u8 0,u8 0,u8 0,u8 0,u8 0,u8 0,u8 0,u8 0,u8 0,u8 0,u8 0,u8 0,u8 0,u8 0,u8 0,u8 0,u8 0,u8 0,u8 0,u8 0,u8 0,u8 0,u8 0,u8 0,u8 0,u8 0,u8 0,u8 0,u8 0,u8 0,u8 0,u8 0,u8 0,u8 0,u8 0,u8 0,u8 0,u8 0,u8 0,u8 0,u8 0,u8 0,u8 0,u8 0,u8 0,u8 0,u8 0,u8 0,u8 0,u8 0,u8 0,u8 0,u8 0,u8 0,u8 0,u8 0,u8 0,u8 0,u8 0,u8 0,u8 0,u8 0,u8 0,u8 0,u8 0,u8 0,u8 0,u8 0,u8 0,u8 0,u8 0,u8 0,u8 0,u8 0,u8 0,u8 0,u8 0,u8 0,u8 0,u8 0,u8 0,u8 0,u8 0,u8 0,u8 0,u8 0,u8 0,u8 0,u8 0,u8 0,u8 0,u8 0,u8 0,u8 0,u8 0,u8 0,u8 0,u8 0,u8 0,u8 0,u8 0,u8 0,u8 0,u8 0,u8 0,u8 0,u8 0,u8 0,u8 0,u8 0,u8 0,u8 0,u8 0,u8 0,u8 0,u8 0,u8 0,u8 0,u8 0,u8 0,u8 0,u8 0,u8 0,u8 0,u8 0,u8 0,u8 0,u8 0,u8 0,u8 0,u8 0,u8 0,u8 0,u8 0,u8 0,u8 0,u8 0,u8 0,u8 0,u8 0,u8 0,u8 0,u8 0,u8 0,u8 0,u8 0,u8 0,u8 0,u8 0,u8 0,u8 0,u8 0,u8 0,u8 0,u8 0,u8 0,u8 0,u8 0,u8 0,u8 0,u8 0,u8 0,u8 0,u8 0,u8 0,u8 0,u8 0,u8 0,u8 0,u8 0,u8 0,u8 0,u8 0,u8 0,u8 0,u8 0,u8 0,u8 0,u8 0,u8 0,u8 0,u8 0,u8 0,u8 0,u8 0,u8 0,u8 0,u8 0,u8 0,u8 0,u8 0,u8 0,u8 0,u8 0,u8 0,u8 0,u8 0,u8 0,u8 0,u8 0,u8 0,u8 0,u8 0,u8 0,u8 0,u8 0,u8 0,u8 0,u8 0,u8 0,u8 0,u8 0,u8 0,u8 0,u8 0,u8 0,u8 0,u8 0,u8 0,u8 0,u8 0,u8 0,u8 0,u8 0,u8 0,u8 0,u8 0,u8 0,u8 0,u8 0,u8 0,u8 0,u8 0,u8 0,u8 0,u8 0,u8 0,u8 0,u8 0]) d fun f a1=>ao 256 f a0 a1 fun a2=>bN [i_ 0] a2 fun a3 k p =>
 qBe .lss (nx k 0) 256 fun a4=>af a4 (cy .u8 (nx k 0) fun a5=>eU 256 1 f (nx k 0) fun a6=>ao 1 a6 a5 p fun a7=>qBe .add (nx k 0) 1 fun a8=>eC [a,f] (a3 [a8] a7)) (bq a fun a9=>qBe .sub a9 2 fun b0=>bN [b0] p fun b1 l m =>
 qBe .geq (nx l 0) 0 fun b2=>af b2 (aI 1 a (nx l 0) fun b3=>ah false 1 b3 m fun b4=>eD b4 (i_ 0) fun b5=>qBe .add (nx l 0) 1 fun b6=>aI 1 a b6 fun b7=>ah false 1 b7 m fun b8=>eD b8 (i_ 0) fun b9=>eU 256 1 f b5 fun c0=>ao 1 c0 b9 m fun c1=>qBe .sub (nx l 0) 2 fun c2=>eC [a,f] (b1 [c2] c1)) (oW 216 f fun c3=>K c3 m))) (bq a fun c4=>qBe .quo c4 2 fun c5=>qK 9 1 16 (.str []) (i_ 0) c5 d fun c6 c7=>aW (.agg [qNs,qNs,qNs,qNs,qNs,qNs,qNs,qNs,qNs,qNs,qNs,qNs,qNs,qNs,qNs,qNs,qNs,qNs,qNs,qNs,qNs,qNs,qNs,qNs,qNs,qNs,qNs,qNs,qNs,qNs,qNs,qNs,qNs,qNs,qNs,qNs,qNs,qNs,qNs,qNs,qNs,qNs,qNs,qNs,qNs,qNs,qNs,qNs,qNs,qNs,qNs,qNs,qNs,qNs,qNs,qNs,qNs,qNs,qNs,qNs,qNs,qNs,qNs,qNs,qNs,qNs,qNs,qNs,qNs,qNs,qNs,qNs,qNs,qNs,qNs,qNs,qNs,qNs,qNs,qNs,qNs,qNs,qNs,qNs,qNs,qNs,qNs,qNs,qNs,qNs,qNs,qNs,qNs,qNs,qNs,qNs,qNs,qNs,qNs,qNs,qNs,qNs,qNs,qNs,qNs,qNs,qNs,qNs,qNs,qNs,qNs,qNs,qNs,qNs,qNs,qNs,qNs,qNs,qNs,qNs,qNs,qNs,qNs,qNs,qNs,qNs,qNs,qNs,qNs,qNs,qNs,qNs,qNs,qNs,qNs,qNs,qNs,qNs,qNs,qNs,qNs,qNs,qNs,qNs,qNs,qNs,qNs,qNs,qNs,qNs,qNs,qNs,qNs,qNs,qNs,qNs,qNs,qNs,qNs,qNs,qNs,qNs,qNs,qNs,qNs,qNs,qNs,qNs,qNs,qNs,qNs,qNs,qNs,qNs,qNs,qNs,qNs,qNs,qNs,qNs,qNs,qNs,qNs,qNs,qNs,qNs,qNs,qNs,qNs,qNs,qNs,qNs,qNs,qNs,qNs,qNs,qNs,qNs,qNs,qNs,qNs,qNs,qNs,qNs,qNs,qNs,qNs,qNs,qNs,qNs,qNs,qNs,qNs,qNs,qNs,qNs,qNs,qNs,qNs,qNs,qNs,qNs,qNs,qNs,qNs,qNs,qNs,qNs,qNs,qNs,qNs,qNs,qNs,qNs,qNs,qNs,qNs,qNs,qNs,qNs,qNs,qNs,qNs,qNs,qNs,qNs,qNs,qNs,qNs,qNs,qNs,qNs,qNs,qNs,qNs,qNs,qNs]) [(256,1,c6)] fun c8=>aV 219 (.agg [qNs,qNs,qNs,qNs,qNs,qNs,qNs,qNs,qNs,qNs,qNs,qNs,qNs,qNs,qNs,qNs,qNs,qNs,qNs,qNs,qNs,qNs,qNs,qNs,qNs,qNs,qNs,qNs,qNs,qNs,qNs,qNs,qNs,qNs,qNs,qNs,qNs,qNs,qNs,qNs,qNs,qNs,qNs,qNs,qNs,qNs,qNs,qNs,qNs,qNs,qNs,qNs,qNs,qNs,qNs,qNs,qNs,qNs,qNs,qNs,qNs,qNs,qNs,qNs,qNs,qNs,qNs,qNs,qNs,qNs,qNs,qNs,qNs,qNs,qNs,qNs,qNs,qNs,qNs,qNs,qNs,qNs,qNs,qNs,qNs,qNs,qNs,qNs,qNs,qNs,qNs,qNs,qNs,qNs,qNs,qNs,qNs,qNs,qNs,qNs,qNs,qNs,qNs,qNs,qNs,qNs,qNs,qNs,qNs,qNs,qNs,qNs,qNs,qNs,qNs,qNs,qNs,qNs,qNs,qNs,qNs,qNs,qNs,qNs,qNs,qNs,qNs,qNs,qNs,qNs,qNs,qNs,qNs,qNs,qNs,qNs,qNs,qNs,qNs,qNs,qNs,qNs,qNs,qNs,qNs,qNs,qNs,qNs,qNs,qNs,qNs,qNs,qNs,qNs,qNs,qNs,qNs,qNs,qNs,qNs,qNs,qNs,qNs,qNs,qNs,qNs,qNs,qNs,qNs,qNs,qNs,qNs,qNs,qNs,qNs,qNs,qNs,qNs,qNs,qNs,qNs,qNs,qNs,qNs,qNs,qNs,qNs,qNs,qNs,qNs,qNs,qNs,qNs,qNs,qNs,qNs,qNs,qNs,qNs,qNs,qNs,qNs,qNs,qNs,qNs,qNs,qNs,qNs,qNs,qNs,qNs,qNs,qNs,qNs,qNs,qNs,qNs,qNs,qNs,qNs,qNs,qNs,qNs,qNs,qNs,qNs,qNs,qNs,qNs,qNs,qNs,qNs,qNs,qNs,qNs,qNs,qNs,qNs,qNs,qNs,qNs,qNs,qNs,qNs,qNs,qNs,qNs,qNs,qNs,qNs,qNs,qNs,qNs,qNs,qNs,qNs,qNs]) c7 fun b c9=>ao 257 b c8 c9 fun d0=>bq a fun d1=>qBe .sub d1 2 fun d2=>bN [d2] d0 fun d3 g e =>
 qBe .geq (nx g 0) 0 fun d4=>af d4 (aI 1 a (nx g 0) fun d5=>ah false 1 d5 e fun d6=>eD d6 (i_ 0) fun j=>qBe .add (nx g 0) 1 fun d7=>aI 1 a d7 fun d8=>ah false 1 d8 e fun n=>aG (fun q=>bg 0 b fun d9=>eU 256 1 d9 j fun e0=>ah false 1 e0 e fun e1=>kI false (vw e1) fun e2=>af e2 (iFL 256 false 1 b e fun e3=>qM 5 1 1 (u8 0) [(0,1,j)] e fun e4 r=>cP e4 r fun e5=>qM 9 1 1 (.str []) [(0,1,e5)] r fun e6 e7=>bR false 9 1 16 e3 e6 e7 fun e8 e9=>bg 256 b fun f0=>ao 1 f0 e8 e9 fun f1=>eC [a,b,nx g 0,j,n] (q [] f1)) (eC [a,b,nx g 0,j,n] (q [] e))) fun g0 f2=>iO 5 n f2 fun f3 f4=>bg 0 b fun f5=>eU 256 1 f5 j fun f6=>ao 1 f6 f3 f4 fun f7=>qBe .sub (nx g 0) 2 fun f8=>eC [a,b] (d3 [f8] f7)) (oW 220 b fun f9=>K f9 e))))
def Y6(a:AV):Body p_ 131 [a] (Sw a):=bC Tryz.func131 (sn (sn (.seq (.seq (.aN (oR 0 4 (.aA 3 true (fR 4 5) [3] [22,27]::.op 9 false::[]))) (.two (.seq (.draw 9 (oR 0 9 []) [] []) .nil) .nil)) (sn (.seq (sn (.one (.loop [3] [4,5] (sn (.join [3,5] [4] .nil .nil))))) (.seq (sn (.two (sn (.seq (sn (.one (.loop [3,6] [61] .nil))) (.seq (sn (.one (.loop [3,6] [8] .nil))) .nil))) .nil)) (sn (.seq (sn (.one (.loop [3,11] [12] (sn (.seq (.one (sn (sn (.join [3,11,12,13,14] [] .nil .nil)))) .nil))))) .nil)))))))) 132 [.tmp 2]
def SJ(b:AV)(h:aa)(K:AV→aa→Prop):Prop:=
 aV 252 (.agg [.str [],i_ 0,.str [],.v (.pointer none),qNs,i_ 0,u8 0,u8 0,u8 0,u8 0,u8 0,u8 0,u8 0,u8 0,u8 0,u8 0,u8 0,u8 0,u8 0,u8 0,u8 0,u8 0,u8 0,u8 0,u8 0,u8 0,u8 0,u8 0,u8 0,u8 0,u8 0,u8 0,u8 0,u8 0,u8 0,u8 0,u8 0,u8 0,u8 0,u8 0,u8 0,u8 0,u8 0,u8 0,u8 0,u8 0,u8 0,u8 0,u8 0,u8 0,u8 0,u8 0,u8 0,u8 0,u8 0,u8 0,u8 0,u8 0,u8 0,u8 0,u8 0,u8 0,u8 0,u8 0,u8 0,u8 0,u8 0,u8 0,u8 0,u8 0,u8 0,u8 0,u8 0,u8 0,u8 0,u8 0,u8 0,u8 0,u8 0,u8 0,u8 0,u8 0,u8 0,u8 0,u8 0,u8 0,u8 0,u8 0,u8 0,u8 0,u8 0,u8 0,u8 0,u8 0,u8 0,u8 0,u8 0,u8 0,u8 0,u8 0,u8 0,u8 0,u8 0,u8 0,u8 0,u8 0,u8 0,u8 0,u8 0,u8 0,u8 0,u8 0,u8 0,u8 0,u8 0,u8 0,u8 0,u8 0,u8 0,u8 0,u8 0,u8 0,u8 0,u8 0,u8 0,u8 0,u8 0,u8 0,u8 0,u8 0,u8 0,u8 0,u8 0,u8 0,u8 0,u8 0,u8 0,u8 0,u8 0,u8 0,u8 0,u8 0,u8 0,u8 0,u8 0,u8 0,u8 0,u8 0,u8 0,u8 0,u8 0,u8 0,u8 0,u8 0,u8 0,u8 0,u8 0,u8 0,u8 0,u8 0,u8 0,u8 0,u8 0,u8 0,u8 0,u8 0,u8 0,u8 0,u8 0,u8 0,u8 0,u8 0,u8 0,u8 0,u8 0,u8 0,u8 0,u8 0,u8 0,u8 0,u8 0,u8 0,u8 0,u8 0,u8 0,u8 0,u8 0,u8 0,u8 0,u8 0,u8 0,u8 0,u8 0,u8 0,u8 0,u8 0,u8 0,u8 0,u8 0,u8 0,u8 0,u8 0,u8 0,u8 0,u8 0,u8 0,u8 0,u8 0,u8 0,u8 0,u8 0,u8 0,u8 0,u8 0,u8 0,u8 0,u8 0,u8 0,u8 0,u8 0,u8 0,u8 0,u8 0,u8 0,u8 0,u8 0,u8 0,u8 0,u8 0,u8 0,u8 0,u8 0,u8 0,u8 0,u8 0,u8 0,u8 0,u8 0,u8 0,u8 0,u8 0,u8 0,u8 0,u8 0,u8 0,u8 0,u8 0,u8 0,u8 0,u8 0,u8 0,u8 0,u8 0,u8 0,u8 0,u8 0,u8 0,u8 0,u8 0,u8 0,u8 0,u8 0]) h fun a s=>bN [i_ 0] s fun t f g =>
 bq b fun u=>ag .lss (nx f 0) u fun w=>af w (aI 1 b (nx f 0) fun x=>ah false 1 x g fun l=>bN [i_ 0] g fun y m o =>
 cZ l fun z=>ag .lss (nx m 0) z fun A=>af A (eD l (nx m 0) fun B=>qFd p_ a 6 fun C=>eU 256 1 C B fun D=>ao 1 D (u8 1) o fun E=>qBe .add (nx m 0) 1 fun F=>eC [b,a,nx f 0,l] (y [F] E)) (qBe .add (nx f 0) 2 fun G=>eC [b,a] (t [G] o))) (ca p_ a fun H=>iFL 6 true 256 H g fun p=>bN [i_ 0] g fun I n i =>
 qBe .lss (nx n 0) 256 fun J=>af J (mM false 1 256 p (nx n 0) fun L=>qLd p_ a 5 i fun M=>cy .i64 L fun N=>ag .add M N fun O=>qSt p_ a 5 O i fun P=>qBe .add (nx n 0) 1 fun Q=>eC [b,a,p] (I [Q] P)) (ca p_ a fun R=>iFL 6 true 256 R i fun j=>bN [u8 0,i_ 0] i fun S c d =>
 qBe .lss (nx c 1) 256 fun T=>af T (aG (fun q=>mM false 1 256 j (nx c 1) fun U=>ag .eql U (u8 0) fun V=>af V (qLd p_ a 5 d fun W=>cy .u8 W fun X=>qFd p_ a 6 fun Y=>eU 256 1 Y (nx c 1) fun Z=>ao 1 Z X d fun a0=>eC [b,a,j,nx c 1] (q [nx c 0] a0)) (qFd p_ a 6 fun a1=>eU 256 1 a1 (nx c 1) fun a2=>ao 1 a2 (nx c 0) d fun a3=>ag .add (nx c 0) (u8 1) fun a4=>eC [b,a,j,nx c 1] (q [a4] a3))) fun a5 a6=>qBe .add (nx c 1) 1 fun a7=>eC [b,a,j] (S [nx a5 0,a7] a6)) (qLd p_ a 5 d fun r=>qK 247 1 8 (.v (.pointer none)) r r d fun a8 a9=>qFd p_ a 0 fun b0=>bg 4 b0 fun b1=>ao 1 b1 a8 a9 fun b2=>bN [i_ 0] b2 fun b3 e k =>
 bq b fun b4=>ag .lss (nx e 0) b4 fun b5=>af b5 (qFd p_ a 0 fun b6=>aI 1 b (nx e 0) fun b7=>ah false 1 b7 k fun b8=>qBe .add (nx e 0) 1 fun b9=>aI 1 b b9 fun c0=>ah false 1 c0 k fun c1=>iZ b fun c2=>ag .sub c2 (nx e 0) fun c3=>iC p_ 194 [b6,b8,c1,c3,a] k fun c6 c4=>qBe .add (nx e 0) 2 fun c5=>eC [b,a] (b3 [c5] c4)) (K a k))))
def Zj(a:AV):Body p_ 163 [a] (SJ a):=bC Tryz.func163 (sn (sn (.seq (sn (.one (.loop [0,3] [4] (sn (.seq (.one (sn (sn (.one (.loop [0,3,4,5] [6] (sn (.seq (.one (.draw 7 (oR 0 7 []) [.op 7 false] [])) .nil))))))) .nil))))) (.seq (sn (.one (.loop [0,3,40] [41] .nil))) (sn (.seq (sn (.one (.loop [0,3,57] [9,58] (sn (sn (.join [0,3,57,58] [9] (.one (sn (sn (.two (.draw 10 (oR 0 10 []) [.op 10 false] []) .nil)))) .nil)))))) (sn (.seq (sn (.one (.loop [0,3] [12] (sn (.seq (.one (.draw 17 (oR 0 17 []) [.op 17 true] [])) .nil))))) .nil)))))))) 117 [.tmp 2]
def IL(a b d e c:AV)(h:aa)(K:AV→aa→Prop):Prop:=
 ag .eql b (.str []) fun z=>af z (qLd p_ a 1 h fun A=>qBe .eql A 0 fun B=>af B (qSt p_ a 0 d h fun C=>qSt p_ a 1 e C fun D=>K (.ay []) D) (K (.ay []) h)) (qLd p_ a 2 h fun E=>ag .neq E (.str []) fun F=>af F (aG (fun p=>bN [i_ 0] h fun G g m =>
 qLd p_ a 2 m fun H=>cZ H fun I=>ag .lss (nx g 0) I fun J=>qJa J [a,b,d,e,c,nx g 0] m (fun L=>cZ b fun M=>ag .lss (nx g 0) M fun N=>L N m) fun O k=>af O (qLd p_ a 2 k fun P=>eD P (nx g 0) fun Q=>eD b (nx g 0) fun R=>ag .neq Q R fun S=>af S (eC [a,b,d,e,c] (p [nx g 0] k)) (qBe .add (nx g 0) 1 fun T=>eC [a,b,d,e,c] (G [T] k))) (eC [a,b,d,e,c] (p [nx g 0] k))) fun i f=>qLd p_ a 2 f fun U=>cZ U fun V=>ag .eql (nx i 0) V fun W=>af W (qLd p_ a 3 f fun X=>eV b (some (nx i 0)) none fun Y=>iC p_ 194 [X,Y,d,e,c] f fun g7 Z=>K (.ay []) Z) (qBe .eql (nx i 0) 0 fun a0=>af a0 (aG (fun q=>qLd p_ a 2 f fun a1=>cZ a1 fun a2=>qBe .eql a2 1 fun a3=>af a3 (qLd p_ a 3 f fun a4=>eC [a,b,d,e,c] (q [a4] f)) (qLd p_ a 2 f fun a5=>eV a5 (some (i_ 1)) none fun a6=>qLd p_ a 3 f fun a7=>aW (.agg [.str [],i_ 0,.str [],.v (.pointer none),qNs]) [(2,1,a6),(3,1,a7)] fun a8=>aV 250 a8 f fun a9 b0=>eC [a,b,d,e,c] (q [a9] b0))) fun b1 b2=>aV 250 (.agg [.str [],i_ 0,.str [],.v (.pointer none),qNs]) b2 fun r s=>qLd p_ c 5 s fun t=>qK 247 1 8 (.v (.pointer none)) t t s fun b3 b4=>qSt p_ a 4 b3 b4 fun l=>qLd p_ a 4 l fun b5=>qLd p_ a 2 l fun b6=>eD b6 (i_ 0) fun b7=>qFd p_ c 6 fun b8=>eU 256 1 b8 b7 fun b9=>ah false 1 b9 l fun c0=>aI 1 b5 c0 fun c1=>ao 1 c1 (nx b1 0) l fun n=>qLd p_ a 4 n fun c2=>eD b (i_ 0) fun c3=>qFd p_ c 6 fun c4=>eU 256 1 c4 c3 fun c5=>ah false 1 c5 n fun c6=>aI 1 c2 c6 fun c7=>ao 1 c7 r n fun c8=>qSt p_ a 2 (.str []) c8 fun c9=>qSt p_ a 3 (.v (.pointer none)) c9 fun d0=>eV b (some (i_ 1)) none fun d1=>iC p_ 194 [r,d1,d,e,c] d0 fun g8 d2=>K (.ay []) d2) (qLd p_ a 2 f fun d3=>eV d3 (some (nx i 0)) none fun d4=>qLd p_ a 3 f fun d5=>aW (.agg [.str [],i_ 0,.str [],.v (.pointer none),qNs]) [(2,1,d4),(3,1,d5)] fun d6=>aV 250 d6 f fun u w=>qLd p_ a 2 w fun d7=>eV d7 none (some (nx i 0)) fun d8=>qSt p_ a 2 d8 w fun d9=>qSt p_ a 3 u d9 fun e0=>eV b (some (nx i 0)) none fun e1=>iC p_ 194 [u,e1,d,e,c] e0 fun g9 e2=>K (.ay []) e2))) (qLd p_ a 4 h fun e3=>kI true (vw e3) fun e4=>af e4 (eD b (i_ 0) fun e5=>qFd p_ c 6 fun e6=>eU 256 1 e6 e5 fun e7=>ah false 1 e7 h fun j=>aG (fun x=>qLd p_ a 4 h fun e8=>aI 1 e8 j fun e9=>ah false 1 e9 h fun f0=>kI false (tD f0) fun f1=>af f1 (qLd p_ a 4 h fun f2=>aV 250 (.agg [.str [],i_ 0,.str [],.v (.pointer none),qNs]) h fun f3 f4=>aI 1 f2 j fun f5=>ao 1 f5 f3 f4 fun f6=>eC [a,b,d,e,c,j] (x [] f6)) (eC [a,b,d,e,c,j] (x [] h))) fun i0 o=>qLd p_ a 4 o fun f7=>aI 1 f7 j fun f8=>ah false 1 f8 o fun f9=>eV b (some (i_ 1)) none fun g0=>iC p_ 194 [f9,g0,d,e,c] o fun i1 g1=>K (.ay []) g1) (qSt p_ a 2 b h fun g2=>aV 250 (.agg [.str [],i_ 0,.str [],.v (.pointer none),qNs]) g2 fun g3 g4=>qSt p_ a 3 g3 g4 fun y=>qLd p_ a 3 y fun g5=>iC p_ 194 [g5,.str [],d,e,c] y fun i2 g6=>K (.ay []) g6)))
def Mz(a b c d e:AV):Body p_ 194 [a,b,c,d,e] (IL a b c d e):=bC Tryz.func194 (sn (sn (.two (sn (.join [0,1,2,3,4] [10] (.one (.loop [0,1,2,3,4] [10] (.seq (.seq (.aN (oR 0 8 (.aA 7 true (fR 8 4) [0,1,2,3,4,10] [42,46]::.op 12 false::[]))) .nil) (.seq (.one (.seq (.draw 10 (oR 0 10 []) [] []) .nil)) .nil)))) (sn (.two (.draw 10 (oR 0 10 []) [.op 10 true] []) (sn (.two (sn (.join [0,1,2,3,4] [11] (sn (.two .nil (.draw 10 (oR 0 10 []) (oR 10 2 []) []))) (sn (sn (.seq (.draw 16 (oR 0 16 []) [.op 16 false] []) (.seq (.draw 13 (oR 0 13 []) [.op 13 false] []) .nil)))))) (.seq (.draw 11 (oR 0 11 []) (oR 11 2 []) []) .nil))))))) (sn (.two (.seq (.draw 8 (oR 0 8 []) [] []) (.join [0,1,2,3,4,14] [] .nil (.draw 12 (oR 0 12 []) [.op 12 true] []))) .nil))))) 241 []
end
end Go.Proofs.YtpcnidmmkknndaaGreatDoor
namespace Go.Aw
section
open Go Go.RowKit
section
variable {K:AV→Prop} {A B:Prop} {h:aa}
def cH(ex:x=.v (.int k a))(ey:y=.v (.int k b))(q:K (.v (.bool (decide (a<b))))):ag .lss x y K:=by subst ex;subst ey;simpa using q
def zzC(q:K (.v (.bool (decide (a<b))))):ag .lss (.v (.int k a)) (.v (.int k b)) K:=cH rfl rfl q
def gZ(ex:x=.v (.int k a))(ey:y=.v (.int k b))(q:K (.v (.bool (decide (a≤b))))):ag .leq x y K:=by subst ex;subst ey;simpa using q
def zzD(q:K (.v (.bool (decide (a≤b))))):ag .leq (.v (.int k a)) (.v (.int k b)) K:=gZ rfl rfl q
def fc(ex:x=.v (.int k a))(ey:y=.v (.int k b))(q:K (.v (.bool (decide (b<a))))):ag .gtr x y K:=by subst ex;subst ey;simpa using q
def zzE(q:K (.v (.bool (decide (b<a))))):ag .gtr (.v (.int k a)) (.v (.int k b)) K:=fc rfl rfl q
def mD(ex:x=.v (.int k a))(ey:y=.v (.int k b))(q:K (.v (.bool (decide (b≤a))))):ag .geq x y K:=by subst ex;subst ey;simpa using q
def zzF(q:K (.v (.bool (decide (b≤a))))):ag .geq (.v (.int k a)) (.v (.int k b)) K:=mD rfl rfl q
def bU(ex:x=.v (.int k a))(ey:y=.v (.int k b))(q:K (.v (.bool (decide (a=b))))):ag .eql x y K:=by subst ex;subst ey;simpa using q
def zzG(q:K (.v (.bool (decide (a=b))))):ag .eql (.v (.int k a)) (.v (.int k b)) K:=bU rfl rfl q
def dB(ex:x=.v (.int k a))(ey:y=.v (.int k b))(q:K (.v (.bool (!decide (a=b))))):ag .neq x y K:=by subst ex;subst ey;simpa using q
def zzH(q:K (.v (.bool (!decide (a=b))))):ag .neq (.v (.int k a)) (.v (.int k b)) K:=dB rfl rfl q
def gQ(ex:x=.str a)(ey:y=.str b)(q:K (.v (.bool (decide (a=b))))):ag .eql x y K:=by subst ex;subst ey;simpa using q
def zzI(q:K (.v (.bool (decide (a=b))))):ag .eql (.str a) (.str b) K:=gQ rfl rfl q
def jT(ex:x=.str a)(ey:y=.str b)(q:K (.v (.bool (!decide (a=b))))):ag .neq x y K:=by subst ex;subst ey;simpa using q
def zzJ(q:K (.v (.bool (!decide (a=b))))):ag .neq (.str a) (.str b) K:=jT rfl rfl q
def J6(ex:x=.v (.bool a))(ey:y=.v (.bool b))(q:K (.v (.bool (!(a == b))))):qJ .neq x y K:=by subst ex;subst ey;simpa using q
def dU(e:x=.v (.bool b))(q:K (.v (.bool (!b)))):cr x K:=by subst e;simpa using q
def zzO(q:K (.v (.bool (!b)))):cr (.v (.bool b)) K:=dU rfl q
def cq(e:c=.v (.bool b))(qt:b=true→A)(qf:b=false→B):af c A B:=by subst e;simpa using⟨qt,qf⟩
def au(e:c=.v (.bool b))(hb:b=true)(q:A):af c A B:=by subst e;subst hb;simpa using q
def zzL(hb:b=true)(q:A):af (.v (.bool b)) A B:=au rfl hb q
def aw(e:c=.v (.bool b))(hb:b=false)(q:B):af c A B:=by subst e;subst hb;simpa using q
def zzK(hb:b=false)(q:B):af (.v (.bool b)) A B:=aw rfl hb q
def jl(e:c=.v (.bool (!b)))(q:af (.v (.bool b)) B A):af c A B:=by subst e;cases b<;>simpa using q
def cD(e:c=.v (.bool b))(qt:b=w→A)(qf:b=(!w)→B):aM c w A B:=by subst e;simpa using⟨qt,qf⟩
def bw(e:c=.v (.bool b))(hb:b=w)(q:A):aM c w A B:=by subst e;subst hb;cases b<;>simpa using q
def zzN(hb:b=w)(q:A):aM (.v (.bool b)) w A B:=bw rfl hb q
def bz(e:c=.v (.bool b))(hb:b=(!w))(q:B):aM c w A B:=by subst e;subst hb;cases w<;>simpa using q
def zzM(hb:b=(!w))(q:B):aM (.v (.bool b)) w A B:=bz rfl hb q
def fy(e:c=.v (.bool (!b)))(q:aM (.v (.bool b)) (!w) A B):aM c w A B:=by subst e;cases b<;>cases w<;>simpa using q
def BC(e:c=.v (.bool b))(hb:b=true)(q:K x):bQ c x y K:=by subst e;subst hb;simpa using q
def ud(e:c=.v (.bool b))(hb:b=false)(q:K y):bQ c x y K:=by subst e;subst hb;simpa using q
def xv(e:c=.v (.bool (!b)))(q:bQ (.v (.bool b)) y x K):bQ c x y K:=by subst e;cases b<;>simpa using q
def fh{off:Nat}{cs:List AV}(e:x=.ip cs)(q:K (.ip (cs.drop off))):bg off x K:=by subst e;exact q
def zzX{off:Nat}{cs:List AV}(q:K (.ip (cs.drop off))):bg off (.ip cs) K:=fh rfl q
def iv{cs:List AV}(e:x=.ip cs)(hn:cs.length=n)(q:K (.agg cs)):ah true n x h K:=by
 subst e;rw[Hr];exact⟨by omega,by rw[←hn,BY];exact q⟩
def zzY{cs:List AV}(hn:cs.length=n)(q:K (.agg cs)):ah true n (.ip cs) h K:=iv rfl hn q
def dT{sz id o:Nat}{cs:List AV}{KS:aa→Prop}(e:x=.op id o)(hb:h[id]?=some (.ak b))(hw:b.wr=true)(hv:bh v=cs)(hl:o+cs.length≤b.cells.length)(hz:cs.length=sz)(hs:cs.all bG=true)
 (q:KS (h.set id (.ak { b with cells:=bX b.cells o cs }))):ao sz x v h KS:=by
 subst e;subst hv;rw[yU,hb];exact⟨⟨hw,hl,hz,hs⟩,q⟩
def cU{sz:Nat}{rows:List (List AV)}(e:x=.sl sz rows)(hn:rows.length=n)(q:n≤maxLen→K (i_ n)):bq x K:=by subst e;subst hn;rw[KO];exact q
def zzf{sz:Nat}{rows:List (List AV)}(hn:rows.length=n)(q:n≤maxLen→K (i_ n)):bq (.sl sz rows) K:=cU rfl hn q
def nn(e:x=.str l)(q:l.length≤maxLen→K (i_ l.length)):cZ x K:=by subst e;rw[BP];exact q
def zzZ(q:l.length≤maxLen→K (i_ l.length)):cZ (.str l) K:=nn rfl q
def ba{ps:List (Nat×Nat×AV)}{cs:List AV}(e:dP (bh z) ps=some cs)(q:K (.agg cs)):aW z ps K:=by rw[NR,e];exact q
def je{cs:List AV}(e:x=.ay cs)(hc:cs[i]?=some c)(q:K c):aR i x K:=bl e hc q
def zzB{cs:List AV}(hc:cs[i]?=some c)(q:K c):aR i (.ay cs) K:=je rfl hc q
def xu{neg:Bool}{ks:List Nat}{xs ys:List AV}(ex:x=.agg xs)(ey:y=.agg ys)(hb:jh ks xs ys=some b)(q:K (.v (.bool (if neg then !b else b)))):mc neg ks x y K:=by
 subst ex;subst ey;rw[TJ,hb];exact q
def gY{α:Type}{m:Nat}{x i:AV}{l:List α}{rows:List (List AV)}{f:α→List AV}{n:Nat}{a:α}(e:x=.sl m rows)(hr:rows=l.map f)(ei:i=i_ n)(ha:l[n]?=some a)(q:K (.ip (f a))):aI m x i K:=by
 subst e;subst ei;subst hr;rw[Hp];have hn:=(eQ.1 ha).1;refine⟨rfl,⟨by omega,by rw[aaQ];omega⟩, ?_⟩;have:(l.map f).getD (n:Int).toNat []=f a:=by rw[Mk,nE,iN,ha];rfl
 rw[this];exact q
def zzb{α:Type}{m:Nat}{i:AV}{l:List α}{rows:List (List AV)}{f:α→List AV}{n:Nat}{a:α}(hr:rows=l.map f)(ei:i=i_ n)(ha:l[n]?=some a)(q:K (.ip (f a))):aI m (.sl m rows) i K:=gY rfl hr ei ha q
def uc{n:Nat}(e:x=.str l)(ei:i=i_ n)(hb:l[n]?=some b)(q:K (.v (.int .u8 b.toNat))):eD x i K:=by
 subst e;subst ei;have hn:=(eQ.1 hb).1;refine⟨⟨by omega,by omega⟩, ?_⟩;have:l.getD (n:Int).toNat 0=b:=by rw[Mk,nE,hb];rfl
 rw[this];exact q
end
def zM(f:AV→AV)(L:Nat)(h:aa)(r:List (List AV))(p:cG r):oQ f L h r=r:=by
 have:=zL f L h (.sl 0 r) (by rw[Pure];exact p);rw[eP]at this;simpa using this
theorem nV:∀l:List UInt8,wF (l.map bf)=some l
 | []=>rfl
 | b:: l=>by
   rw[GO,bf,wF,nV l];simp
def CB{K:AV→Prop}{id:Nat}(e:x=.own id 0 l.length 1)(hb:h[id]?=some (.ak b))(hc:b.cells=l.map bf)(q:K (.str l)):cP x h K:=by
 subst e;have h1:jA h 1 (.own id 0 l.length 1)=some (chunks 1 l.length b.cells):=by
  rw[FR,hb];simp only[List.drop_zero,true_and];rw[if_pos (by rw[hc];simp)]
 have h2:(chunks 1 l.length b.cells).flatten=l.map bf:=by
  rw[(jf 1 l.length b.cells (by rw[hc];simp)).1,hc];rw[MK (by simp)]
 unfold cP;rw[h1];simp only[Option.bind_some,h2,nV];exact q
def ku{α:Type}{l:List α}{k:Nat}{x:α}(h:l[k]?=some x):l.set k x=l:=by
 refine List.ext_getElem? fun j=>?_
 by_cases q:k=j
 ·subst q;rw[iD (eQ.1 h).1,h]
 ·rw[iF q]
def PK(n:Nat)(a:AV):Pure a→Bd n a:=by
 refine AV.rec (motive_1:=fun a=>Pure a→Bd n a) (motive_2:=fun l=>aO l→lV n l) (motive_3:=fun r=>cG r→wj n r) ?_ ?_ ?_ ?_ ?_ ?_ ?_ ?_ ?_ ?_ ?_ ?_ ?_ ?_ ?_ ?_ ?_ ?_ a;all_goals intros
 all_goals simp_all [Bd,lV,wj]
def kQ(n:Nat)(l:List AV)(p:aO l):lV n l:=by
 have:=PK n (.agg l) (by rw[Pure];exact p)
 rwa [Bd]at this
variable [Laid]
def Wk.back(hn:n≤M)(hM:M≤h.length)(e:h.take M=h')(es:s=s')(hb:∀x∈h',rQ M x)(hs:∀a∈s',Bd M a):Wk n s h s' h':=by
 subst es;subst e;exact Wk.ZO hn hM hb hs
end
section
open Go Go.RowKit
mutual
inductive zT:AV→AV→Prop
 | refl (a:AV):zT a a
 | nil (s:Nat):zT (.v (.slice none 0 0)) (.sl s [])
 | sl {s:Nat} {r r':List (List AV)}:oc r r'→zT (.sl s r) (.sl s r')
 | ay {r r':List AV}:kB r r'→zT (.ay r) (.ay r')
inductive kB:List AV→List AV→Prop
 | nil:kB [] []
 | cons {a b:AV} {as_ bs:List AV}:zT a b→kB as_ bs→kB (a:: as_) (b:: bs)
inductive oc:List (List AV)→List (List AV)→Prop
 | nil:oc [] []
 | cons {a b:List AV} {as_ bs:List (List AV)}:kB a b→oc as_ bs→oc (a:: as_) (b:: bs)
end
theorem kB.length:∀{as_ bs:List AV},kB as_ bs→as_.length=bs.length
 | _,_,.nil=>rfl
 | _,_,.cons _ k=>by simp[kB.length k]
theorem oc.length:∀{as_ bs:List (List AV)},oc as_ bs→as_.length=bs.length
 | _,_,.nil=>rfl
 | _,_,.cons _ k=>by simp[oc.length k]
theorem kB.refl:∀as_:List AV,kB as_ as_
 | []=>.nil
 | a:: as_=>.cons (.refl a) (kB.refl as_)
variable {ι:List Ix} {S:aY} {w:World}
mutual
theorem ar.qx:∀{a b:AV},zT a b→∀v,ar ι S w a v→ar ι S w b v
 | _,_,.refl _,v,h=>h
 | _,_,.nil s,v,h=>by
   rw[cz]at h;subst h;rw[ar];exact⟨none,0,rfl,by simp,by simp,.inl rfl⟩
 | _,_,.sl k,v,h=>by
   rw[ar]at h ⊢;obtain⟨a,cap,rfl,h1,h2,h3⟩:=h;refine⟨a,cap,by rw[k.length],by rw[←k.length];exact h1,h2, ?_⟩;rcases h3 with rfl|⟨b,off,e,h3⟩
   ·left;cases k;rfl
   ·exact .inr ⟨b,off,e,cn.qx k _ _ h3⟩
 | _,_,.ay k,v,h=>by
   rw[ar]at h ⊢;obtain⟨vs,e,h1⟩:=h;exact⟨vs,e,aB.qx k _ h1⟩
theorem aB.qx:∀{as_ bs:List AV},kB as_ bs→∀vs,aB ι S w as_ vs→aB ι S w bs vs
 | _,_,.nil,vs,h=>h
 | _,_,.cons k ks,vs,h=>by
   rw[aB]at h ⊢;obtain⟨u,us,e,h1,h2⟩:=h;exact⟨u,us,e,ar.qx k _ h1,aB.qx ks _ h2⟩
theorem bE.qx:∀{as_ bs:List AV},kB as_ bs→∀b off,bE ι S w as_ b off→bE ι S w bs b off
 | _,_,.nil,b,off,h=>h
 | _,_,.cons k ks,b,off,h=>by
   rw[bE]at h ⊢;obtain⟨⟨u,h1,h2,h3⟩,h4⟩:=h;exact⟨⟨u,h1,h2,ar.qx k _ h3⟩,bE.qx ks _ _ h4⟩
theorem cn.qx:∀{sz:Nat} {as_ bs:List (List AV)},oc as_ bs→∀b off,cn ι S w sz as_ b off→cn ι S w sz bs b off
 | _,_,_,.nil,b,off,h=>h
 | sz,_,_,.cons k ks,b,off,h=>by
   rw[cn]at h ⊢;obtain⟨h1,h2,h3⟩:=h;exact⟨by rw[←k.length];exact h1,bE.qx k _ _ h2,cn.qx ks _ _ h3⟩
end
variable [Laid]
def bn.qx{args:List AV}(c:bn P f args r)(d:zT r r')(p:Pure r'):bn P f args r':=by
 obtain⟨pa,pr,c⟩:=c;refine⟨pa,p, ?_⟩;intro base ι S w vs h1 h2;refine (c base ι S w vs h1 h2).mono ?_;rintro e w' ⟨v,ι',S',r2,h',e1,e2,e3,e4,e5,rfl⟩;exact⟨v,ι',S',r',h',e1,e2,ar.qx d v e3,e4,e5,rfl⟩
end
section
open Go
section
variable {h:aa} {K:AV→aa→Prop}
theorem vK:∀(b p a:List AV),a.length=b.length→bX (p++a) p.length b=p++b
 | [],p,a,h=>by simp at h;subst h;rfl
 | c:: b,p,x:: a,h=>by
   rw[bX];have e:(p++x:: a).set p.length c=(p++[c])++a:=by simp
   have:=vK b (p++[c]) a (by simpa using h);rw[e,show p.length+1=(p++[c]).length by simp,this];simp
def kY(h:a.length=b.length):bX a 0 b=b:=by simpa using vK b [] a h
def Tc{e sz bytes:Nat}{rows:List (List AV)}(ex:x=.emp)(hs:jA h sz y=some rows)(hr:rows.all (dy sz)=true)(hm:jG bytes rows.length)(q:K (.sb h.length sz rows) (h++[.tok e sz rows.length])):bR false e sz bytes x y h K:=by
 subst ex;unfold bR eI;rw[hs];exact⟨hr,hm,q⟩
def D6{own:Bool}{e sz bytes id k:Nat}{base rows:List (List AV)}(ex:x=.sb id sz base)(ht:h[id]?=some (.tok e sz k))(hk:k=base.length)(hs:jA h sz y=some rows)(hr:rows.all (dy sz)=true)(hm:jG bytes (k+rows.length))(q:K (.sb id sz (base++rows)) (h.set id (.tok e sz (k+rows.length)))):bR own e sz bytes x y h K:=by
 subst ex;unfold bR eI;rw[hs];refine⟨hr, ?_⟩;simp only[w9];rw[ht];exact⟨by simp[hk],hm,q⟩
def Td{own:Bool}{e sz bytes id len:Nat}{cells:List AV}{rows:List (List AV)}(ex:x=.own id 0 len sz)(hb:h[id]?=some (.ak ⟨e,cells,true⟩))(hl:len*sz≤cells.length)(hp:0<len)(hs:jA h sz y=some rows)(hr:rows.all (dy sz)=true)(hm:jG bytes (len+rows.length))
 (q:K (.own h.length 0 (len+rows.length) sz) (h.set id .dead++[.ak ⟨e,cells.take (len*sz)++rows.flatten,true⟩])):bR own e sz bytes x y h K:=by
 subst ex;unfold bR eI;rw[hs];refine⟨hr, ?_⟩;simp only[w9];rw[hb];exact⟨by simp[hl],by omega,hm,q⟩
def jm{m id off len:Nat}{K:AV→Prop}{n:Nat}(ex:x=.own id off len m)(ei:i=i_ n)(hn:n<len)(q:K (.op id (off+n*m))):aI m x i K:=by
 subst ex;subst ei;exact⟨rfl,⟨by omega,by omega⟩,by simpa using q⟩
section
variable {h':aa} {n:Nat}
def Ug{e sz bytes k:Nat}{rows:List (List AV)}(ex:x=.emp)(hs:jA h sz y=some rows)(hr:rows.all (dy sz)=true)(hk:rows.length=k)(hm:jG bytes k)(hn:h.length=n)(hh:h++[.tok e sz k]=h')(q:K (.sb n sz rows) h'):bR false e sz bytes x y h K:=by
 subst hn;subst hh;subst hk;exact Tc ex hs hr hm q
def A4{own:Bool}{e sz bytes id k:Nat}{base rows:List (List AV)}(ex:x=.sb id sz base)(ht:h[id]?=some (.tok e sz k))(hk:k=base.length)(hs:jA h sz y=some rows)(hr:rows.all (dy sz)=true)(hm:jG bytes (k+rows.length))(hh:h.set id (.tok e sz (k+rows.length))=h')(q:K (.sb id sz (base++rows)) h'):bR own e sz bytes x y h K:=by
 subst hh;exact D6 ex ht hk hs hr hm q
def La{own:Bool}{e sz bytes id len:Nat}{cells:List AV}{rows:List (List AV)}(ex:x=.own id 0 len sz)(hb:h[id]?=some (.ak ⟨e,cells,true⟩))(hl:len*sz≤cells.length)(hp:0<len)(hs:jA h sz y=some rows)(hr:rows.all (dy sz)=true)(hm:jG bytes (len+rows.length))(hn:h.length=n)
 (hh:h.set id .dead++[.ak ⟨e,cells.take (len*sz)++rows.flatten,true⟩]=h') (q:K (.own n 0 (len+rows.length) sz) h'):bR own e sz bytes x y h K:=by
 subst hn;subst hh;exact Td ex hb hl hp hs hr hm q
def bT{cs:List AV}(hv:bh v=cs)(e:cs.all bG=true)(hn:h.length=n)(hh:h++[.ak ⟨t,cs,true⟩]=h')(q:K (.op n 0) h'):aV t v h K:=by
 subst hv;subst hn;subst hh;exact fo e q
def aU{sz id o:Nat}{cs:List AV}{KS:aa→Prop}(e:x=.op id o)(hb:h[id]?=some (.ak b))(hw:b.wr=true)(hv:bh v=cs)(hl:o+cs.length≤b.cells.length)(hz:cs.length=sz)(hs:cs.all bG=true)
 (hh:h.set id (.ak ⟨b.ty,bX b.cells o cs,b.wr⟩)=h') (q:KS h'):ao sz x v h KS:=by
 subst hh;exact dT e hb hw hv hl hz hs q
end
def gM{sz:Nat}{rows:List (List AV)}:jA h sz (.sl sz rows)=some rows:=by simp[jA,ni]
def FT{sz id off len:Nat}(hb:h[id]?=some (.ak b))(hl:off+len*sz≤b.cells.length):jA h sz (.own id off len sz)=some (chunks sz len (b.cells.drop off)):=by
 rw[FR,hb];simp[hl]
def VM{rows:List (List AV)}{K:AV→Prop}(ex:x=.sl n rows)(hl:1≤rows.length)(q:K (.sl n (rows.drop 1))):lr n x (some (i_ 1)) none K:=by
 subst ex;rw[Pb];simp only[eX];refine⟨by simp,⟨by omega,by omega,by omega⟩, ?_⟩;simpa using q
end
def ME{cs:List AV}{K:AV→Prop}(e:x=.ip cs)(hn:n≤cs.length)(q:K (.agg (cs.take n))):ah true n x h K:=by
 subst e;rw[Hr];exact⟨hn,q⟩
def Rv{d id sz:Nat}{rows:List (List AV)}(p:cG rows):tl 0 h d (.sb id sz rows)=.sl sz rows:=by
 cases d<;>simp[tl,eP,zM _ _ _ _ p]
def mr(p:Aw.Pure a):tl 0 h d a=a:=by
 cases d<;>exact zL _ _ _ _ p
theorem pD{sz:Nat}:∀rows:List (List AV),rows.all (dy sz)=true→chunks sz rows.length rows.flatten=rows
 | [],_=>rfl
 | r:: rows,h=>by
   simp only[abg,NO,dy,beq_iff_eq]at h;rw[aaP,abq,chunks];have hr:=h.1.1;rw[abt (by omega),MK (by omega),List.drop_append_of_le_length (by omega),List.drop_of_length_le (by omega),List.nil_append,pD rows (by simpa[dy]using h.2)]
def F7{d id len sz:Nat}{cells:List AV}(hb:h[id]?=some (.ak b))(hc:b.cells=cells)(hl:len*sz≤cells.length):tl 0 h (d+1) (.own id 0 len sz)=.sl sz ((chunks sz len cells).map (List.map (tl 0 h d))):=by
 subst hc;simp only[tl,eP];rw[if_neg (by omega),hb];simp only[aa4,List.drop_zero];rw[if_pos hl]
def Ch{α:Type}{f:α→List AV}{sz:Nat}(hf:∀x,(f x).length=sz∧(f x).all bG=true)(l:List α):(l.map f).all (dy sz)=true:=by
 rw[List.all_map,At];intro x _;simp only[Function.comp,dy,NO,beq_iff_eq];exact hf x
end
end Go.Aw
namespace Go.Proofs.YtpcnidmmkknndaaGreatDoor
section
open Go Go.Aw
abbrev n8(n:Nat):AV:=.v (.int .u8 (Int.ofNat n))
def RC(tb:AV)(ts:Nat)(m:List Nat):List AV:=.str []:: i_ 0:: .str []:: .v (.pointer none):: tb:: i_ ts:: m.map n8
def HR(tb:AV)(ts:Nat)(m:List Nat)(t:aa):aa:=e0:: e1:: .ak (tE 0 1 (.v .nilIface) keys):: .ak ⟨252,RC tb ts m,true⟩:: t
abbrev wA:AV:=.v (.slice none 0 0)
abbrev mh:AV:=.v (.pointer none)
def T4:List (List UInt8):=[[13,10],[13],[12],[0]]
def YH:List (List UInt8):=[[10],[10],[10],[239,191,189]]
def fl(m:List Nat)(s:List UInt8):List Nat:=s.foldl (fun m b=>m.set b.toNat 1) m
def mK(k:Nat):List Nat:=(T4.take k).foldl fl (List.replicate 256 0)
theorem ED:∀(s:List UInt8) (m:List Nat),(fl m s).length=m.length
 | [],_=>rfl
 | b:: s,m=>by
   have:=ED s (m.set b.toNat 1);rw[aa1]at this;exact this
def E6:∀k,(mK k).length=256:=by
 have:∀(l:List (List UInt8)) (m:List Nat),(l.foldl fl m).length=m.length:=by
  intro l;induction l with
  | nil=>intro _;rfl
  | cons s l ih=>intro m;exact (ih _).trans (ED s m)
 intro k;exact (this _ _).trans (by simp)
def U6{tb:AV}{ts n v:Nat}:bX (RC tb ts m) (6+n) [n8 v]=RC tb ts (m.set n v):=by
 show (RC tb ts m).set (6+n) (n8 v)=_;unfold RC;rw[Nat.add_comm,List.map_set];rfl
def zY{tb:AV}{ts:Nat}:(RC tb ts m).length=m.length+6:=by unfold RC;simp
def Jo{K:AV→Prop}{i:Nat}(h:[[AV.str [13,10]],[.str [10]],[.str [13]],[.str [10]],[.str [12]],[.str [10]],[.str [0]],[.str [239,191,189]]][i]?=some [.str s])(k:K (.ip [.str s])):aI 1 keys (i_ i) K:=by
 have hi:=(eQ.1 h).1;refine⟨rfl,⟨by omega, ?_⟩, ?_⟩
 ·show (i:Int)<8;simp at hi;omega
 ·show K (.ip (([[AV.str [13,10]],[.str [10]],[.str [13]],[.str [10]],[.str [12]],[.str [10]],[.str [0]],[.str [239,191,189]]]:List (List AV)).getD (i:Int).toNat []));rw[Mk,nE,h];exact k
def Ph(k:Nat)(h:k<4):∃y v,T4[k]?=some y∧YH[k]?=some v∧[[AV.str [13,10]],[.str [10]],[.str [13]],[.str [10]],[.str [12]],[.str [10]],[.str [0]],[.str [239,191,189]]][2*k]?=some [.str y]∧[[AV.str [13,10]],[.str [10]],[.str [13]],[.str [10]],[.str [12]],[.str [10]],[.str [0]],[.str [239,191,189]]][2*k+1]?=some [.str v]∧y.length≤2:=by
 match k,h with
 | 0,_|1,_|2,_|3,_=>exact⟨_,_,rfl,rfl,rfl,rfl,by decide⟩
def KP{K:AV→Prop}{j:Nat}(h:s[j]?=some b)(k:K (n8 b.toNat)):eD (.str s) (i_ j) K:=by
 have hj:=(eQ.1 h).1;refine⟨⟨by omega,by omega⟩, ?_⟩;rw[Mk,nE,h];exact k
def DE{K:AV→Prop}(k:K (i_ 8)):bq keys K:=fun _=>k
def YD{K:AV→Prop}{id o:Nat}(h:n<256)(k:K (.op id (o+n))):eU 256 1 (.op id o) (n8 n) K:=⟨⟨Int.natCast_nonneg n,by show (n:Int)<256;omega⟩,by show K (.op id (o+(n:Int).toNat*1));rw[Mk,Nat.mul_one];exact k⟩
def TS{K:AV→Prop}{id o:Nat}(h:n<256)(k:K (.op id (o+n))):eU 256 1 (.op id o) (i_ n) K:=⟨⟨Int.natCast_nonneg n,by show (n:Int)<256;omega⟩,by show K (.op id (o+(n:Int).toNat*1));rw[Mk,Nat.mul_one];exact k⟩
def JH{tb:AV}{ts n v:Nat}{KS:aa→Prop}(hm:m.length=256)(hn:n<256)(k:KS (HR tb ts (m.set n v) t)):ao 1 (.op 3 (6+n)) (n8 v) (HR tb ts m t) KS:=
 aU (cs:=[n8 v]) (h':=HR tb ts (m.set n v) t) rfl (by rfl) rfl rfl (by show 6+n+1≤(RC tb ts m).length;rw[zY];omega) rfl rfl (by show e0:: e1:: _:: .ak ⟨_,bX (RC tb ts m) (6+n) [n8 v],true⟩:: t=_;rw[U6];rfl) k
abbrev nr(v:List UInt8)(p:Int)(pre:List UInt8)(nx:AV):aK:=.ak ⟨250,[.str v,i_ p,.str pre,nx,wA],true⟩
def HT(tbl:List AV)(t:aa):aa:=HR (.own 4 0 4 1) 4 ft (.ak ⟨247,tbl,true⟩:: t)
def kx{id o off:Nat}{K:AV→Prop}(k:K (.op id (o+off))):ca P (.op id o) fun a=>bg off a K:=k
def Uc(b:UInt8):ft[b.toNat]?=some (ft.getD b.toNat 0):=by
 have:ft.length=256:=by kernel_rfl
 rw[dO (by have:=b.toNat_lt;omega),nE,dO (by have:=b.toNat_lt;omega)];rfl
section
variable [Laid]
def qZ{args:List AV}{K0 K:AV→aa→Prop}(hb:dw P f=true)(c:bW P f args h K0)(k:∀r h',K0 r h'→K r h'):bx P (.fn (.func f) [] []) args h K:=⟨hb,by simpa using c.mono k⟩
abbrev zR(n:Nat)(k v:List UInt8)(p:Int)(h h':aa):Prop:=bW p_ 194 [.op n 0,.str k,.str v,i_ p,.op 3 0] h fun r H=>r=.ay []∧H=h'
def uS{v v0 pre:List UInt8}{nx:AV}(hn:h[n]?=some (nr v0 0 pre nx))(hh:h.set n (nr v p pre nx)=h'):zR n [] v p h h':=by
 subst hh;have hlt:=(eQ.1 hn).1;refine (Mz _ _ _ _ _).bJ ?_;unfold IL;refine zzI (zzL rfl (kx (zzU hn rfl (zzG (zzL rfl (kx (aU (cs:=[.str v]) (h':=h.set n (nr v 0 pre nx)) rfl hn rfl rfl (lT rfl) rfl rfl rfl (kx ?_))))))));refine aU (cs:=[i_ p]) (h':=h.set n (nr v p pre nx)) rfl (iD hlt) rfl rfl (lT rfl) rfl rfl (by rw[aa0];rfl) ?_;exact⟨_,_,Wk.refl _ _ _ (by simp),rfl,rfl⟩
def Kg(hn:h[n]?=some (nr v0 p0 [] mh))(hl:h.length=m)(hh:h.set n (nr v0 p0 [c] (.op m 0))++[nr v p [] mh]=h'):zR n [c] v p h h':=by
 subst hh;subst hl;have hlt:=(eQ.1 hn).1;refine (Mz _ _ _ _ _).bJ ?_;unfold IL;refine zzI (zzK (by simp) (kx (zzU hn rfl (zzJ (zzK rfl (kx (zzU hn rfl (zzK rfl (kx (aU (cs:=[.str [c]]) (h':=h.set n (nr v0 p0 [c] mh)) rfl hn rfl rfl (lT rfl) rfl rfl rfl (bT (cs:=[.str [],i_ 0,.str [],mh,wA]) (n:=h.length) (h':=h.set n (nr v0 p0 [c] mh)++[nr [] 0 [] mh]) rfl rfl (by simp) rfl (kx ?_))))))))))));refine aU (cs:=[.op h.length 0]) (h':=h.set n (nr v0 p0 [c] (.op h.length 0))++[nr [] 0 [] mh]) rfl (by rw[gO (by simpa using hlt),iD hlt]) rfl rfl (lT rfl) rfl rfl (by rw[IN _ _ (by simpa using hlt),aa0];rfl) ?_;refine kx ?_;refine zzU (by rw[gO (by simpa using hlt),iD hlt]) rfl ?_;refine qZ (by kernel_rfl) (uS (v:=v) (p:=p) (pre:=[]) (nx:=mh) (v0:=[]) (h':=h.set n (nr v0 p0 [c] (.op h.length 0))++[nr v p [] mh]) (by rw[gT (by simp)];simp) (by rw[IF _ _ (by simp)];simp)) ?_;rintro _ _ ⟨rfl,rfl⟩;exact⟨_,_,Wk.refl _ _ _ (by simp),rfl,rfl⟩
omit [Laid] in
def T5{tbl:List AV}{t:aa}{b:UInt8}{K:AV→Prop}(k:K (n8 (ft.getD b.toNat 0))):ah false 1 (.op 3 (6+b.toNat)) (HT tbl t) K:=by
 refine zzU (b:=⟨252,RC (.own 4 0 4 1) 4 ft,true⟩) rfl ?_ k;show (RC (.own 4 0 4 1) 4 ft)[6+b.toNat]?=_;unfold RC;rw[Nat.add_comm,show b.toNat+6=b.toNat+1+1+1+1+1+1 from rfl];simp only[List.getElem?_cons_succ];rw[iN,Uc];rfl
def uT{b:UInt8}{r v:List UInt8}{p:Int}{m:Nat}{tbl tbl':List AV}{t t':aa}{h':aa}{n:Nat}(hm:ft.getD b.toNat 0=m)(h4:m<4)(hl:tbl.length=4)(hc:(tbl[m]?=some mh∧n=5+t.length∧tbl'=tbl.set m (.op n 0)∧t'=t++[nr [] 0 [] mh])∨(tbl[m]?=some (.op n 0)∧tbl'=tbl∧t'=t))
 (ha:zR n r v p (HT tbl' t') h') (hh:5+t.length≤h'.length):zR 3 (b:: r) v p (HT tbl t) h':=by
 have hlen:(HT tbl t).length=5+t.length:=by unfold HT HR;simp only[aaP];omega
 refine (Mz _ _ _ _ _).bJ ?_;unfold IL;have e3:∀(tbl:List AV) (t:aa),(HT tbl t)[3]?=some (.ak ⟨252,RC (.own 4 0 4 1) 4 ft,true⟩):=fun _ _=>rfl;have e4:∀(tbl:List AV) (t:aa),(HT tbl t)[4]?=some (.ak ⟨247,tbl,true⟩):=fun _ _=>rfl;refine zzI (zzK (by simp) (kx (zzU (e3 _ _) rfl (zzJ (zzK rfl (kx (zzU (e3 _ _) rfl (zzL rfl (KP (j:=0) rfl (kx (YD b.toNat_lt (T5 ?_))))))))))));rw[hm];have ix:∀{K:AV→Prop},K (.op 4 m)→aI 1 (.own 4 0 4 1) (n8 m) K:=fun {K} k=>⟨rfl,⟨Int.natCast_nonneg m,by show (m:Int)<4;omega⟩,by show K (.op 4 (0+(m:Int).toNat*1));rw[Mk,aa4,Nat.mul_one];exact k⟩;have fin:(tbl'[m]?=some (.op n 0))→ca p_ (.op 3 0) fun v163=>bg 4 v163 fun v164=>ah false 1 v164 (HT tbl' t') fun v165=>aI 1 v165 (n8 m) fun v166=>ah false 1 v166 (HT tbl' t') fun v167=>eV (.str (b:: r)) (some (i_ 1)) none fun v168=>bx p_ (.fn (.func 194) [] []) [v167,v168,.str v,i_ p,.op 3 0] (HT tbl' t') fun _ g170=>∃r' h'',Wk (HT tbl t).length [.ay []] g170 [r'] h''∧r'=.ay []∧h''=h':=by
  intro hx;refine kx (zzU (e3 _ _) rfl (ix (zzU (e4 _ _) hx ?_)));have sl:∀{K:AV→Prop},K (.str r)→eV (.str (b:: r)) (some (i_ 1)) none K:=fun {K} k=>by
   unfold eV;refine⟨⟨by decide,by simp only[aaP];omega,by simp⟩, ?_⟩;have e:(((b:: r).take ((b:: r).length:Int).toNat).drop (1:Int).toNat)=r:=by rw[Mk,BY];rfl
   exact (congrArg K (congrArg AV.str e)).mpr k
  refine sl (qZ (by kernel_rfl) ha ?_);rintro _ _ ⟨rfl,rfl⟩;exact⟨_,_,Wk.refl _ _ _ (by rw[hlen];exact hh),rfl,rfl⟩
 refine aF (kx (zzU (e3 _ _) rfl (ix ?_)));rcases hc with⟨hx,rfl,rfl,rfl⟩|⟨hx,rfl,rfl⟩
 ·refine zzU (e4 _ _) hx (zzL rfl (kx (zzU (e3 _ _) rfl (bT (cs:=[.str [],i_ 0,.str [],mh,wA]) (n:=5+t.length) (h':=HT tbl (t++[nr [] 0 [] mh])) rfl rfl hlen rfl (ix (aU (cs:=[.op (5+t.length) 0]) (h':=HT (tbl.set m (.op (5+t.length) 0)) (t++[nr [] 0 [] mh])) rfl (e4 _ _) rfl rfl (by show m+1≤tbl.length;omega) rfl rfl rfl (aq ?_)))))));exact fin (iD (by omega))
 ·refine zzU (e4 _ _) hx (zzK rfl (aq ?_));exact fin hx
end
def uH(k:Nat):List AV:=[if k=4 then .op 8 0 else mh,mh,if 3≤k then .op 7 0 else mh,if 1≤k then .op 5 0 else mh]
def wD(k:Nat):aa:=(if 1≤k then [nr (if 2≤k then [10] else []) (if 2≤k then 6 else 0) [10] (.op 6 0),nr [10] 8 [] mh] else [])++(if 3≤k then [nr [10] 4 [] mh] else [])++(if k=4 then [nr [239,191,189] 2 [] mh] else [])
def wQ(i:Nat):List Nat:=ft.take i++(mK 4).drop i
def Hi(hi:i<256)(hv:ft.getD i 0=v):(wQ i).set i v=wQ (i+1):=by
 have h1:ft.length=256:=by kernel_rfl
 have h2:=E6 4;have e:ft[i]?=some v:=by rw[dO (by omega)];rw[nE,dO (by omega)]at hv;exact congrArg some hv
 have hl:(ft.take i).length=i:=by rw[aaW];omega
 unfold wQ;rw[IF _ _ (by omega),hl,Nat.sub_self,abo (by omega),List.set_cons_zero,By,e];simp
def TE:∀i,i<256→ft.getD i 0=if (mK 4).getD i 0=0 then 4 else ((mK 4).take i).sum:=fun i hi=>by
 have:=At.1 (show ((List.range 256).all fun i=>ft.getD i 0 == if (mK 4).getD i 0=0 then 4 else ((mK 4).take i).sum)=true by kernel_rfl) i (by simpa using hi);simpa using this
def L4:∀i,i≤256→((mK 4).take i).sum≤4∧(mK 4).getD i 0≤1:=fun i hi=>by
 have:=At.1 (show ((List.range 257).all fun i=>decide (((mK 4).take i).sum≤4∧(mK 4).getD i 0≤1))=true by kernel_rfl) i (by simp;omega);simpa using this
def F0{m:List Nat}{i:Nat}(h:i<m.length):(m.take (i+1)).sum=(m.take i).sum+m.getD i 0:=by
 rw[By,dO h,Option.toList_some,List.sum_append,List.sum_cons,List.sum_nil,nE,dO h];rfl
def Pc{m:List Nat}{i:Nat}{K:AV→Prop}(hm:m.length=256)(hi:i<256)(k:K (n8 (m.getD i 0))):mM false 1 256 (.agg (m.map n8)) (i_ i) K:=by
 refine⟨⟨by omega,by show (i:Int)<256;omega⟩, ?_⟩;rw[Mk,Nat.mul_one,abo (by rw[aaQ];omega),List.getElem_map];have e:m.getD i 0=m[i]:=by rw[nE,dO (by omega)];rfl
 rw[←e];exact k
def Kh{K:AV→Prop}(hm:k.wrap n=m)(q:K (.v (.int k m))):cy k (.v (.int k' n)) K:=by subst hm;exact⟨k',n,rfl,q⟩
def Tt{K:AV→Prop}(h:n<255)(q:K (n8 (n+1))):ag .add (n8 n) (u8 1) K:=by
 refine⟨rfl, ?_⟩;show K (.v (.int .u8 (IntKind.wrap .u8 ((n:Int)+1))));rw[IntKind.wrap_u8,show ((n:Int)+1)%256=((n+1:Nat):Int) by omega];exact q
section
variable [Laid]
omit [Laid] in
def KY{tb:AV}{ts:Nat}{K:AV→Prop}(hm:m.length=256)(k:K (.agg (m.map n8))):ah true 256 (.op 3 6) (HR tb ts m t) K:=by
 refine zzV (b:=⟨252,RC tb ts m,true⟩) rfl (by show 256≤((RC tb ts m).drop 6).length;rw[List.length_drop,zY];omega) ?_;show K (.agg ((m.map n8).take 256));rw[MK (by rw[aaQ];omega)];exact k
omit [Laid] in
def WK{tb:AV}{ts v:Nat}{KS:aa→Prop}(k:KS (HR tb v m t)):ao 1 (.op 3 5) (i_ v) (HR tb ts m t) KS:=
 aU (cs:=[i_ v]) (h':=HR tb v m t) rfl rfl rfl rfl (by show 6≤(RC tb ts m).length;rw[zY];omega) rfl rfl rfl k
omit [Laid] in
def lp{tb:AV}{ts:Nat}:(HR tb ts m t).length=4+t.length:=by unfold HR;simp only[aaP];omega
omit [Laid] in
def TR{K:AV→Prop}(k:K (i_ 8)):iZ keys K:=k
omit [Laid] in
def TI(k:Nat):(HT (uH 0) (wD 0)).length≤(HT (uH k) (wD k)).length:=by
 unfold HT;rw[lp,lp,aaP,aaP];exact Nat.add_le_add_left (Nat.succ_le_succ (aa2 _)) 4
def VN:∀k:Nat,k<4→∀{y v:List UInt8},T4[k]?=some y→YH[k]?=some v→zR 3 y v (8-2*(k:Int)) (HT (uH k) (wD k)) (HT (uH (k+1)) (wD (k+1))):=fun k h y v hy hv=>by
 match k,h with
 | 0,_ =>
   cases hy;cases hv;exact uT (m:=3) (n:=5) (tbl:=uH 0) (t:=[]) rfl (by decide) rfl (.inl ⟨rfl,rfl,rfl,rfl⟩) (Kg (n:=5) (m:=6) (v0:=[]) (p0:=0) rfl rfl rfl) (by decide)
 | 1,_ =>
   cases hy;cases hv;exact uT (m:=3) (n:=5) (tbl:=uH 1) (t:=wD 1) rfl (by decide) rfl (.inr ⟨rfl,rfl,rfl⟩) (uS (v0:=[]) (pre:=[10]) (nx:=.op 6 0) rfl rfl) (by decide)
 | 2,_ =>
   cases hy;cases hv;exact uT (m:=2) (n:=7) (tbl:=uH 2) (t:=wD 2) rfl (by decide) rfl (.inl ⟨rfl,rfl,rfl,rfl⟩) (uS (v0:=[]) (pre:=[]) (nx:=mh) rfl rfl) (by decide)
 | 3,_ =>
   cases hy;cases hv;exact uT (m:=0) (n:=8) (tbl:=uH 3) (t:=wD 3) rfl (by decide) rfl (.inl ⟨rfl,rfl,rfl,rfl⟩) (uS (v0:=[]) (pre:=[]) (nx:=mh) rfl rfl) (by decide)
def MP:bW p_ 163 [keys] (Hb 1) fun r H=>r=.op 3 0∧H=HT (uH 4) (wD 4):=by
 refine (Zj _).bJ ?_;unfold SJ;refine bT (cs:=RC wA 0 (mK 0)) (n:=3) (h':=HR wA 0 (mK 0) []) (by rfl) (by rfl) rfl rfl (aZ (α:=Nat) (fun k=>k≤4) (fun k=>[i_ ((2*k:Nat):Int)]) (fun k=>HR wA 0 (mK k) []) (fun k=>4-k) 0 (aa2 _) (Wk.refl _ _ _ (bY _)) ?_);intro k hk;refine DE (zzC ?_);rcases uP k 4 with q|q
 ·obtain⟨y,v,hy,hv,h1,_,hl⟩:=Ph k q;refine zzL (oF (by omega)) (Jo h1 (zzW ?_));have hm:=E6 k;have hlen:∀j,(fl (mK k) (y.take j)).length=256:=fun j=>by rw[ED];exact hm
  refine aZ (α:=Nat) (fun j=>j≤y.length) (fun j=>[i_ j]) (fun j=>HR wA 0 (fl (mK k) (y.take j)) []) (fun j=>y.length-j) 0 (aa2 _) (Wk.refl _ _ _ (bY _)) ?_;intro j hj;refine zzZ fun _=>?_;refine zzC ?_;rcases uP j y.length with z|z
  ·obtain⟨b,hb⟩:∃b,y[j]?=some b:=⟨_,dO z⟩;refine zzL (oF (by omega)) (KP hb (kx (YD b.toNat_lt (JH (v:=1) (hlen j) b.toNat_lt (zzP (by unfold aJ;omega) (aq ?_))))));refine⟨j+1,z, ?_,by omega⟩;have e:fl (mK k) (y.take (j+1))=(fl (mK k) (y.take j)).set b.toNat 1:=by
    rw[By,hb];unfold fl;rw[aa6];rfl
   rw[e];exact Wk.refl _ _ _ (by rw[lp,lp];exact bY _)
  ·obtain rfl:j=y.length:=by omega
   refine zzK (by simp) (zzP (by unfold aJ;omega) (aq ?_));refine⟨k+1,q, ?_,by omega⟩;have e:mK (k+1)=fl (mK k) (y.take y.length):=by
    unfold mK;rw[By,hy,aa6,BY];rfl
   rw[e,show (2*(k+1):Nat)=2*k+2 from rfl];exact Wk.refl _ _ _ (by rw[lp,lp];exact bY _)
 obtain rfl:k=4:=by omega
 refine zzK rfl ?_;have hm:=E6 4;refine kx (KY hm (aZ (α:=Nat) (fun i=>i≤256) (fun i=>[i_ i]) (fun i=>HR wA ((mK 4).take i).sum (mK 4) []) (fun i=>256-i) 0 (aa2 _) (Wk.refl _ _ _ (bY _)) ?_));intro i hi;refine zzC ?_;rcases uP i 256 with q|q
 ·have s1:=L4 i hi;refine zzL (oF (by show (i:Int)<256;omega)) (Pc hm q (kx (zzU rfl rfl (Kh (m:=(((mK 4).getD i 0:Nat):Int)) (by rw[IntKind.wrap_i64];show ((((mK 4).getD i 0:Nat):Int)+9223372036854775808)%18446744073709551616-9223372036854775808=_;omega) (zzP (by unfold aJ;omega) (kx ?_))))));have e:=F0 (m:=mK 4) (i:=i) (by omega);rw[show (((mK 4).take i).sum:Int)+(((mK 4).getD i 0:Nat):Int)=(((mK 4).take (i+1)).sum:Int) by rw[e];omega];refine WK (zzP (by unfold aJ;omega) (aq ?_));exact⟨i+1,q,Wk.refl _ _ _ (by rw[lp,lp];exact bY _),by omega⟩
 obtain rfl:i=256:=by omega
 refine zzK rfl ?_;rw[show ((mK 4).take 256).sum=4 by kernel_rfl];refine kx (KY hm ?_);have f0:wQ 0=mK 4:=rfl;have fl8:∀i,i≤256→(wQ i).length=256:=fun i hi=>by
  have h1:ft.length=256:=by kernel_rfl
  unfold wQ;rw[AT,aaW,List.length_drop];omega
 refine aZ (α:=Nat) (fun i=>i≤256) (fun i=>[n8 ((mK 4).take i).sum,i_ i]) (fun i=>HR wA 4 (wQ i) []) (fun i=>256-i) 0 (aa2 _) (by rw[f0];exact Wk.refl _ _ _ (bY _)) ?_;intro i hi;refine zzC ?_;rcases uP i 256 with q|q
 ·have s1:=L4 i hi;have s2:=TE i q;have e:=F0 (m:=mK 4) (i:=i) (by omega);refine zzL (oF (by show (i:Int)<256;omega)) (aF (Pc hm q (zzG ?_)))
  by_cases z:(mK 4).getD i 0=0
  ·rw[if_pos z]at s2;refine zzL (by rw[z];rfl) (kx (zzU rfl rfl (Kh (m:=4) rfl (kx (TS q (JH (v:=4) (fl8 i hi) q (aq (zzP (by unfold aJ;omega) (aq ?_)))))))));refine⟨i+1,q, ?_,by omega⟩;rw[Hi q s2,e,z];exact Wk.refl _ _ _ (by rw[lp,lp];exact bY _)
  ·rw[if_neg z]at s2;refine zzK (nO (by show ¬(((mK 4).getD i 0:Nat):Int)=0;omega)) (kx (TS q (JH (fl8 i hi) q (Tt (by omega) (aq (zzP (by unfold aJ;omega) (aq ?_)))))));refine⟨i+1,q, ?_,by omega⟩;rw[Hi q s2,e,show (mK 4).getD i 0=1 by omega];exact Wk.refl _ _ _ (by rw[lp,lp];exact bY _)
 obtain rfl:i=256:=by omega
 have f1:wQ 256=ft:=by kernel_rfl
 rw[f1];refine zzK rfl (kx (zzU rfl rfl ?_));refine⟨⟨by decide,by decide,by decide,by decide⟩, ?_⟩;refine kx (zzA (aU (cs:=[.own 4 0 4 1]) (h':=HT (uH 0) (wD 0)) rfl rfl rfl rfl (by show 5≤(RC wA 4 ft).length;rw[zY];omega) rfl rfl rfl (aZ (α:=Nat) (fun k=>k≤4) (fun k=>[i_ ((2*k:Nat):Int)]) (fun k=>HT (uH k) (wD k)) (fun k=>4-k) 0 (aa2 _) (Wk.refl _ _ _ (by decide)) ?_)));intro k hk;refine DE (zzC ?_);rcases uP k 4 with q|q
 ·obtain⟨y,v,hy,hv,h1,h2,_⟩:=Ph k q;refine zzL (oF (by omega)) (kx (Jo h1 (zzW (zzP (by unfold aJ;omega) (Jo h2 (zzW (TR (zze (by unfold aJ;omega) (qZ (by kernel_rfl) (VN k q hy hv) ?_)))))))));rintro _ _ ⟨rfl,rfl⟩;refine zzP (by unfold aJ;omega) (aq ?_);refine⟨k+1,q, ?_,by omega⟩;rw[show (2*(k+1):Nat)=2*k+2 from rfl];exact Wk.refl _ _ _ (TI _)
 ·obtain rfl:k=4:=by omega
  refine zzK rfl ?_;exact⟨_,_,Wk.refl _ _ _ (by decide),rfl,rfl⟩
def MH:bW p_ 93 [.op 2 0] (Hb 1) fun r hh=>r=.ay []∧hh=Ha 0 1:=by
 refine (V93 _).bJ ?_;unfold Yv;have hb:bW p_ 131 [.op 2 0] (Hb 1) fun r hh=>r=.ib 212 (.op 3 0)∧hh=HT (uH 4) (wD 4):=by
  refine (Y6 _).bJ ?_;unfold Sw;refine kx (zzU rfl rfl (DE (zzG (aF (zzM rfl (aq (zzQ (zzK rfl (aZ (α:=Unit) (fun _=>True) (fun _=>[tt,i_ 0]) (fun _=>Hb 1) (fun _=>0) () trivial (Wk.refl _ _ _ (by decide)) ?_)))))))));intro _ _;refine DE (zzC (zzL rfl (aF (Jo (i:=0) (s:=[13,10]) rfl (zzW ?_)))));refine zzZ fun _=>?_;refine zzH (zzL rfl (qZ (by kernel_rfl) MP ?_));rintro _ _ ⟨rfl,rfl⟩;exact⟨_,_,Wk.refl _ _ _ (by decide),rfl,rfl⟩
 refine qZ (by kernel_rfl) hb ?_;rintro _ _ ⟨rfl,rfl⟩;refine kx (aU (cs:=[.ib 212 (.op 3 0)]) (h':=(HT (uH 4) (wD 4)).set 2 (.ak ⟨162,[.v (.int .u32 0),.v (.int .i32 1),.v (.int .u32 0),.ib 212 (.op 3 0),keys],true⟩)) rfl rfl rfl rfl (by decide) rfl rfl rfl (kx (aU (cs:=[wA]) (h':=Ha 0 1) rfl rfl rfl rfl (by decide) rfl rfl (by kernel_rfl) ?_)));exact⟨_,_,Wk.refl _ _ _ (by decide),rfl,rfl⟩
def PO:bW p_ 57 [] [] fun r hh=>r=.op 2 0∧hh=Hb 0:=by
 refine (V57).bJ ?_;unfold X0;have mk:∀{K:AV→aa→Prop},K (.own 0 0 8 1) [e0]→qM 9 8 1 (.str []) [(0,1,(.str [13,10])),(1,1,(.str [10])),(2,1,(.str [13])),(3,1,(.str [10])),(4,1,(.str [12])),(5,1,(.str [10])),(6,1,(.str [0])),(7,1,(.str [239,191,189]))] [] K:=fun k=>k;refine mk ?_;have hn:bW p_ 91 [.own 0 0 8 1] [e0] fun r hh=>r=.op 2 0∧hh=Hb 0:=by
  refine (V91 _).bJ ?_;unfold Yt;refine aF ?_;refine fun _=>?_;refine⟨rfl,by decide, ?_⟩;refine zzG (zzK rfl (aq ?_));have ap:∀{K:AV→aa→Prop},bR false 9 1 16 .emp (.own 0 0 8 1) [e0] K→bR false 9 1 16 wA (.own 0 0 8 1) [e0] K:=fun k=>k;refine ap (Ug (n:=1) (k:=8) (h':=[e0,e1]) rfl (FT (b:=⟨9,[.str [13,10],.str [10],.str [13],.str [10],.str [12],.str [10],.str [0],.str [239,191,189]],true⟩) rfl (by decide)) rfl rfl ⟨by decide,by decide⟩ rfl rfl (ba rfl (bT (cs:=[.v (.int .u32 0),.v (.int .i32 0),.v (.int .u32 0),.v .nilIface,keys]) (n:=2) (h':=Hb 0) rfl rfl rfl rfl ?_)));exact⟨_,_,Wk.refl _ _ _ (by decide),rfl,rfl⟩
 refine qZ (by kernel_rfl) hn ?_;rintro _ _ ⟨rfl,rfl⟩;exact⟨_,_,Wk.refl _ _ _ (aa2 _),rfl,rfl⟩
end
end
section
open Go Go.Aw
variable [Laid]
def cell_of{base:Nat}(hh:cK base ι S w h){i b:Nat}(e:h[i]?=some (.ak x))(hi:ι[i]?=some (.ak b)){o:Nat}(hc:x.cells[o]?=some c):
 ∃v,w.cell? ⟨b,o,none⟩=some v∧ar ι S w c v∧w.frozen? ⟨b,o,none⟩=false:=by
 obtain⟨b',arr,fz,k1,k2,k3,k4,k5,k6,_⟩:=hh.live i x e;rw[hi]at k1;cases k1;obtain⟨v,e1,r⟩:=k6 o c hc;refine⟨v,by rw[gb k3];exact e1,r, ?_⟩;have hlt:o<arr.size:=(AS.1 e1).1;have:=k4 o hlt;rw[pW k3];simpa using this
def MJ:bW p_ 130 [.op 2 0,.fn (.func 93) [.op 2 0] []] (Hb 0) fun r hh=>r=.ay []∧hh=Ha 1 0:=by
 intro base ι S w vs h1 h2
 match vs,h1 with
 | [],h1=>simp at h1
 | [v],h1=>simp at h1
 | v:: u:: x:: vs,h1=>simp at h1
 | [v,u],h1 =>
   simp only[bP,dt,and_true]at h1;obtain⟨r1,r2⟩:=h1;rw[ar]at r1;rw[ar]at r2;obtain⟨b,hb,rfl⟩:=r1;obtain⟨ps,qs,rfl,r3,r4⟩:=r2
   match ps,r3 with
   | [],r3=>simp at r3
   | p:: q:: ps,r3=>simp at r3
   | [p],r3 =>
     simp only[bP,dt,and_true]at r3;rw[ar]at r3;obtain⟨b',hb',rfl⟩:=r3;rw[hb]at hb';cases hb';simp only[dt]at r4;subst r4;have hx:(Hb 0)[2]?=some (.ak (tE 0 0 (.v .nilIface) keys)):=rfl;obtain⟨v0,g0,q0,z0⟩:=cell_of h2 hx hb (o:=0) (c:=.v (.int .u32 0)) rfl;obtain⟨v1,g1,q1,z1⟩:=cell_of h2 hx hb (o:=1) (c:=.v (.int .i32 0)) rfl;rw[cz]at q0 q1;subst q0;subst q1;obtain⟨hE1,hH1⟩:=h2.set hx rfl hb (o:=1) (by simp[tE]) (c:=.v (.int .i32 1)) (v:=.int .i32 1) (by simp);have hH1':cK base ι S (w.setCell ⟨b,1,none⟩ (.int .i32 1)) (Hb 1):=hH1;have hl:=h2.len;have hf:=MH base ι S _ [.pointer (some ⟨b,0,none⟩)] (by simp only[bP,dt,and_true];rw[ar];exact⟨b,hb,rfl⟩) hH1';refine (Ox b w (fun w' => ∃ι' S',bS 3 base ι S (w.setCell ⟨b,1,none⟩ (.int .i32 1)) ι' S' w'∧cK base ι' S' w' (Ha 0 1)∧ι'[2]?=some (.ak b)) g0 g1 z0 z1 (hf.mono ?_)).mono ?_
     ·rintro e w' ⟨v,ι',S',r,h',rfl,k1,k2,k3,k4,rfl,rfl⟩;rw[ar]at k2;obtain⟨us,rfl,k2⟩:=k2;simp only[dt]at k2;subst k2;have hx':(Ha 0 1)[2]?=some (.ak (tE 0 1 (.ib 212 (.op 3 0)) (.v (.slice none 0 0)))):=rfl;have hb2:ι'[2]?=some (.ak b):=by
       obtain⟨b',arr,fz,m1,_⟩:=k3.live 2 _ hx';have:=k1.pre 2 (by decide);rw[hb,m1]at this;rw[m1];simpa[fX]using this
      obtain⟨v0,g0,q0,z0⟩:=cell_of k3 hx' hb2 (o:=0) (c:=.v (.int .u32 0)) rfl;obtain⟨v1,g1,q1,z1⟩:=cell_of k3 hx' hb2 (o:=1) (c:=.v (.int .i32 1)) rfl;rw[cz]at q1;subst q1;exact⟨rfl,⟨v0,g0⟩,g1,z0,z1,ι',S',k1,k3,hb2⟩
     ·rintro e w'' ⟨rfl,w',⟨ι',S',k1,k3,hb2⟩,rfl⟩;obtain⟨d1,d2⟩:=k3.drew;have hx':(Ha 0 1)[2]?=some (.ak (tE 0 1 (.ib 212 (.op 3 0)) (.v (.slice none 0 0)))):=rfl;obtain⟨s1,s2⟩:=d2.set hx' rfl hb2 (o:=0) (by simp[tE]) (c:=.v (.int .u32 1)) (v:=.int .u32 1) (by simp);have s2':cK base ι' S' (w'.drew.setCell ⟨b,0,none⟩ (.int .u32 1)) (Ha 1 1):=s2;have hx2:(Ha 1 1)[2]?=some (.ak (tE 1 1 (.ib 212 (.op 3 0)) (.v (.slice none 0 0)))):=rfl;obtain⟨t1,t2⟩:=s2'.set hx2 rfl hb2 (o:=1) (by simp[tE]) (c:=.v (.int .i32 0)) (v:=.int .i32 0) (by simp);have t2':cK base ι' S' ((w'.drew.setCell ⟨b,0,none⟩ (.int .u32 1)).setCell ⟨b,1,none⟩ (.int .i32 0)) (Ha 1 0):=t2;have hl3:ι.length=3:=hl;have hl9:3≤ι'.length:=by rw[k3.len];decide
      have E0:bS 3 base ι S w ι S (w.setCell ⟨b,1,none⟩ (.int .i32 1)):=hE1.mono (by omega) (bY _);exact⟨_,ι',S',.ay [],Ha 1 0,rfl,((((E0.trans k1).trans (d1.mono hl9 (bY _))).trans (s1.mono hl9 (bY _))).trans (t1.mono hl9 (bY _))),by rw[ar];exact⟨[],rfl,by simp⟩,t2',by decide,rfl,rfl⟩
def MI:bW p_ 129 [.op 2 0] (Hb 0) fun r hh=>r=b_ false∧hh=Hb 0:=by
 intro base ι S w vs h1 h2
 match vs,h1 with
 | [],h1=>simp at h1
 | v:: u:: vs,h1=>simp at h1
 | [v],h1 =>
   simp only[bP,dt,and_true]at h1;rw[ar]at h1;obtain⟨b,hb,rfl⟩:=h1;have hx:(Hb 0)[2]?=some (.ak (tE 0 0 (.v .nilIface) keys)):=rfl;obtain⟨v0,g0,q0,z0⟩:=cell_of h2 hx hb (o:=0) (c:=.v (.int .u32 0)) rfl;rw[cz]at q0;subst q0;refine (C5 _ w g0).mono ?_;rintro e w' ⟨rfl,rfl⟩;exact⟨_,ι,S,b_ false,_,rfl,bS.refl _ _ _ _ _,by simp,h2,bY _,rfl,rfl⟩
def MG:bW p_ 92 [.op 2 0,.fn (.func 93) [.op 2 0] []] (Hb 0) fun r hh=>r=.ay []∧hh=Ha 1 0:=by
 refine (V92 _ _).bJ ?_;unfold Yu;simp only[nT,rT];refine⟨by kernel_rfl,MI.mono ?_⟩;rintro r hh ⟨rfl,rfl⟩;simp only[TQ,Qy];refine⟨fun _=>⟨by kernel_rfl,MJ.mono ?_⟩,fun q=>by cases q⟩;rintro r hh ⟨rfl,rfl⟩;exact⟨_,_,Wk.refl _ _ _ (by decide),rfl,rfl⟩
omit [Laid] in
def tV:rb.drop 4=.own 4 0 4 1:: rb.drop 5:=by kernel_rfl
omit [Laid] in
def tW:rb.drop 5=i_ 4:: rb.drop 6:=by kernel_rfl
omit [Laid] in
def UG:rb.length=262:=by kernel_rfl
omit [Laid] in
def UH(n:Nat)(h:n<256):rb.drop (6+n)=u8 (ft.getD n 0):: rb.drop (6+n+1):=by
 have hl:6+n<rb.length:=by rw[UG];omega
 rw[abo hl]
 congr 1
 have:ft.length=256:=by kernel_rfl
 simp[rb,show 6+n=n+1+1+1+1+1+1 by omega,this,h]
omit [Laid] in
def Ud(n:Nat)(h:n<256)(h0:n≠0)(h1:n≠12)(h2:n≠13):ft.getD n 0=4∨ft.getD n 0=1:=by
 have:=At.1 (show ((List.range 256).all fun n=>n == 0||n == 12||n == 13||ft.getD n 0 == 4||ft.getD n 0 == 1)=true by kernel_rfl) n (by simpa using h);simp only[abl,beq_iff_eq]at this;omega
end
section
open Go Go.Aw
variable [bp]
def G(x y:aK):aa:=e0:: e1:: .ak (tE 1 0 (.ib 212 (.op 3 0)) (.v (.slice none 0 0))):: .ak ⟨252,rb,true⟩:: .ak ⟨247,tb,true⟩:: (PC++[x,y])
omit [bp] in
@[simp] theorem OW(x y:aK):(G x y).length=11:=rfl
omit [bp] in
@[simp] theorem G_3(x y:aK):(G x y)[3]?=some (.ak ⟨252,rb,true⟩):=rfl
omit [bp] in
@[simp] theorem G_4(x y:aK):(G x y)[4]?=some (.ak ⟨247,tb,true⟩):=rfl
omit [bp] in
@[simp] theorem G_9(x y:aK):(G x y)[9]?=some x:=rfl
omit [bp] in
@[simp] theorem acK(x y:aK):(G x y)[10]?=some y:=rfl
omit [bp] in
@[simp] theorem acM(x y z:aK):(G x y).set 9 z=G z y:=rfl
omit [bp] in
@[simp] theorem acG(x y z:aK):(G x y).set 10 z=G x z:=rfl
omit [bp] in
def sq:rb.tail=i_ 0:: rb.drop 2:=by kernel_rfl
omit [bp] in
@[simp] theorem acL(x y:aK)(l:aa):(G x y++l)[3]?=some (.ak ⟨252,rb,true⟩):=rfl
omit [bp] in
@[simp] theorem acE(x y:aK)(l:aa):(G x y++l)[10]?=some y:=rfl
omit [bp] in
@[simp] theorem acF(x y z:aK):(G x y++[z])[11]?=some z:=rfl
omit [bp] in
@[simp] theorem aaO(x y z:aK)(l:aa):(G x y++l).set 10 z=G x z++l:=rfl
omit [bp] in
def qH(s:List UInt8):(s.map fun b=>[bf b]).flatten=s.map bf:=by
 induction s with
 | nil=>rfl
 | cons b s ih=>simp[ih]
omit [bp] in
def aah:tb.tail=.v (.pointer none):: tb.drop 2:=by kernel_rfl
omit [bp] in
def QQ:oY p_ "WriteString" 321=some 282:=by kernel_rfl
omit [bp] in
def QP:oY p_ "Replace" 212=some 266:=by kernel_rfl
def ZC(h:aa):bW p_ 268 [.ib 321 (.op 10 0)] h fun r hh=>r=.ib 321 (.op 10 0)∧hh=h:=by
 refine (ZA _).bJ ?_;unfold S3;have:EM p_ 325 321=true:=by kernel_rfl
 simp[this];exact Wk.refl _ _ _ (bY _)
omit [bp] in
def nV_(s:List UInt8):wF (s.map bf)=some s:=by
 induction s with
 | nil=>rfl
 | cons b s ih=>simp[wF,bf]at ih ⊢;simp[ih]
def I0(s:List UInt8)(hl:4000<s.length):bn p_ 42 [.str s] (.ay [.str [],i_ 28]):=by
 refine (Xg _).bj (by simp) (by simp) ?_;unfold S5;have hn:(4000:Int)<(s.length:Int):=by omega
 simp[hn];exact fun _=>.pure (by simp) rfl
end
section
open Go Go.Aw Go.RowKit
variable [bp]
section
variable [Laid]
omit [Laid] in
omit [bp] in
def OO{K:AV→Prop}(ex:x=i_ a)(ey:y=i_ b)(q:K (i_ (dq .or .i64 a b))):ag .or x y K:=by
 subst ex;subst ey;simpa[ag]using q
def jx(b f t:Int):Bool:=decide (f≤b)&&decide (b≤t)
omit [bp] in
def pE(b f t:Int):bn p_ 137 [i_ b,i_ f,i_ t] (b_ (jx b f t)):=by
 refine (Y9 _ _ _).bj (by simp) (by simp) ?_;unfold Sz
 by_cases h1:f≤b
 ·simp[h1];exact .pure (by simp) (by simp[jx,h1])
 ·simp[h1];exact .pure (by simp) (by simp[jx,h1])
omit [bp] in
def nN(n:Int):bn p_ 98 [i_ n] (b_ (jx n 48 57)):=by
 refine (V98 _).bj (by simp) (by simp) ?_;unfold Yy;refine uCon (pE n 48 57) ?_;exact .pure (by simp) rfl
def fi_(n:Int):Bool:=(jx (dq .or .i64 n 32) 97 122&&decide (n<128)&&decide (64<n))||decide (n=95)||decide (128≤n)
omit [bp] in
def wM(n:Int):bn p_ 97 [i_ n] (b_ (fi_ n)):=by
 refine (V97 _).bj (by simp) (by simp) ?_;unfold Yx;refine OO rfl rfl (uCon (pE (dq .or .i64 n 32) 97 122) ?_)
 by_cases c1:n<128
 all_goals by_cases c2:64<n
 all_goals by_cases c3:n=95
 all_goals cases h1:jx (dq .or .i64 n 32) 97 122
 all_goals
  repeat first|((with_reducible apply aF))|((with_reducible apply aq))|((with_reducible apply jk);rfl)|((with_reducible apply km);rfl)|((with_reducible apply dG);rfl)|((with_reducible apply aL);rfl)|((with_reducible apply aQ);rfl)|((with_reducible apply oJ true);rfl;rfl;exact oF (by omega))|((with_reducible apply oJ false);rfl;rfl;exact nO (by omega))|((with_reducible apply qV true);rfl;rfl;exact oF (by omega))|((with_reducible apply qV false);rfl;rfl;exact nO (by omega))|((with_reducible apply pO true);rfl;rfl;exact oF (by omega))|((with_reducible apply pO false);rfl;rfl;exact nO (by omega))|((with_reducible apply pM true);rfl;rfl;exact oF (by omega))|((with_reducible apply pM false);rfl;rfl;exact nO (by omega))|((with_reducible apply pL true);rfl;rfl;exact oF (by omega))|((with_reducible apply pL false);rfl;rfl;exact nO (by omega))
  exact .pure (by simp) (by first|(simp[fi_,h1,c1,c2,c3];done)|(simp[fi_,h1,c1,c2,c3];omega)|(exfalso;omega))
def uF(n:Int):Bool:=decide (n=32)||decide (n=9)||decide (n=10)
omit [bp] in
def sW(n:Int):bn p_ 62 [i_ n] (b_ (uF n)):=by
 refine (V62 _).bj (by simp) (by simp) ?_;unfold X3
 by_cases c1:n=32
 all_goals by_cases c2:n=9
 all_goals by_cases c3:n=10
 all_goals
  repeat first|((with_reducible apply aF))|((with_reducible apply aq))|((with_reducible apply jk);rfl)|((with_reducible apply km);rfl)|((with_reducible apply dG);rfl)|((with_reducible apply aL);rfl)|((with_reducible apply aQ);rfl)|((with_reducible apply oJ true);rfl;rfl;exact oF (by omega))|((with_reducible apply oJ false);rfl;rfl;exact nO (by omega))|((with_reducible apply qV true);rfl;rfl;exact oF (by omega))|((with_reducible apply qV false);rfl;rfl;exact nO (by omega))|((with_reducible apply pO true);rfl;rfl;exact oF (by omega))|((with_reducible apply pO false);rfl;rfl;exact nO (by omega))|((with_reducible apply pM true);rfl;rfl;exact oF (by omega))|((with_reducible apply pM false);rfl;rfl;exact nO (by omega))|((with_reducible apply pL true);rfl;rfl;exact oF (by omega))|((with_reducible apply pL false);rfl;rfl;exact nO (by omega))
  exact .pure (by simp) (by first|(simp[uF,c1,c2,c3];done)|(exfalso;omega))
omit [bp] in
def Al(n:Int):bn p_ 65 [i_ n] (b_ (fi_ n||jx n 48 57||decide (n=45))):=by
 refine (V65 _).bj (by simp) (by simp) ?_;unfold X6;refine uCon (wM n) ?_;cases h1:fi_ n
 ·repeat first|((with_reducible apply aF))|((with_reducible apply aq))|((with_reducible apply jk);rfl)|((with_reducible apply km);rfl)|((with_reducible apply dG);rfl)|((with_reducible apply aL);rfl)|((with_reducible apply aQ);rfl)|((with_reducible apply oJ true);rfl;rfl;exact oF (by omega))|((with_reducible apply oJ false);rfl;rfl;exact nO (by omega))|((with_reducible apply qV true);rfl;rfl;exact oF (by omega))|((with_reducible apply qV false);rfl;rfl;exact nO (by omega))|((with_reducible apply pO true);rfl;rfl;exact oF (by omega))|((with_reducible apply pO false);rfl;rfl;exact nO (by omega))|((with_reducible apply pM true);rfl;rfl;exact oF (by omega))|((with_reducible apply pM false);rfl;rfl;exact nO (by omega))|((with_reducible apply pL true);rfl;rfl;exact oF (by omega))|((with_reducible apply pL false);rfl;rfl;exact nO (by omega))
  refine uCon (nN n) ?_;cases h2:jx n 48 57;all_goals by_cases c1:n=45
  all_goals
   repeat first|((with_reducible apply aF))|((with_reducible apply aq))|((with_reducible apply jk);rfl)|((with_reducible apply km);rfl)|((with_reducible apply dG);rfl)|((with_reducible apply aL);rfl)|((with_reducible apply aQ);rfl)|((with_reducible apply oJ true);rfl;rfl;exact oF (by omega))|((with_reducible apply oJ false);rfl;rfl;exact nO (by omega))|((with_reducible apply qV true);rfl;rfl;exact oF (by omega))|((with_reducible apply qV false);rfl;rfl;exact nO (by omega))|((with_reducible apply pO true);rfl;rfl;exact oF (by omega))|((with_reducible apply pO false);rfl;rfl;exact nO (by omega))|((with_reducible apply pM true);rfl;rfl;exact oF (by omega))|((with_reducible apply pM false);rfl;rfl;exact nO (by omega))|((with_reducible apply pL true);rfl;rfl;exact oF (by omega))|((with_reducible apply pL false);rfl;rfl;exact nO (by omega))
   exact .pure (by simp) (by simp[c1])
 ·repeat first|((with_reducible apply aF))|((with_reducible apply aq))|((with_reducible apply jk);rfl)|((with_reducible apply km);rfl)|((with_reducible apply dG);rfl)|((with_reducible apply aL);rfl)|((with_reducible apply aQ);rfl)|((with_reducible apply oJ true);rfl;rfl;exact oF (by omega))|((with_reducible apply oJ false);rfl;rfl;exact nO (by omega))|((with_reducible apply qV true);rfl;rfl;exact oF (by omega))|((with_reducible apply qV false);rfl;rfl;exact nO (by omega))|((with_reducible apply pO true);rfl;rfl;exact oF (by omega))|((with_reducible apply pO false);rfl;rfl;exact nO (by omega))|((with_reducible apply pM true);rfl;rfl;exact oF (by omega))|((with_reducible apply pM false);rfl;rfl;exact nO (by omega))|((with_reducible apply pL true);rfl;rfl;exact oF (by omega))|((with_reducible apply pL false);rfl;rfl;exact nO (by omega))
  exact .pure (by simp) (by simp)
omit [bp] in
def P7(l m:List UInt8):bn p_ 94 [.str l,.str m] (b_ (decide (m.length≤l.length)&&decide (l.take m.length=m))):=by
 refine (Xj _ _).bj (by simp) (by simp) ?_;unfold S8
 by_cases h1:m.length≤l.length
 ·simp[h1];refine fun _ _=>.pure (by simp) (by simp)
 ·simp[h1];refine fun _ _=>.pure (by simp) (by simp)
omit [bp] in
def rM(l m:List UInt8):bn p_ 59 [.str l,.str m] (b_ (decide (m.length≤l.length)&&decide (l.take m.length=m))):=by
 refine (Xi _ _).bj (by simp) (by simp) ?_;unfold S7;refine uCon (P7 l m) ?_;exact .pure (by simp) rfl
end
/-! Forms that the kernel runs. -/
def kL_(m:List UInt8):List UInt8→Bool:=List.rec (motive:=fun _=>List UInt8→Bool) (fun _=>true) (fun y _ ih l=>match l with|[]=>false|x:: l=>match Nat.beq x.toNat y.toNat with|true=>ih l|false=>false) m
end
section
open Go Go.Aw Go.RowKit
abbrev ae:=List UInt8
def pk(s:ae)(i:Nat):Int:=match s[i]? with|some b=>(b.toNat:Int)|none=>-1
abbrev eB(s:ae)(a:Nat):aK:=.ak ⟨101,[.str s,i_ a],true⟩
def Sc(id:Nat)(h:aa)(s:ae)(a:Nat):Prop:=h[id]?=some (eB s a)
def Q7(h:s[i]?=some b):pk s i=(b.toNat:Int):=by unfold pk;rw[h]
def HW(h:s.length≤i):pk s i=-1:=by unfold pk;rw[iS h]
def Wl(s:ae)(i:Nat):pk s i<256:=by
 unfold pk;split
 ·rename_i b _;have:=b.toNat_lt;omega
 ·omega
def Wj(s:ae)(i:Nat):-1≤pk s i:=by
 unfold pk;split<;>omega
def Sc.lt{id:Nat}(sc:Sc id h s a):id<h.length:=(eQ.1 sc).1
def Sc.set{id:Nat}(sc:Sc id h s a)(b:Nat):Sc id (h.set id (eB s b)) s b:=iD sc.lt
def Sc.app{id:Nat}(sc:Sc id h s a)(j:aa):Sc id (h++j) s a:=by
 unfold Sc;rw[gO sc.lt];exact sc
def Mv(id:Nat)(s:ae)(a:Nat)(h h':aa):Prop:=∃j,h'=h.set id (eB s a)++j
def Mv.other{id a:Nat}(g:Mv id s a h h')(hi:i<h.length)(hne:i≠id):h'[i]?=h[i]?:=by
 obtain⟨j,rfl⟩:=g;rw[gO (by simpa using hi),iF (Ne.symm hne)]
def Mv.set(id:Nat)(s:ae)(a:Nat)(h:aa):Mv id s a h (h.set id (eB s a)):=⟨[],by simp⟩
def Iv{K:AV→Prop}(e:x=.str l)(q:K (i_ l.length)):lq x K:=by subst e;exact q
def fk{K:AV→Prop}(e:x=.v (.int k' n))(hm:k.wrap n=m)(q:K (.v (.int k m))):cy k x K:=by subst hm;exact⟨k',n,e,q⟩
def Mj(b:UInt8):IntKind.i64.wrap (b.toNat:Int)=(b.toNat:Int):=by rw[IntKind.wrap_i64];have:=b.toNat_lt;omega
variable [Laid]
def cB{args args':List AV}{K0 K:AV→aa→Prop}(hb:dw P f=true)(e:args=args')(c:bW P f args' h K0)(k:∀r h',K0 r h'→K r h'):bx P (.fn (.func f) [] []) args h K:=by
 subst e;exact⟨hb,by simpa using c.mono k⟩
def MR{id:Nat}(sc:Sc id h s a)(n:Nat)(hn:a+n≤2^40):bW p_ 61 [.op id 0,i_ n] h fun r h' => r=i_ (pk s (a+n))∧h'=h:=by
 refine (V61 _ _).bJ ?_;unfold X2;have hin:aJ ((a:Int)+(n:Int)):=by unfold aJ;omega
 refine enil (zzA (zzU sc rfl (zzP hin (enil (zzA (zzU sc rfl (Iv rfl (zzC ?_))))))));refine cq rfl (fun q=>?_) fun q=>?_
 ·have q:a+n<s.length:=by have:=oN q;omega
  refine enil (zzA (zzU sc rfl (enil (zzA (zzU sc rfl (zzP hin ?_))))));refine uc (n:=a+n) rfl (by simp) (dO q) ?_;refine fk rfl (Mj _) ?_;exact⟨_,_,Wk.refl _ _ _ (bY _),by rw[Q7 (dO q)],rfl⟩
 ·have q:s.length≤a+n:=by have:=tO q;omega
  exact⟨_,_,Wk.refl _ _ _ (bY _),by rw[HW q],rfl⟩
def dA{id:Nat}{K:AV→aa→Prop}(n:Nat)(sc:Sc id h s a)(ex:x=.op id 0)(hm:m=(n:Int))(hn:a+n≤2^40)(k:K (i_ (pk s (a+n))) h):bx p_ (.fn (.func 61) [] []) [x,i_ m] h K:=by
 subst ex;subst hm;refine cB (by kernel_rfl) rfl (MR sc n hn) ?_;rintro _ _ ⟨rfl,rfl⟩;exact k
def wP(s:ae)(i:Nat):Bool:=decide (pk s i=92)&&!decide (pk s (i+1)=10)
def xL{id:Nat}{K:AV→aa→Prop}(n:Nat)(sc:Sc id h s a)(ex:x=.op id 0)(hm:m=(n:Int))(hn:a+n<2^40)(k:K (b_ (wP s (a+n))) h):bx p_ (.fn (.func 66) [] []) [x,i_ m] h K:=by
 subst ex;subst hm;refine cB (by kernel_rfl) rfl (K0:=fun r h' => r=b_ (wP s (a+n))∧h'=h) ?_ ?_
 ·refine (V66 _ _).bJ ?_;unfold X7;refine dA n sc rfl rfl (by omega) (zzG (aF ?_));refine cD rfl (fun q=>?_) fun q=>?_
  ·refine zzP (by unfold aJ;omega) (dA (n+1) sc rfl (by simp) (by omega) (zzH (zzR ?_)));exact⟨_,_,Wk.refl _ _ _ (bY _),by unfold wP;rw[q];rfl,rfl⟩
  ·refine zzQ ?_;exact⟨_,_,Wk.refl _ _ _ (bY _),by unfold wP;rw[q];rfl,rfl⟩
 ·rintro _ _ ⟨rfl,rfl⟩;exact k
def vt(s:ae)(i:Nat):Bool:=if pk s i=45 then fi_ (pk s (i+1))||decide (pk s (i+1)=45)||wP s (i+1) else fi_ (pk s i)||wP s i
def AL{id:Nat}{K:AV→aa→Prop}(n:Nat)(sc:Sc id h s a)(ex:x=.op id 0)(hm:m=(n:Int))(hn:a+n<2^39)(k:K (b_ (vt s (a+n))) h):bx p_ (.fn (.func 67) [] []) [x,i_ m] h K:=by
 subst ex;subst hm;refine cB (by kernel_rfl) rfl (K0:=fun r h' => r=b_ (vt s (a+n))∧h'=h) ?_ ?_
 ·refine (V67 _ _).bJ ?_;unfold X8;have hin:aJ ((n:Int)+1):=by unfold aJ;omega
  refine dA n sc rfl rfl (by omega) (zzH ?_);refine cq rfl (fun q=>?_) fun q=>?_
  ·have q:¬pk s (a+n)=45:=by simpa using q
   refine dA n sc rfl rfl (by omega) (uCon (wM _) (aF ?_));refine cD rfl (fun q1=>?_) fun q1=>?_
   ·refine xL n sc rfl rfl (by omega) (zzQ ?_);exact⟨_,_,Wk.refl _ _ _ (bY _),by unfold vt;rw[if_neg q,q1];rfl,rfl⟩
   ·refine zzR ?_;exact⟨_,_,Wk.refl _ _ _ (bY _),by unfold vt;rw[if_neg q,q1];rfl,rfl⟩
  ·have q:pk s (a+n)=45:=by simpa using q
   refine zzP hin (dA (n+1) sc rfl (by simp) (by omega) (uCon (wM _) (aF ?_)));have rest:∀(c:Bool),c=(fi_ (pk s (a+(n+1)))||decide (pk s (a+(n+1))=45))→aG (fun J27=>aM (b_ c) false (ag .add (i_ n) (i_ 1) fun v28=>bx p_ (.fn (.func 66) [] []) [(.op id 0),v28] h fun v29 g30=>J27 [ff,v29] g30) (J27 [(cd false (b_ c)),un] h)) fun s31 g32=>bQ (nx s31 0) tt (nx s31 1) fun v33=>∃r' h'',Wk h.length [v33] g32 [r'] h''∧r'=b_ (vt s (a+n))∧h''=h:=by
    intro c hc;refine aF ?_;refine cD rfl (fun q1=>?_) fun q1=>?_
    ·refine zzP hin (xL (n+1) sc rfl (by simp) (by omega) (zzQ ?_));exact⟨_,_,Wk.refl _ _ _ (bY _),by unfold vt;rw[if_pos q,Nat.add_assoc,←hc,q1];rfl,rfl⟩
    ·refine zzR ?_;exact⟨_,_,Wk.refl _ _ _ (bY _),by unfold vt;rw[if_pos q,Nat.add_assoc,←hc,q1];rfl,rfl⟩
   refine cD rfl (fun q1=>?_) fun q1=>?_
   ·refine zzP hin (dA (n+1) sc rfl (by simp) (by omega) (zzG (aq (zzQ ?_))));exact rest _ (by rw[q1];rfl)
   ·refine aq (zzR ?_);exact rest true (by rw[q1];rfl)
 ·rintro _ _ ⟨rfl,rfl⟩;exact k
def nf(p:Int→Bool)(s:ae)(a:Nat):Nat:=((s.drop a).takeWhile fun b=>p (b.toNat:Int)).length
omit [Laid] in
def LM{p:Int→Bool}(hk:k<nf p s a):a+k<s.length∧p (pk s (a+k))=true:=by
 have key:∀(l:ae) (k:Nat),k<(l.takeWhile fun b=>p (b.toNat:Int)).length→k<l.length∧p (pk l k)=true:=by
  intro l;induction l with
  | nil=>intro k hk;simp at hk
  | cons b l ih =>
    intro k hk
    by_cases hb:p (b.toNat:Int)=true
    ·have e:(b:: l).takeWhile (fun b=>p (b.toNat:Int))=b:: l.takeWhile (fun b=>p (b.toNat:Int)):=List.takeWhile_cons_of_pos hb;rw[e]at hk
     match k,hk with
     | 0,_=>exact⟨by simp,by simpa[pk]using hb⟩
     | k+1,hk =>
       have ⟨h1,h2⟩:=ih k (by simpa using hk);exact⟨by simpa using h1,by simpa[pk]using h2⟩
    ·have e:(b:: l).takeWhile (fun b=>p (b.toNat:Int))=[]:=List.takeWhile_cons_of_neg hb;rw[e]at hk;simp at hk
 have ⟨h1,h2⟩:=key (s.drop a) k hk;refine⟨by rw[List.length_drop]at h1;omega, ?_⟩;unfold pk at h2 ⊢
 rwa [aaU]at h2
omit [Laid] in
def Cj{p:Int→Bool}(hp:p (-1)=false)(s:ae)(a:Nat):p (pk s (a+nf p s a))=false:=by
 unfold nf;have key:∀l:ae,p (pk l ((l.takeWhile fun b=>p (b.toNat:Int)).length))=false:=by
  intro l;induction l with
  | nil=>simpa[pk]using hp
  | cons b l ih =>
    by_cases hb:p (b.toNat:Int)=true
    ·have e:(b:: l).takeWhile (fun b=>p (b.toNat:Int))=b:: l.takeWhile (fun b=>p (b.toNat:Int)):=List.takeWhile_cons_of_pos hb;rw[e,aaP];simpa[pk]using ih
    ·have e:(b:: l).takeWhile (fun b=>p (b.toNat:Int))=[]:=List.takeWhile_cons_of_neg hb;rw[e];simpa[pk]using hb
 have:=key (s.drop a);unfold pk at this ⊢
 rwa [aaU]at this
omit [Laid] in
def UM(p:Int→Bool)(s:ae)(a:Nat):nf p s a≤s.length-a:=by
 unfold nf;have hle:((s.drop a).takeWhile fun b=>p (b.toNat:Int)).length≤(s.drop a).length:=(List.takeWhile_prefix _).length_le;simpa using hle
def HB{id:Nat}{p:Int→Bool}{K:AV→aa→Prop}(sc:Sc id h s a)(ex:x=.op id 0)(hb:dw p_ f=true)(hc:∀n,bn p_ f [i_ n] (b_ (p n)))(hp:p (-1)=false)(ha:a≤s.length)(hl:s.length≤2^32)
 (k:K (.ay []) (h.set id (eB s (a+nf p s a)))):bx p_ (.fn (.func 63) [] []) [x,.fn (.func f) [] []] h K:=by
 subst ex;refine cB (by kernel_rfl) rfl (K0:=fun r h' => r=.ay []∧h'=h.set id (eB s (a+nf p s a))) ?_ ?_
 ·refine (V63 _ _).bJ ?_;unfold X4;have hr:=UM p s a;refine aZ (α:=Nat) (fun k=>k≤nf p s a) (fun _=>[]) (fun k=>h.set id (eB s (a+k))) (fun k=>nf p s a-k) 0 (aa2 _) (by rw[Nat.add_zero,ku sc];exact Wk.refl _ _ _ (bY _)) ?_;intro k hk;have sc':=sc.set (a+k);refine dA 0 sc' rfl rfl (by omega) (tv hb (hc _) ?_);rw[Nat.add_zero]
  by_cases q:k<nf p s a
  ·have ⟨q1,q2⟩:=LM q;refine zzL q2 (enil (zzA (zzU sc' rfl (zzP (by unfold aJ;omega) (enil (zzA ?_))))));refine aU (cs:=[i_ ((a+k:Nat)+1:Int)]) (h':=h.set id (eB s (a+(k+1)))) rfl sc' rfl rfl (by simp) rfl rfl ?_ ?_
   ·rw[aa0];have e:((a+k:Nat):Int)+1=((a+(k+1):Nat):Int):=by omega
    show _=List.set h id (.ak ⟨101,[.str s,i_ ((a+(k+1):Nat):Int)],true⟩);rw[←e];rfl
   ·refine aq ⟨k+1,by omega,Wk.refl _ _ _ (by simp),by omega⟩
  ·obtain rfl:k=nf p s a:=by omega
   refine zzK (Cj hp s a) ?_;exact⟨_,_,Wk.refl _ _ _ (by simp),rfl,rfl⟩
 ·rintro _ _ ⟨rfl,rfl⟩;exact k
def Fj(s:ae)(a:Nat):Bool:=
 let n:=if pk s a=43∨pk s a=45 then 1 else 0
 let m:=if pk s (a+n)=46 then n+1 else n
 jx (pk s (a+m)) 48 57
def NV{id:Nat}{K:AV→aa→Prop}(sc:Sc id h s a)(ex:x=.op id 0)(hn:a<2^39)(k:K (b_ (Fj s a)) h):bx p_ (.fn (.func 69) [] []) [x] h K:=by
 subst ex;refine cB (by kernel_rfl) rfl (K0:=fun r h' => r=b_ (Fj s a)∧h'=h) ?_ ?_
 ·refine (V69 _).bJ ?_;unfold Ya;refine Gd [i_ ((if pk s a=43∨pk s a=45 then 1 else 0:Nat):Int)] h ?_ fun F hF=>?_
  ·have hle:(if pk s a=43∨pk s a=45 then 1 else 0:Nat)≤1:=by split<;>omega
   generalize hnn:(if pk s a=43∨pk s a=45 then 1 else 0:Nat)=n at hle;refine Gd [i_ ((if pk s (a+n)=46 then n+1 else n:Nat):Int)] h ?_ fun F hF=>?_
   ·have hle2:(if pk s (a+n)=46 then n+1 else n:Nat)≤2:=by split<;>omega
    refine dA (if pk s (a+n)=46 then n+1 else n) sc rfl rfl (by omega) (uCon (nN _) ?_);exact⟨_,_,Wk.refl _ _ _ (bY _),by unfold Fj;rw[hnn],rfl⟩
   ·refine dA n sc rfl rfl (by omega) (zzG ?_);refine cq rfl (fun q=>?_) fun q=>?_
    ·have q:pk s (a+n)=46:=oN q;refine zzP (by unfold aJ;omega) (aq ?_);rw[if_pos q]at hF;exact hF
    ·have q:¬pk s (a+n)=46:=tO q;refine aq ?_;rw[if_neg q]at hF;exact hF
  ·refine dA 0 sc rfl rfl (by omega) ?_;rw[Nat.add_zero];refine zzG ?_;have fin:∀c:Bool,(c=true↔(pk s a=43∨pk s a=45))→af (b_ c) (ag .add (i_ 0) (i_ 1) fun v10=>[AV.op id 0]=[AV.op id 0]∧F [v10] h) ([AV.op id 0]=[AV.op id 0]∧F [(i_ 0)] h):=by
    intro c hc;refine cq rfl (fun q=>?_) fun q=>?_
    ·refine zzP (by unfold aJ;omega) (aq ?_);rw[if_pos (hc.1 q)]at hF;exact hF
    ·refine aq ?_;rw[if_neg (fun z=>by rw[hc.2 z]at q;cases q)]at hF;exact hF
   refine aF ?_;refine cD rfl (fun q1=>?_) fun q1=>?_
   ·have q1:¬pk s a=43:=tO q1;refine zzG (aq (zzQ ?_));exact fin _ (by simp[q1])
   ·have q1:pk s a=43:=by simpa using q1
    refine aq (zzR ?_);exact fin true (by simp[q1])
 ·rintro _ _ ⟨rfl,rfl⟩;exact k
end
section
open Go Go.Aw Go.RowKit
abbrev yM(l:List UInt8):List (List AV):=l.map fun b=>[bf b]
def GR(l:List UInt8):(yM l).all (dy 1)=true:=Ch (f:=fun b=>[bf b]) (fun _=>⟨rfl,rfl⟩) l
def FX{K:AV→Prop}(q:K (.sl 1 [[u8 x]])):bt 1 1 (u8 0) [(0,1,u8 x)] K:=by
 have e:dP (gI 1 (bh (u8 0))) [(0,1,u8 x)]=some [u8 x]:=by simp[dP,gI,bh,bX,bG]
 unfold bt;rw[e];exact q
def Ti{K:AV→Prop}{id:Nat}(e:x=.sb id 1 (yM l))(q:K (.str l)):cP x h K:=by
 subst e;have h2:∀l:List UInt8,(yM l).flatten=l.map bf:=by
  intro l;induction l with
  | nil=>rfl
  | cons b l ih=>show bf b:: (yM l).flatten=_;rw[ih];rfl
 unfold cP;rw[L0];simp only[Option.bind_some];rw[h2,nV_];exact q
def T6(n:Int):Bool:=fi_ n||jx n 48 57||decide (n=45)
variable [Laid]
def qk(l:ae):Prop:=l≠[]∧∀b∈l,48≤b.toNat∧b.toNat≤57
end
section
open Go.Shelf
theorem uSo1{α:Type}{a b:α}(h:a=b:=by kernel_rfl):some a=some b:=congrArg some h
def lays161_ren:Go.Shelf.Ren:=⟨fun|161=>138|231=>166|227=>167|233=>168|235=>169|228=>172|197=>195|151=>196|260=>213|152=>170|137=>72|119=>197|224=>133|225=>132|217=>103|266=>142|n=>n,fun|9=>9|4=>4|3=>3|5=>5|117=>226|116=>225|0=>0|124=>229|105=>254|21=>21|119=>214|46=>188|139=>289|138=>288|n=>n,fun|3=>4|4=>5|n=>n⟩
theorem lays161:Go.Proofs.Lays.n161 p_ lays161_ren:={
 mixed:=by kernel_rfl
 f119:=Tryz.func197.trans uSo1
 f137:=Tryz.func72.trans uSo1
 f151:=Tryz.func196.trans uSo1
 f152:=Tryz.func170.trans uSo1
 f161:=Tryz.func138.trans uSo1
 f197:=Tryz.func195.trans uSo1
 f217:=Tryz.func103.trans uSo1
 f224:=Tryz.func133.trans uSo1
 f225:=Tryz.func132.trans uSo1
 f227:=Tryz.func167.trans uSo1
 f228:=Tryz.func172.trans uSo1
 f231:=Tryz.func166.trans uSo1
 f233:=Tryz.func168.trans uSo1
 f235:=Tryz.func169.trans uSo1
 f260:=Tryz.func213.trans uSo1
 f266:=Tryz.func142.trans uSo1
 t0:=Tryz.underlying0
 a0:=Tryz.isAgg0
 z0:=Tryz.sizeOf0
 v0:=Tryz.zeroValue0
 t3:=Tryz.underlying3
 a3:=Tryz.isAgg3
 z3:=Tryz.sizeOf3
 v3:=Tryz.zeroValue3
 t4:=Tryz.underlying4
 a4:=Tryz.isAgg4
 z4:=Tryz.sizeOf4
 v4:=Tryz.zeroValue4
 t5:=Tryz.underlying5
 a5:=Tryz.isAgg5
 z5:=Tryz.sizeOf5
 v5:=Tryz.zeroValue5
 t9:=Tryz.underlying9
 a9:=Tryz.isAgg9
 z9:=Tryz.sizeOf9
 v9:=Tryz.zeroValue9
 t21:=Tryz.underlying21
 a21:=Tryz.isAgg21
 z21:=Tryz.sizeOf21
 v21:=Tryz.zeroValue21
 t46:=Tryz.underlying188
 a46:=Tryz.isAgg188
 z46:=Tryz.sizeOf188
 v46:=Tryz.zeroValue188
 t105:=Tryz.underlying254
 a105:=Tryz.isAgg254
 z105:=Tryz.sizeOf254
 v105:=Tryz.zeroValue254
 t116:=Tryz.underlying225
 a116:=Tryz.isAgg225
 z116:=Tryz.sizeOf225
 t117:=Tryz.underlying226
 a117:=Tryz.isAgg226
 z117:=Tryz.sizeOf226
 v117:=Tryz.zeroValue226
 t119:=Tryz.underlying214
 a119:=Tryz.isAgg214
 z119:=Tryz.sizeOf214
 t124:=Tryz.underlying229
 a124:=Tryz.isAgg229
 z124:=Tryz.sizeOf229
 v124:=Tryz.zeroValue229
 t138:=Tryz.underlying288
 a138:=Tryz.isAgg288
 z138:=Tryz.sizeOf288
 v138:=Tryz.zeroValue288
 t139:=Tryz.underlying289
 a139:=Tryz.isAgg289
 z139:=Tryz.sizeOf289
 v139:=Tryz.zeroValue289
 g3:=by kernel_rfl
 g4:=by kernel_rfl }
def lays160_ren:Go.Shelf.Ren:=⟨fun|160=>228|232=>181|231=>166|227=>167|234=>182|233=>168|236=>183|235=>169|228=>172|271=>201|151=>196|197=>195|120=>219|152=>170|260=>213|137=>72|119=>197|224=>133|225=>132|217=>103|266=>142|n=>n,fun|9=>9|4=>4|3=>3|5=>5|117=>226|116=>225|0=>0|124=>229|21=>21|105=>254|46=>188|119=>214|139=>289|138=>288|n=>n,fun|3=>4|4=>5|n=>n⟩
theorem lays160:Go.Proofs.Lays.n160 p_ lays160_ren:={
 mixed:=by kernel_rfl
 f119:=Tryz.func197.trans uSo1
 f120:=Tryz.func219.trans uSo1
 f137:=Tryz.func72.trans uSo1
 f151:=Tryz.func196.trans uSo1
 f152:=Tryz.func170.trans uSo1
 f160:=Tryz.func228.trans uSo1
 f197:=Tryz.func195.trans uSo1
 f217:=Tryz.func103.trans uSo1
 f224:=Tryz.func133.trans uSo1
 f225:=Tryz.func132.trans uSo1
 f227:=Tryz.func167.trans uSo1
 f228:=Tryz.func172.trans uSo1
 f231:=Tryz.func166.trans uSo1
 f232:=Tryz.func181.trans uSo1
 f233:=Tryz.func168.trans uSo1
 f234:=Tryz.func182.trans uSo1
 f235:=Tryz.func169.trans uSo1
 f236:=Tryz.func183.trans uSo1
 f260:=Tryz.func213.trans uSo1
 f266:=Tryz.func142.trans uSo1
 f271:=Tryz.func201.trans uSo1
 t0:=Tryz.underlying0
 a0:=Tryz.isAgg0
 z0:=Tryz.sizeOf0
 v0:=Tryz.zeroValue0
 t3:=Tryz.underlying3
 a3:=Tryz.isAgg3
 z3:=Tryz.sizeOf3
 v3:=Tryz.zeroValue3
 t4:=Tryz.underlying4
 a4:=Tryz.isAgg4
 z4:=Tryz.sizeOf4
 v4:=Tryz.zeroValue4
 t5:=Tryz.underlying5
 a5:=Tryz.isAgg5
 z5:=Tryz.sizeOf5
 v5:=Tryz.zeroValue5
 t9:=Tryz.underlying9
 a9:=Tryz.isAgg9
 z9:=Tryz.sizeOf9
 v9:=Tryz.zeroValue9
 t21:=Tryz.underlying21
 a21:=Tryz.isAgg21
 z21:=Tryz.sizeOf21
 v21:=Tryz.zeroValue21
 t46:=Tryz.underlying188
 a46:=Tryz.isAgg188
 z46:=Tryz.sizeOf188
 v46:=Tryz.zeroValue188
 t105:=Tryz.underlying254
 a105:=Tryz.isAgg254
 z105:=Tryz.sizeOf254
 v105:=Tryz.zeroValue254
 t116:=Tryz.underlying225
 a116:=Tryz.isAgg225
 z116:=Tryz.sizeOf225
 t117:=Tryz.underlying226
 a117:=Tryz.isAgg226
 z117:=Tryz.sizeOf226
 v117:=Tryz.zeroValue226
 t119:=Tryz.underlying214
 a119:=Tryz.isAgg214
 z119:=Tryz.sizeOf214
 t124:=Tryz.underlying229
 a124:=Tryz.isAgg229
 z124:=Tryz.sizeOf229
 v124:=Tryz.zeroValue229
 t138:=Tryz.underlying288
 a138:=Tryz.isAgg288
 z138:=Tryz.sizeOf288
 v138:=Tryz.zeroValue288
 t139:=Tryz.underlying289
 a139:=Tryz.isAgg289
 z139:=Tryz.sizeOf289
 v139:=Tryz.zeroValue289
 g3:=by kernel_rfl
 g4:=by kernel_rfl }
def lays103_ren:Go.Shelf.Ren:=⟨fun|103=>216|210=>227|206=>94|n=>n,fun|9=>9|4=>4|24=>279|3=>3|n=>n,fun|n=>n⟩
theorem lays103:Go.Proofs.Lays.n103 p_ lays103_ren:={
 mixed:=by kernel_rfl
 f103:=Tryz.func216.trans uSo1
 f206:=Tryz.func94.trans uSo1
 f210:=Tryz.func227.trans uSo1
 t3:=Tryz.underlying3
 a3:=Tryz.isAgg3
 z3:=Tryz.sizeOf3
 v3:=Tryz.zeroValue3
 t4:=Tryz.underlying4
 a4:=Tryz.isAgg4
 z4:=Tryz.sizeOf4
 v4:=Tryz.zeroValue4
 t9:=Tryz.underlying9
 a9:=Tryz.isAgg9
 z9:=Tryz.sizeOf9
 v9:=Tryz.zeroValue9
 t24:=Tryz.underlying279
 a24:=Tryz.isAgg279
 z24:=Tryz.sizeOf279
 v24:=Tryz.zeroValue279 }
def laysC174_ren:Go.Shelf.Ren:=⟨fun|174=>229|247=>230|245=>231|287=>232|279=>233|280=>234|281=>235|282=>236|321=>237|322=>238|316=>239|171=>241|205=>240|243=>242|246=>122|283=>151|284=>152|285=>153|286=>154|129=>185|317=>184|318=>186|319=>187|320=>188|337=>202|338=>203|n=>n,fun|9=>9|3=>3|2=>2|75=>86|85=>290|4=>4|167=>293|5=>5|53=>196|175=>294|46=>188|168=>296|37=>35|0=>0|210=>300|21=>21|127=>93|145=>304|143=>302|171=>199|173=>202|212=>237|51=>150|20=>20|213=>238|232=>283|233=>284|80=>66|n=>n,fun|15=>6|16=>7|17=>1|18=>2|19=>3|n=>n⟩
theorem laysC174:Go.Proofs.LaysC.n174 p_ laysC174_ren:={
 mixed:=by kernel_rfl
 f129:=Tryz.func185.trans uSo1
 f171:=Tryz.func241.trans uSo1
 f174:=Tryz.func229.trans uSo1
 f205:=Tryz.func240.trans uSo1
 f243:=Tryz.func242.trans uSo1
 f245:=Tryz.func231.trans uSo1
 f246:=Tryz.func122.trans uSo1
 f247:=Tryz.func230.trans uSo1
 f279:=Tryz.func233.trans uSo1
 f280:=Tryz.func234.trans uSo1
 f281:=Tryz.func235.trans uSo1
 f282:=Tryz.func236.trans uSo1
 f283:=Tryz.func151.trans uSo1
 f284:=Tryz.func152.trans uSo1
 f285:=Tryz.func153.trans uSo1
 f286:=Tryz.func154.trans uSo1
 f287:=Tryz.func232.trans uSo1
 f316:=Tryz.func239.trans uSo1
 f317:=Tryz.func184.trans uSo1
 f318:=Tryz.func186.trans uSo1
 f319:=Tryz.func187.trans uSo1
 f320:=Tryz.func188.trans uSo1
 f321:=Tryz.func237.trans uSo1
 f322:=Tryz.func238.trans uSo1
 f337:=Tryz.func202.trans uSo1
 f338:=Tryz.func203.trans uSo1
 t0:=Tryz.underlying0
 a0:=Tryz.isAgg0
 z0:=Tryz.sizeOf0
 v0:=Tryz.zeroValue0
 t2:=Tryz.underlying2
 a2:=Tryz.isAgg2
 z2:=Tryz.sizeOf2
 v2:=Tryz.zeroValue2
 t3:=Tryz.underlying3
 a3:=Tryz.isAgg3
 z3:=Tryz.sizeOf3
 v3:=Tryz.zeroValue3
 t4:=Tryz.underlying4
 a4:=Tryz.isAgg4
 z4:=Tryz.sizeOf4
 v4:=Tryz.zeroValue4
 t5:=Tryz.underlying5
 a5:=Tryz.isAgg5
 z5:=Tryz.sizeOf5
 v5:=Tryz.zeroValue5
 t9:=Tryz.underlying9
 a9:=Tryz.isAgg9
 z9:=Tryz.sizeOf9
 v9:=Tryz.zeroValue9
 t20:=Tryz.underlying20
 a20:=Tryz.isAgg20
 z20:=Tryz.sizeOf20
 v20:=Tryz.zeroValue20
 t21:=Tryz.underlying21
 a21:=Tryz.isAgg21
 z21:=Tryz.sizeOf21
 v21:=Tryz.zeroValue21
 t37:=Tryz.underlying35
 a37:=Tryz.isAgg35
 z37:=Tryz.sizeOf35
 v37:=Tryz.zeroValue35
 t46:=Tryz.underlying188
 a46:=Tryz.isAgg188
 z46:=Tryz.sizeOf188
 v46:=Tryz.zeroValue188
 t51:=Tryz.underlying150
 a51:=Tryz.isAgg150
 z51:=Tryz.sizeOf150
 v51:=Tryz.zeroValue150
 t53:=Tryz.underlying196
 a53:=Tryz.isAgg196
 z53:=Tryz.sizeOf196
 v53:=Tryz.zeroValue196
 t75:=Tryz.underlying86
 a75:=Tryz.isAgg86
 z75:=Tryz.sizeOf86
 v75:=Tryz.zeroValue86
 t85:=Tryz.underlying290
 a85:=Tryz.isAgg290
 z85:=Tryz.sizeOf290
 v85:=Tryz.zeroValue290
 t127:=Tryz.underlying93
 a127:=Tryz.isAgg93
 z127:=Tryz.sizeOf93
 v127:=Tryz.zeroValue93
 t143:=Tryz.underlying302
 a143:=Tryz.isAgg302
 z143:=Tryz.sizeOf302
 v143:=Tryz.zeroValue302
 t145:=Tryz.underlying304
 a145:=Tryz.isAgg304
 z145:=Tryz.sizeOf304
 v145:=Tryz.zeroValue304
 t167:=Tryz.underlying293
 a167:=Tryz.isAgg293
 z167:=Tryz.sizeOf293
 v167:=Tryz.zeroValue293
 t168:=Tryz.underlying296
 a168:=Tryz.isAgg296
 z168:=Tryz.sizeOf296
 v168:=Tryz.zeroValue296
 t171:=Tryz.underlying199
 a171:=Tryz.isAgg199
 z171:=Tryz.sizeOf199
 v171:=Tryz.zeroValue199
 t173:=Tryz.underlying202
 a173:=Tryz.isAgg202
 z173:=Tryz.sizeOf202
 v173:=Tryz.zeroValue202
 t175:=Tryz.underlying294
 a175:=Tryz.isAgg294
 z175:=Tryz.sizeOf294
 v175:=Tryz.zeroValue294
 t210:=Tryz.underlying300
 a210:=Tryz.isAgg300
 z210:=Tryz.sizeOf300
 v210:=Tryz.zeroValue300
 t212:=Tryz.underlying237
 a212:=Tryz.isAgg237
 z212:=Tryz.sizeOf237
 v212:=Tryz.zeroValue237
 t213:=Tryz.underlying238
 a213:=Tryz.isAgg238
 z213:=Tryz.sizeOf238
 t232:=Tryz.underlying283
 a232:=Tryz.isAgg283
 z232:=Tryz.sizeOf283
 v232:=Tryz.zeroValue283
 t233:=Tryz.underlying284
 a233:=Tryz.isAgg284
 z233:=Tryz.sizeOf284
 v233:=Tryz.zeroValue284
 g15:=by kernel_rfl
 g16:=by kernel_rfl
 g17:=by kernel_rfl
 g18:=by kernel_rfl
 g19:=by kernel_rfl
 t80:=Tryz.underlying66
 a80:=Tryz.isAgg66
 z80:=Tryz.sizeOf66
 v80:=Tryz.zeroValue66
 i0:=by kernel_rfl
 i2:=by kernel_rfl
 i3:=by kernel_rfl
 i4:=by kernel_rfl
 i5:=by kernel_rfl
 i9:=by kernel_rfl
 i20:=by kernel_rfl
 i21:=by kernel_rfl
 i37:=by kernel_rfl
 i46:=by kernel_rfl
 i51:=by kernel_rfl
 i53:=by kernel_rfl
 i75:=by kernel_rfl
 i80:=by kernel_rfl
 i85:=by kernel_rfl
 i127:=by kernel_rfl
 i143:=by kernel_rfl
 i145:=by kernel_rfl
 i167:=by kernel_rfl
 i168:=by kernel_rfl
 i171:=by kernel_rfl
 i173:=by kernel_rfl
 i175:=by kernel_rfl
 i210:=by kernel_rfl
 i212:=by kernel_rfl
 i232:=by kernel_rfl
 i233:=by kernel_rfl
 m15:=by kernel_rfl
 m16:=by kernel_rfl
 m17:=by kernel_rfl
 m18:=by kernel_rfl
 m19:=by kernel_rfl
 c0:=by kernel_rfl
 c2:=by kernel_rfl
 c3:=by kernel_rfl
 c4:=by kernel_rfl
 c5:=by kernel_rfl
 c9:=by kernel_rfl
 c20:=by kernel_rfl
 c21:=by kernel_rfl
 c37:=by kernel_rfl
 c46:=by kernel_rfl
 c51:=by kernel_rfl
 c53:=by kernel_rfl
 c75:=by kernel_rfl
 c80:=by kernel_rfl
 c85:=by kernel_rfl
 c127:=by kernel_rfl
 c143:=by kernel_rfl
 c145:=by kernel_rfl
 c167:=by kernel_rfl
 c168:=by kernel_rfl
 c171:=by kernel_rfl
 c173:=by kernel_rfl
 c175:=by kernel_rfl
 c210:=by kernel_rfl
 c212:=by kernel_rfl
 c213:=by kernel_rfl
 c232:=by kernel_rfl
 c233:=by kernel_rfl }
def lays145_ren:Go.Shelf.Ren:=⟨fun|145=>140|220=>173|219=>95|217=>103|225=>132|224=>133|267=>134|266=>142|314=>164|n=>n,fun|9=>9|4=>4|59=>191|3=>3|5=>5|46=>188|146=>221|51=>150|n=>n,fun|1=>0|n=>n⟩
theorem lays145:Go.Proofs.Lays.n145 p_ lays145_ren:={
 mixed:=by kernel_rfl
 f145:=Tryz.func140.trans uSo1
 f217:=Tryz.func103.trans uSo1
 f219:=Tryz.func95.trans uSo1
 f220:=Tryz.func173.trans uSo1
 f224:=Tryz.func133.trans uSo1
 f225:=Tryz.func132.trans uSo1
 f266:=Tryz.func142.trans uSo1
 f267:=Tryz.func134.trans uSo1
 f314:=Tryz.func164.trans uSo1
 t3:=Tryz.underlying3
 a3:=Tryz.isAgg3
 z3:=Tryz.sizeOf3
 v3:=Tryz.zeroValue3
 t4:=Tryz.underlying4
 a4:=Tryz.isAgg4
 z4:=Tryz.sizeOf4
 v4:=Tryz.zeroValue4
 t5:=Tryz.underlying5
 a5:=Tryz.isAgg5
 z5:=Tryz.sizeOf5
 v5:=Tryz.zeroValue5
 t9:=Tryz.underlying9
 a9:=Tryz.isAgg9
 z9:=Tryz.sizeOf9
 v9:=Tryz.zeroValue9
 t46:=Tryz.underlying188
 a46:=Tryz.isAgg188
 z46:=Tryz.sizeOf188
 v46:=Tryz.zeroValue188
 t51:=Tryz.underlying150
 a51:=Tryz.isAgg150
 z51:=Tryz.sizeOf150
 v51:=Tryz.zeroValue150
 t59:=Tryz.underlying191
 a59:=Tryz.isAgg191
 z59:=Tryz.sizeOf191
 v59:=Tryz.zeroValue191
 t146:=Tryz.underlying221
 a146:=Tryz.isAgg221
 z146:=Tryz.sizeOf221
 v146:=Tryz.zeroValue221
 g1:=by kernel_rfl }
end
section
open Go Go.Aw Go.RowKit
def sQ(l:ae):Prop:=∀b∈l,b.toNat<128
def uV(h:sQ l):∀(j:Nat) b,l[j]?=some b→b.toNat<128:=fun j b hb=>h b (gE hb)
variable [bp]
omit [bp] in
def CL[Laid](l m:ae)(hl:l.length≤2^31)(hm:m.length≤2^31)(am:sQ m):bn p_ 138 [.str l,.str m] (.str (Lib.trimLeftS l m)):=by
 have hle:(Lib.trimLeftS l m).length≤l.length:=(List.dropWhile_suffix _).length_le;refine iy (v:=.string ⟨(Lib.trimLeftS l m).toArray⟩) (by simp[aO]) (by simp) (by simp) (fun w=>by simp[maxLen];omega) ?_;intro ι S w vs h1 hg
 match vs,h1 with
 | [],h1=>simp at h1
 | [v],h1=>simp at h1
 | v:: u:: x:: vs,h1=>simp at h1
 | [v,u],h1 =>
   simp only[bP,dt,and_true,eF]at h1;obtain⟨⟨rfl,_⟩,rfl,_⟩:=h1;refine (Any.strings_TrimLeft_laid lays161 (by kernel_rfl) ⟨l.toArray⟩ ⟨m.toArray⟩ w (by simp[ByteArray.size];omega) (fun j b hb=>uV am j b (by simpa using hb))).mono fun e w' q=>by simpa using q
omit [bp] in
def Kr[Laid](l m:ae)(hl:l.length≤2^31)(hm:m.length≤2^31)(am:sQ m)(hle:(Lib.trimS l m).length≤2^31):bn p_ 228 [.str l,.str m] (.str (Lib.trimS l m)):=by
 refine iy (v:=.string ⟨(Lib.trimS l m).toArray⟩) (by simp[aO]) (by simp) (by simp) (fun w=>by simp[maxLen];omega) ?_;intro ι S w vs h1 hg
 match vs,h1 with
 | [],h1=>simp at h1
 | [v],h1=>simp at h1
 | v:: u:: x:: vs,h1=>simp at h1
 | [v,u],h1 =>
   simp only[bP,dt,and_true,eF]at h1;obtain⟨⟨rfl,_⟩,rfl,_⟩:=h1;refine (Any.strings_Trim_laid lays160 (by kernel_rfl) ⟨l.toArray⟩ ⟨m.toArray⟩ w (by simp[ByteArray.size];omega) (by simp[ByteArray.size];omega) (fun j b hb=>uV am j b (by simpa using hb))).mono fun e w' q=>by simpa using q
omit [bp] in
def Er[Laid](l m:ae)(hl:l.length≤2^31)(hm:m.length≤2^31)(al:sQ l)(am:sQ m):bn p_ 139 [.str l,.str m] (i_ (Lib.indexAny l m)):=by
 refine iy (v:=.int .i64 (Lib.indexAny l m)) (by simp[aO]) (by simp) (by simp) (fun w=>by simp) ?_;intro ι S w vs h1 hg
 match vs,h1 with
 | [],h1=>simp at h1
 | [v],h1=>simp at h1
 | v:: u:: x:: vs,h1=>simp at h1
 | [v,u],h1 =>
   simp only[bP,dt,and_true,eF]at h1;obtain⟨⟨rfl,_⟩,rfl,_⟩:=h1;refine (Dx ⟨l.toArray⟩ ⟨m.toArray⟩ w (by simp[ByteArray.size];omega) (by simp[ByteArray.size];omega) (fun j b hb=>uV al j b (by simpa using hb)) (fun j b hb=>uV am j b (by simpa using hb))).mono fun e w' q=>by simpa using q
omit [bp] in
def u3[Laid](l m:ae)(hl:l.length≤2^31):bn p_ 216 [.str l,.str m] (.ay [.str (Lib.trimPrefix l m),b_ (Lib.hasPrefix l m)]):=by
 have hle:(Lib.trimPrefix l m).length≤l.length:=by unfold Lib.trimPrefix;split<;>simp
 refine iy (v:=.tuple #[.string ⟨(Lib.trimPrefix l m).toArray⟩,.bool (Lib.hasPrefix l m)]) (by simp[aO]) (by simp) (by simp[aO]) (fun w=>by rw[ar];exact⟨[.string ⟨(Lib.trimPrefix l m).toArray⟩,.bool (Lib.hasPrefix l m)],rfl,by simp[maxLen];omega⟩) ?_;intro ι S w vs h1 hg
 match vs,h1 with
 | [],h1=>simp at h1
 | [v],h1=>simp at h1
 | v:: u:: x:: vs,h1=>simp at h1
 | [v,u],h1 =>
   simp only[bP,dt,and_true,eF]at h1;obtain⟨⟨rfl,_⟩,rfl,_⟩:=h1;refine (Any.strings_CutPrefix lays103 ⟨l.toArray⟩ ⟨m.toArray⟩ w).mono ?_;rintro e w' ⟨rfl,rfl⟩;exact⟨rfl,Below.refl _ _⟩
omit [bp] in
def Es[Laid](l:ae)(v:Int)(hl:l.length≤2^31)(h:Lib.parseIntB 64 l=.ok v):bn p_ 229 [.str l,i_ 10,i_ 64] (.ay [i_ v,.v .nilIface]):=by
 refine iy (v:=.tuple #[.int .i64 v,.nilIface]) (by simp[aO]) (by simp) (by simp[aO]) (fun w=>by rw[ar];exact⟨[.int .i64 v,.nilIface],rfl,by simp⟩) ?_;intro ι S w vs h1 hg
 match vs,h1 with
 | [],h1=>simp at h1
 | [v],h1=>simp at h1
 | [v,u],h1=>simp at h1
 | v:: u:: x:: y:: vs,h1=>simp at h1
 | [v,u,x],h1 =>
   simp only[bP,dt,and_true,eF,cz]at h1;obtain⟨⟨rfl,_⟩,rfl,rfl⟩:=h1;refine (Any.strconv_ParseInt_10_at64_ok laysC174 ⟨l.toArray⟩ (by simp[ByteArray.size];omega) _ (by simpa using h) w).mono ?_;rintro e w' ⟨rfl,rfl|⟨t,rfl⟩⟩
   ·exact⟨rfl,Below.refl _ _⟩
   ·exact⟨rfl,Lib.bytesWorld_below _ _ _⟩
end
section
open Go Go.Aw Go.RowKit
/-! ### Plain -/
def oM(b:UInt8):Nat:=b.toNat-48
def im(l:ae):Nat:=l.foldl (fun n b=>10*n+oM b) 0
def Mc(l:ae)(b:UInt8):im (l++[b])=10*im l+oM b:=by unfold im;rw[aa6];rfl
def Gu(h:∀b∈l,m.contains b=false):Lib.indexAny l m=-1:=by
 induction l with
 | nil=>rfl
 | cons b l ih =>
   have h1:=ih fun x hx=>h x (Lt _ hx);unfold Lib.indexAny;rw[h b (abn ..),h1];rfl
/-! ### The walk -/
def JS{K:AV→Prop}(ex:x=i_ a)(ey:y=i_ b)(c:aJ (a*b))(q:K (i_ (a*b))):ag .mul x y K:=by subst ex;subst ey;simpa using⟨c,q⟩
def Vj{K:AV→Prop}(hk:k≠.i64)(ex:x=.v (.int k a))(ey:y=.v (.int k b))(hc:k.wrap (a-b)=c)(q:K (.v (.int k c))):ag .sub x y K:=by
 subst ex;subst ey;subst hc;refine⟨rfl, ?_⟩;unfold ql qz;cases k<;>first|exact q|exact absurd rfl hk
def J0{K:AV→Prop}(ex:x=.str a)(ey:y=.str b)(h:a.length+b.length≤2^40)(q:K (.str (a++b))):ag .add x y K:=by
 subst ex;subst ey;rw[Qx];exact⟨by unfold maxLen;omega,q⟩
def O4{KH:AV→aa→Prop}(ex:x=.str l)(q:KH (.own h.length 0 l.length 1) (h++[.ak ⟨e,l.map bf,true⟩])):iO e x h KH:=by subst ex;exact q
def J3{K:AV→Prop}{id off len sz:Nat}(ex:x=.own id off len sz)(q:K (i_ len)):bq x K:=by subst ex;rw[ur];exact fun _=>q
variable [bp]
end
section
open Go.Shelf
theorem uSo3{α:Type}{a b:α}(h:a=b:=by kernel_rfl):some a=some b:=congrArg some h
def lays137_ren:Go.Shelf.Ren:=⟨fun|137=>72|217=>103|266=>142|n=>n,fun|9=>9|5=>5|3=>3|n=>n,fun|n=>n⟩
theorem lays137:Go.Proofs.Lays.n137 p_ lays137_ren:={
 mixed:=by kernel_rfl
 f137:=Tryz.func72.trans uSo3
 f217:=Tryz.func103.trans uSo3
 f266:=Tryz.func142.trans uSo3
 t3:=Tryz.underlying3
 a3:=Tryz.isAgg3
 z3:=Tryz.sizeOf3
 v3:=Tryz.zeroValue3
 t5:=Tryz.underlying5
 a5:=Tryz.isAgg5
 z5:=Tryz.sizeOf5
 v5:=Tryz.zeroValue5
 t9:=Tryz.underlying9
 a9:=Tryz.isAgg9
 z9:=Tryz.sizeOf9
 v9:=Tryz.zeroValue9 }
end
section
open Go Go.Aw Go.RowKit
abbrev vY(k:Int)(t:ae)(n:Int)(u:ae)(f:Bool):AV:=.agg [u8 k,.str t,i_ n,.str u,b_ f]
abbrev cx(k:Int)(t:ae)(n:Int)(u:ae)(f:Bool):aK:=.ak ⟨70,[u8 k,.str t,i_ n,.str u,b_ f],true⟩
def oH{lo hi:Option AV}{a b:Nat}{K:AV→Prop}(ex:x=.str l)(ha:eX lo 0=some (a:Int))(hb:eX hi l.length=some (b:Int))(hab:a≤b)(hl:b≤l.length)(hr:(l.take b).drop a=r)(q:K (.str r)):eV x lo hi K:=by
 subst ex;subst hr;unfold eV;simp only[ha,hb];exact⟨⟨by omega,by omega,by omega⟩,by simpa using q⟩
def qP[Laid]{K:AV→aa→Prop}(hv:H[V]?=some (cx k0 t0 n0 u0 f0))(q:K (vY k t n u f) (H.set V (cx k t n u f))):
 ao 5 (.op V 0) (vY k t n u f) H fun g=>ah true 5 (.op V 0) g fun r=>K r g:=by
 have hlt:=(eQ.1 hv).1;refine aU (cs:=[u8 k,.str t,i_ n,.str u,b_ f]) (h':=H.set V (cx k t n u f)) rfl hv rfl rfl (by simp) rfl (by simp[bG]) rfl ?_;refine zzV (iD hlt) (by simp) ?_;exact q
def Kq[Laid](s:ae)(b:UInt8):bn p_ 72 [.str s,bf b] (i_ (Lib.indexByte s b)):=by
 refine iy (v:=.int .i64 (Lib.indexByte s b)) (by simp[aO,bf]) (by simp) (by simp) (fun w=>by simp) ?_;intro ι S w vs h1 hg
 match vs,h1 with
 | [],h1=>simp at h1
 | [v],h1=>simp at h1
 | v:: u:: x:: vs,h1=>simp at h1
 | [v,u],h1 =>
   simp only[bP,dt,and_true,eF,bf,cz]at h1;obtain⟨⟨rfl,_⟩,rfl⟩:=h1;refine (Any.strings_IndexByte lays137 ⟨s.toArray⟩ (b.toNat:Int) w).mono ?_;rintro e w' ⟨rfl,rfl⟩;exact⟨by simp,Below.refl _ _⟩
def bA{id o:Nat}{K:AV→Prop}(q:K (.op id o)):ca P (.op id o) K:=q
structure Tok where
 k:Int
 t:ae
 n:Int
 u:ae
 f:Bool
abbrev Tok.row(x:Tok):List AV:=[u8 x.k,.str x.t,i_ x.n,.str x.u,b_ x.f]
abbrev Tok.av(x:Tok):AV:=vY x.k x.t x.n x.u x.f
abbrev cT(l:List Tok):List (List AV):=l.map Tok.row
def pg(l:List Tok):(cT l).all (dy 5)=true:=Ch (f:=Tok.row) (fun x=>⟨rfl,by simp[bG]⟩) l
theorem kX:∀l:List Tok,cG (cT l)
 | []=>by simp[cG]
 | x:: l=>by show cG (x.row:: cT l);rw[cG];exact⟨by simp[aO],kX l⟩
end
end Go.Proofs.YtpcnidmmkknndaaGreatDoor
namespace Go.Rt
section
open Go
abbrev ae:=List UInt8
def ax(s:ae)(i:Nat):UInt8:=s.getD i 0
def ck(c:UInt8):Bool:=decide (48≤c.toNat)&&decide (c.toNat≤57)
def xi(c:UInt8):UInt8:=if 65≤c.toNat∧c.toNat≤90 then c+32 else c
def iY(c:UInt8):Int:=if ck c=true then (c.toNat:Int)-48 else if 97≤(xi c).toNat∧(xi c).toNat≤102 then ((xi c).toNat:Int)-97+10 else -1
def fv(c:UInt8):Bool:=decide (c=10)||decide (c=9)||decide (c=32)
def tX(c:UInt8):Bool:=(decide (97≤(xi c).toNat)&&decide ((xi c).toNat≤122))||decide (c=95)||decide (128≤c.toNat)
def fq(c:UInt8):Bool:=tX c||ck c||decide (c=45)
def cC(s:ae)(i:Nat):Bool:=decide (ax s i=92)&&!decide (ax s (i+1)=10)
def lQ:ae:=[239,191,189]
def sH(n:Nat):ae:=if n=0∨(55296≤n∧n≤57343)∨1114111<n then lQ else if n<128 then [UInt8.ofNat n] else if n<2048 then [UInt8.ofNat (192+n/64),UInt8.ofNat (128+n%64)] else if n<65536 then [UInt8.ofNat (224+n/4096),UInt8.ofNat (128+n/64%64),UInt8.ofNat (128+n%64)] else [UInt8.ofNat (240+n/262144),UInt8.ofNat (128+n/4096%64),UInt8.ofNat (128+n/64%64),UInt8.ofNat (128+n%64)]
def kH(s:ae):Nat→Nat→Nat→Nat×Nat
 | 0,i,n=>(n,i)
 | k+1,i,n=>match s[i]? with
   | some c=>if 0≤iY c then kH s k (i+1) (16*n+(iY c).toNat) else (n,i)
   | none=>(n,i)
theorem Hm(s:ae):∀k i n,i≤(kH s k i n).2
 | 0,i,n=>Nat.le_refl _
 | k+1,i,n=>by
   rw[kH];split
   ·split
    ·exact Nat.le_trans (Nat.le_succ _) (Hm s k _ _)
    ·exact Nat.le_refl _
   ·exact Nat.le_refl _
def cW(s:ae)(i:Nat):ae×Nat:=match s[i+1]? with
 | none=>(lQ,i+1)
 | some c=>if iY c<0 then ([c],i+2) else
   let r:=kH s 6 (i+1) 0
   (sH r.1,if fv (ax s r.2)=true then r.2+1 else r.2)
def gd(s:ae)(i:Nat):i<(cW s i).2:=by
 unfold cW;split
 ·exact Nat.lt_succ_self _
 ·split
  ·exact Nat.lt_succ_of_lt (Nat.lt_succ_self _)
  ·have:=Hm s 6 (i+1) 0;dsimp only;split<;>omega
def gq(s:ae)(i:Nat):Bool:=if ax s i=45 then tX (ax s (i+1))||decide (ax s (i+1)=45)||cC s (i+1) else tX (ax s i)||cC s i
def dk(s:ae)(i:Nat):ae×Nat:=
 if h:i<s.length then
  if fq s[i]=true then let r:=dk s (i+1);(s[i]:: r.1,r.2)
  else if cC s i=true then let r:=dk s (cW s i).2;((cW s i).1++r.1,r.2)
  else ([],i)
 else ([],i)
termination_by s.length-i
decreasing_by
 ·omega
 ·have:=gd s i;omega
def jP(s:ae)(i:Nat):Bool:=
 let j:=if ax s i=43∨ax s i=45 then i+1 else i
 ck (ax s (if ax s j=46 then j+1 else j))
def fT(s:ae)(i:Nat):Nat:=i+((s.drop i).takeWhile ck).length
def gU(s:ae)(i:Nat):Nat×Bool:=
 let i1:=fT s (if ax s i=43∨ax s i=45 then i+1 else i)
 let r:=if ax s i1=46∧ck (ax s (i1+1))=true then (fT s (i1+1),false) else (i1,true)
 if ax s r.1=101∨ax s r.1=69 then
  let k:=if ax s (r.1+1)=43∨ax s (r.1+1)=45 then r.1+2 else r.1+1
  if ck (ax s k)=true then (fT s k,false) else r
 else r
def tI(most:Nat):Nat→Nat→Nat
 | 0,n=>n
 | p+1,n=>if 0<n∧n<most then tI most p (min most (10*n)) else n
def kL(x:ae)(r:Option ae×Nat):Option ae×Nat:=(r.1.map (x++·),r.2)
def il(mark:UInt8)(s:ae)(i:Nat):Option ae×Nat:=
 if h:i<s.length then
  if s[i]=mark then (some [],i+1)
  else if s[i]=10 then (none,i)
  else if s[i]=92 then
   if i+1=s.length then (some [],i+1)
   else if ax s (i+1)=10 then il mark s (i+2)
   else kL (cW s i).1 (il mark s (cW s i).2)
  else kL [s[i]] (il mark s (i+1))
 else (some [],i)
termination_by s.length-i
decreasing_by
 ·omega
 ·have:=gd s i;omega
 ·omega
def fe(s:ae)(i:Nat):Nat:=i+((s.drop i).takeWhile fv).length
def mV(s:ae)(i:Nat):Nat:=
 if h:i<s.length then
  if s[i]=41 then i+1
  else if cC s i=true then mV s (cW s i).2 else mV s (i+1)
 else min s.length (i+1)
termination_by s.length-i
decreasing_by
 ·have:=gd s i;omega
 ·omega
def Ga(c:UInt8):Bool:=decide (c.toNat≤8)||decide (c.toNat=11)||(decide (14≤c.toNat)&&decide (c.toNat≤31))||decide (c.toNat=127)
def jd(s:ae)(i:Nat):Option ae×Nat:=
 if h:i<s.length then
  if s[i]=41 then (some [],i+1)
  else if fv s[i]=true then
   if fe s i<s.length∧ax s (fe s i)≠41 then (none,mV s (fe s i)) else (some [],min s.length (fe s i+1))
  else if s[i]=34∨s[i]=39∨s[i]=40∨Ga s[i]=true∨(s[i]=92∧cC s i=false) then (none,mV s i)
  else if s[i]=92 then kL (cW s i).1 (jd s (cW s i).2)
  else kL [s[i]] (jd s (i+1))
 else (some [],min s.length (i+1))
termination_by s.length-i
decreasing_by
 ·have:=gd s i;omega
 ·omega
def xr:ae:=[117,114,108]
def lL:ae:=[58,59,44,91,93,40,41,123,125]
def hasB(s:ae)(i:Nat)(x:ae):Bool:=decide ((s.drop i).take x.length=x)
def mW(s:ae)(i:Nat):Nat:=if h:i<s.length then (if hasB s i [42,47]=true then i+2 else mW s (i+1)) else s.length
termination_by s.length-i
theorem xE(s:ae)(i:Nat):min s.length i≤mW s i:=by
 rw[mW];split
 ·split
  ·omega
  ·have:=xE s (i+1);omega
 ·omega
termination_by s.length-i
def fZ(s:ae)(i:Nat):Nat:=if h:i<s.length∧hasB s i [47,42]=true then fZ s (mW s (i+2)) else i
termination_by s.length-i
decreasing_by
 have:=xE s (i+2);omega
end
end Go.Rt
namespace Go.dD
section
open Go Go.Aw
abbrev ae:=List UInt8
inductive Vl where
 | mk (kind:Int) (text:ae) (num:Int) (unit:ae) (flag:Bool) (list:List Vl)
def Vl.kind:Vl→Int|.mk k _ _ _ _ _=>k
def Vl.text:Vl→ae|.mk _ t _ _ _ _=>t
def Vl.num:Vl→Int|.mk _ _ n _ _ _=>n
def Vl.unit:Vl→ae|.mk _ _ _ u _ _=>u
def Vl.flag:Vl→Bool|.mk _ _ _ _ f _=>f
def Vl.list:Vl→List Vl|.mk _ _ _ _ _ l=>l
abbrev u1(n:Int):AV:=.v (.int .u8 n)
mutual
def jv:Vl→List AV
 | .mk k t n u f l=>[u1 k,.str t,i_ n,.str u,b_ f,.sl 6 (cA l)]
def cA:List Vl→List (List AV)
 | []=>[]
 | v:: l=>jv v:: cA l
end
theorem eA:∀l,cA l=l.map jv
 | []=>by simp[cA]
 | p:: l=>by simp[cA,eA l]
def lF(v:Vl):jv v=[u1 v.kind,.str v.text,i_ v.num,.str v.unit,b_ v.flag,.sl 6 (v.list.map jv)]:=by
 cases v;simp[jv,eA,Vl.kind,Vl.text,Vl.num,Vl.unit,Vl.flag,Vl.list]
mutual
theorem Pt:∀x:Vl,aO (jv x)
 | .mk k t n u f l=>by simp[jv,aO,Aw.Pure,lz l]
theorem lz:∀l:List Vl,cG (cA l)
 | []=>by simp[cA,cG]
 | v:: l=>by simp[cA,cG,Pt v,lz l]
end
def cw(k:Int):Int:=if k=2 then 22 else if k=19∨k=21∨k=23 then k+1 else 0
mutual
def pF:Vl→Nat
 | .mk k _ _ _ _ l=>if cw k=0 then 0 else dp l+1
def dp:List Vl→Nat
 | []=>0
 | v:: l=>max (pF v) (dp l)
end
mutual
def uZ:Vl→Nat
 | .mk k _ _ _ _ l=>if cw k=0 then 1 else dh l+2
def dh:List Vl→Nat
 | []=>0
 | v:: l=>uZ v+dh l
end
mutual
def wL(c:Int):Vl→Bool
 | .mk k _ _ _ _ l=>!decide (c=0)&&decide (k=c)||(if cw k=0 then !l.isEmpty else eL (cw k) l)
def eL(c:Int):List Vl→Bool
 | []=>false
 | v:: l=>wL c v||eL c l
end
def js(l:List Vl):Int:=if 16<dp l then 20 else if 1500<dh l then 4 else if eL 0 l then 8 else 0
/-! ### A size -/
mutual
def zV:Vl→Nat
 | .mk _ t _ u _ l=>1+t.length+u.length+bV l
def bV:List Vl→Nat
 | []=>0
 | v:: l=>zV v+bV l
end
theorem VH:∀v,0<zV v
 | .mk _ _ _ _ _ _=>by rw[zV];omega
def uL(h:v∈l):zV v≤bV l:=by
 induction l with
 | nil=>cases h
 | cons y l ih =>
   rw[bV];rcases ID.1 h with rfl|h
   ·omega
   ·have:=ih h;omega
theorem mP:∀l:List Vl,l.length≤bV l
 | []=>by simp
 | v:: l=>by have:=mP l;have:=VH v;rw[bV,aaP];omega
mutual
theorem PY:∀v,uZ v≤2*zV v
 | .mk k t n u f l=>by
   have:=u2 l;rw[uZ,zV];split<;>omega
theorem u2:∀l,dh l≤2*bV l
 | []=>by simp[dh]
 | v:: l=>by have:=PY v;have:=u2 l;rw[dh,bV];omega
end
mutual
theorem Np:∀v,pF v≤zV v
 | .mk k t n u f l=>by
   have:=sX l;rw[pF,zV];split<;>omega
theorem sX:∀l,dp l≤bV l
 | []=>by simp[dp]
 | v:: l=>by have:=Np v;have:=sX l;rw[dp,bV];omega
end
theorem qj:∀a b:List Vl,dp (a++b)=max (dp a) (dp b)
 | [],b=>by simp[dp]
 | v:: a,b=>by simp[dp,qj a b,Nat.max_assoc]
theorem oq:∀a b:List Vl,dh (a++b)=dh a+dh b
 | [],b=>by simp[dh]
 | v:: a,b=>by simp[dh,oq a b,Nat.add_assoc]
theorem rJ(c:Int):∀a b:List Vl,eL c (a++b)=(eL c a||eL c b)
 | [],b=>by simp[eL]
 | v:: a,b=>by simp[eL,rJ c a b,Bool.or_assoc]
theorem mO:∀a b:List Vl,bV (a++b)=bV a+bV b
 | [],b=>by simp[bV]
 | v:: a,b=>by simp[bV,mO a b,Nat.add_assoc]
section
variable {l:List Vl} {k:Nat} {v:Vl}
def Gr(h:l[k]?=some v):dp (l.take (k+1))=max (dp (l.take k)) (pF v):=by
 rw[By,h,qj];simp[dp]
def IY(h:l[k]?=some v):dh (l.take (k+1))=dh (l.take k)+uZ v:=by
 rw[By,h,oq];simp[dh]
def IV(c:Int)(h:l[k]?=some v):eL c (l.take (k+1))=(eL c (l.take k)||wL c v):=by
 rw[By,h,rJ];simp[eL]
end
def pP(l:List Vl)(k:Nat):bV (l.take k)≤bV l:=by
 have:=mO (l.take k) (l.drop k);rw[List.take_append_drop]at this;omega
end
end Go.dD
namespace Go.Proofs.YtpcnidmmkknndaaGreatDoor
section
open Go Go.Aw Go.dD Go.bo
/-! ### Blocks -/
def gD(o:Tok)(l:List Vl):Vl:=.mk o.k o.t o.n o.u o.f l
def iE(t:Tok)(c:List Vl):List (Tok×List Vl)→Option (List Vl×List (Tok×List Vl))
 | []=>if cw t.k≠0 then some ([],[(t,c)]) else some (c++[gD t []],[])
 | (o,b):: s=>if t.k=cw o.k then some (b++[gD o c],s)
  else if cw t.k≠0 then (if s.length+1=16 then none else some ([],(t,c):: (o,b):: s)) else some (c++[gD t []],(o,b):: s)
def qn(c:List Vl):List (Tok×List Vl)→List Vl
 | []=>c
 | (o,b):: s=>qn (b++[gD o c]) s
def iT:List Tok→List Vl→List (Tok×List Vl)→Option (List Vl×List (Tok×List Vl))
 | [],c,s=>some (c,s)
 | t:: l,c,s=>match iE t c s with|some (c,s)=>iT l c s|none=>none
def kK(l:List Tok):List Vl×Int:=if 1500<l.length then ([],4) else match iT l [] [] with
 | none=>([],20)
 | some (c,s)=>if 1500<l.length+s.length then ([],4) else (qn c s,0)
/-! ### Progressions -/
def dK:List Tok→List Tok
 | []=>[]
 | t:: r=>if t.k=13 then dK r else t:: r
def lg(k:Int):List Tok→Option (Tok×List Tok)
 | []=>none
 | t:: r=>if t.k=k then some (t,r) else none
def iH:List Tok→Int×List Tok
 | []=>(0,[])
 | t:: r=>if t.k=9∧t.t=[43] then (1,r) else if t.k=9∧t.t=[45] then (-1,r) else (0,t:: r)
def cY(l:List Tok):(Int×Bool)×List Tok:=match lg 10 l with
 | some (t,r)=>((t.n.tdiv 1000,t.f&&decide (t.n.tmod 1000=0)),r)
 | none=>((0,false),l)
def jN:ae:=[48,49,50,51,52,53,54,55,56,57]
def cg(s:ae):ae:=s.map bo.dX
def Ed(w:ae)(l:List Tok):(Int×Bool)×List Tok:=
 if w=[45] then cY (dK l)
 else if w≠[] then (if Lib.hasPrefix w [45]=false∨Lib.trimS (Lib.trimPrefix w [45]) jN≠[] then ((0,false),l) else ((-((min (im (Lib.trimPrefix w [45])) 1000000000:Nat):Int),true),l))
 else match dK l with
  | []=>((0,true),[])
  | t:: r=>let s:=iH (t:: r);let w:=cY (dK s.2)
    if s.1=0 then w else ((s.1*w.1.1,w.1.2&&decide (0≤w.1.1)),w.2)
def fS(w:ae)(l:List Tok):(Int×Bool)×List Tok:=
 if w=[45] then (let r:=cY (dK l);((-1*r.1.1,r.1.2&&decide (0≤r.1.1)),r.2)) else Ed w l
def gV(l:List Tok):((Int×Int)×Bool)×List Tok:=
 let w:=cY l
 if w.1.2=true then (((0,w.1.1),true),w.2)
 else match lg 12 w.2 with
  | some (t,r)=>if Lib.hasPrefix (cg t.u) [110]=true∧t.f=true∧t.n.tmod 1000=0 then
   (let b:=fS (Lib.trimPrefix (cg t.u) [110]) r;(((t.n.tdiv 1000,b.1.1),b.1.2),b.2)) else (((0,0),false),r)
  | none=>let s:=iH w.2
    match lg 1 s.2 with
    | none=>(((0,0),false),s.2)
    | some (t,r)=>if s.1<0 then (((0,0),false),r) else
      let m:=cg t.t
      if s.1=0∧m=[111,100,100] then (((2,1),true),r)
      else if s.1=0∧m=[101,118,101,110] then (((2,0),true),r)
      else
       let neg:Bool:=decide (s.1=0)&&Lib.hasPrefix m [45]
       let q:=if neg=true then Lib.trimPrefix m [45] else m
       if Lib.hasPrefix q [110]=true then (let b:=fS (Lib.trimPrefix q [110]) r;((((if neg=true then -1 else 1:Int),b.1.1),b.1.2),b.2)) else (((0,0),false),r)
def kr(n:Int):Bool:=decide (-1000000000≤n)&&decide (n≤1000000000)
def wm(l:List Tok):Option (Int×Int):=
 let r:=gV (dK l)
 if r.1.2=true∧dK r.2=[]∧kr r.1.1.1=true∧kr r.1.1.2=true then some r.1.1 else none
/-! ### Selectors -/
def cv:List Vl→List Vl
 | []=>[]
 | v:: r=>if v.kind=13 then cv r else v:: r
def jr(c:UInt8):List Vl→Option (List Vl)
 | []=>none
 | v:: r=>if v.kind=9∧v.text=[c] then some r else none
def kv(v:List Vl):Int×List Vl:=match jr 62 v with
 | some r=>(2,cv r)
 | none=>match jr 43 v with
   | some r=>(3,cv r)
   | none=>match jr 126 v with
     | some r=>(4,cv r)
     | none=>(0,v)
def dx(k:Int)(n:ae):Sm:=.mk k n 0 [] false 0 0 false []
def eH(n:ae)(o:Int)(w:ae)(f:Bool):Sm:=.mk 3 n o w f 0 0 false []
def pf:ae:=[126,124,94,36,42]
def GQ(n:ae)(o:Int)(w:ae):List Vl→Sm×Bool
 | []=>(eH n o w false,true)
 | f:: r=>if f.kind=1 then (eH n o w (decide (cg f.text=[105])),(cv r).isEmpty&&(decide (cg f.text=[105])||decide (cg f.text=[115]))) else (eH n o w false,false)
def yp(n:ae)(o:Int):List Vl→Sm×Bool
 | []=>(eH n o [] false,false)
 | t:: r=>if t.kind=1∨t.kind=5 then GQ n o t.text (cv r) else (eH n o [] false,false)
def qw(n:ae)(q:List Vl):Sm×Bool:=match q with
 | []=>(eH n 0 [] false,true)
 | t:: r=>match jr 61 (t:: r) with
   | some r=>yp n 1 (cv r)
   | none=>if t.kind=9∧0≤Lib.index pf t.text then (match jr 61 r with
     | some r=>yp n (2+Lib.index pf t.text) (cv r)
     | none=>(eH n 0 [] false,false)) else (eH n 0 [] false,false)
def lO(v:List Vl):Sm×Bool:=match cv v with
 | []=>(eH [] 0 [] false,false)
 | t:: r=>if t.kind=1 then qw (cg t.text) (cv r) else (eH (cg t.text) 0 [] false,false)
def dY:List ae:=[[108,105,110,107],[118,105,115,105,116,101,100],[97,110,121,45,108,105,110,107],[114,111,111,116],[101,109,112,116,121],[110,116,104,45,99,104,105,108,100],[110,116,104,45,108,97,115,116,45,99,104,105,108,100],[105,115],[119,104,101,114,101],[110,111,116],[104,97,115]]
def kT(l:List ae)(s:ae):Int:=match l.idxOf? s with|some i=>(i:Int)|none=>-1
def mB(s:ae):Sm×Bool:=
 if cg s=[102,105,114,115,116,45,99,104,105,108,100] then (.mk 9 [] 0 [] false 0 1 false [],true)
 else if cg s=[108,97,115,116,45,99,104,105,108,100] then (.mk 10 [] 0 [] false 0 1 false [],true)
 else (dx (4+max (kT dY (cg s)) 0) [],decide (0≤kT dY (cg s))&&decide (kT dY (cg s)<5))
def OE(v:Vl):Tok:=⟨v.kind,v.text,v.num,v.unit,v.flag⟩
mutual
def iM:Vl→List Tok
 | .mk k t n u f l=>⟨k,t,n,u,f⟩:: (if cw k=0 then [] else bu l++[⟨cw k,[],0,[],false⟩])
def bu:List Vl→List Tok
 | []=>[]
 | v:: l=>iM v++bu l
end
abbrev Sub:=Int→List Vl→Bool→Bool→Option (List Cx×Bool)
def sd(k:Int)(w:Bool)(l:List Cx)(v:List Vl):Sm×Bool:=if js v=0 then (match wm (bu v) with
 | some (a,b)=>(.mk k [] 0 [] false a b w l,true)
 | none=>(.mk k [] 0 [] false 0 0 w l,false)) else (.mk k [] 0 [] false 0 0 w l,false)
def ja(v:Vl):Bool:=decide (v.kind=1)&&decide (cg v.text=[111,102])
def vC(sub:Sub)(k:Int)(v:List Vl):Sm×Bool:=match v.findIdx? ja with
 | some i=>(match sub k (v.drop (i+1)) false false with
   | some (l,true)=>sd k true l (v.take i)
   | _=>(dx k [],false))
 | none=>sd k false [] v
def iz(sub:Sub)(s:ae)(v:List Vl):Sm×Bool:=
 let i:=kT dY (cg s)
 if i<5 then (dx 0 [],false)
 else if i<7 then vC sub (4+i) v
 else match sub (4+i) v (decide (4+i=14)) (decide (4+i≤12)) with
  | none=>(dx (4+i) [],false)
  | some (l,b)=>(.mk (4+i) [] 0 [] false 0 0 false l,b)
def iI(x:Sm):Option (List Sm×List Vl)→Option (List Sm×List Vl)
 | some (l,r)=>some (x:: l,r)
 | none=>none
def di(fn:ae→List Vl→Sm×Bool):List Vl→Option (List Sm×List Vl)
 | []=>some ([],[])
 | t:: r =>
   if t.kind=4 then (if t.flag=true then iI (dx 1 t.text) (di fn r) else none)
   else if t.kind=9∧t.text=[46] then (match r with
    | []=>none
    | u:: q=>if u.kind=1 then iI (dx 2 u.text) (di fn q) else none)
   else if t.kind=19 then (if (lO t.list).2=true then iI (lO t.list).1 (di fn r) else none)
   else if t.kind=16 then (match r with
    | []=>none
    | u:: q=>if u.kind=1 then (if (mB u.text).2=true then iI (mB u.text).1 (di fn q) else none)
      else if u.kind=2 then (if (fn u.text u.list).2=true then iI (fn u.text u.list).1 (di fn q) else none) else none)
   else some ([],t:: r)
def ep:List Vl→ae×List Vl
 | []=>([],[])
 | t:: r=>if t.kind=1 then (cg t.text,r) else match jr 42 (t:: r) with|some r=>([42],r)|none=>([],t:: r)
def jt(fn:ae→List Vl→Sm×Bool)(ok:Cp→Bool)(lead:Int):Nat→List Cp→List Int→List Vl→Cx×Bool
 | 0,ps,cs,_=>(.mk lead ps cs,false)
 | n+1,ps,cs,v=>match di fn (ep v).2 with
   | none=>(.mk lead ps cs,false)
   | some (ss,r)=>if ok (.mk (ep v).1 ss)=true then
    (if cv r=[] then (.mk lead (ps++[.mk (ep v).1 ss]) cs,decide (ps.length+1≤64))
    else if (kv (cv r)).1=0 then
     (if (cv r).length=r.length then (.mk lead (ps++[.mk (ep v).1 ss]) cs,false) else jt fn ok lead n (ps++[.mk (ep v).1 ss]) (cs++[1]) (kv (cv r)).2)
    else jt fn ok lead n (ps++[.mk (ep v).1 ss]) (cs++[(kv (cv r)).1]) (kv (cv r)).2)
    else (.mk lead ps cs,false)
def kE(fn:ae→List Vl→Sm×Bool)(ok:Cp→Bool)(rel:Bool)(v:List Vl):Cx×Bool:=
 let c:=kv (cv v)
 if rel=true then jt fn ok (if c.1=0 then 1 else c.1) (c.2.length+1) [] [] c.2 else jt fn ok 0 ((cv v).length+1) [] [] (cv v)
def dR:List Vl→List (List Vl)
 | []=>[[]]
 | v:: r=>if v.kind=18 then []:: dR r else match dR r with
   | h:: t=>(v:: h):: t
   | []=>[[v]]
def fu(cp:List Vl→Cx×Bool)(forg:Bool):List (List Vl)→List Cx→List Cx×Bool
 | [],acc=>(acc,true)
 | p:: ps,acc=>if (cp p).2=true then fu cp forg ps (acc++[(cp p).1]) else if forg=true then fu cp forg ps acc else ([],false)
def kz:Nat→Bool→List Vl→Bool→Bool→List Cx×Bool
 | 0,has,v,rel,forg=>fu (kE (iz fun _ _ _ _=>none) (cN 3 has) rel) forg (dR v) []
 | k+1,has,v,rel,forg=>fu (kE (iz fun kd v rel forg=>if has=true∧kd=14 then none else some (kz k (has||decide (kd=14)) v rel forg)) (cN (3-(k+1)) has) rel) forg (dR v) []
def Li(v:List Vl):List Cx×Int:=if js v=0 then (let r:=kz 3 false v false false
 if r.2=true then (if 64<number r.1 then ([],4) else (r.1,0)) else ([],12)) else ([],js v)
end
end Go.Proofs.YtpcnidmmkknndaaGreatDoor
namespace Go.Aw
section
open Go Go.RowKit
def EY{p:Nat→Prop}(h:∃k,p k):∃k,p k∧∀j,p j→k≤j:=by
 obtain⟨k,hk⟩:=h;induction k using Nat.strongRecOn with
 | _ k ih =>
   by_cases q:∃j,j<k∧p j
   ·obtain⟨j,hj,pj⟩:=q;exact ih j hj pj
   ·exact⟨k,hk,fun j pj=>Nat.le_of_not_lt fun z=>q ⟨j,z,pj⟩⟩
open Classical in
def A2(p:Nat→Prop):Nat:=if h:∃k,p k then Classical.choose (EY h) else 0
def yA{p:Nat→Prop}(h:∃k,p k):p (A2 p)∧∀j,p j→A2 p≤j:=by
 unfold A2;rw[dif_pos h];exact Classical.choose_spec (EY h)
theorem Dy{Q:Exit→Act→World→Prop}{c rest:Code}(l:Nat)(J:Nat→Act→World→Prop)(hf:findLabel c l=some rest)(first:c.wp P (Exit.jump l (fun a w=>∃k,J k a w) Q) a w)
 (pass:∀k a w,J k a w→rest.wp P (Exit.jump l (fun a' w' => ∃k',k'<k∧J k' a' w') Q) a w):(Code.scope c).wp P Q a w:=by
 refine wp_scope_jumps l (fun a w=>∃k,J k a w) (fun a w=>A2 fun k=>J k a w) hf first fun a w h=>?_
 obtain⟨h1,h2⟩:=yA h;refine wp_mono (pass _ a w h1) fun e a' w' z=>?_;cases e with
 | goto l' =>
   obtain⟨rfl,k',hk,hJ⟩:=z;exact⟨rfl,⟨k',hJ⟩,Nat.lt_of_le_of_lt ((yA (p:=fun k=>J k a' w') ⟨k',hJ⟩).2 k' hJ) hk⟩
 | normal=>exact z
 | exit id=>exact z
 | ret=>exact z
 | panic ch=>exact z
 | outgrown=>exact z
end
section
open Go Go.RowKit
variable [Laid]
section
variable {P:Program} {ops:Array Oper} {n:Nat} {Lo Fe Ee Ge:Nat→Bool} {B:Nat→Prop}
def NK(e:od f f'):aE f=aE f':=by
 funext x
 cases x with
 | tmp t=>exact e t
 | _=>rfl
theorem BV{Z:Fr→aa→Prop}(hZ:∀f f' h,od f f'→Z f h→Z f' h):∀(l:List Nat) {f f':Fr} {h:aa},od f f'→ko P ops n Lo Fe Ee Ge B Z l f h→ko P ops n Lo Fe Ee Ge B Z l f' h
 | [],f,f',h,e,q=>hZ _ _ _ e q
 | i:: l,f,f',h,e,q=>by
   simp only[ko]at q ⊢;cases ho:ops[i]? with
   | none=>rw[ho]at q;exact q.elim
   | some o =>
     rw[ho]at q;simp only at q ⊢;rcases q with⟨hl,hg,own,K0,q,k⟩|⟨hl,x,hy,hf,hee,q⟩
     ·exact .inl ⟨hl,hg,own,K0,by rw[←NK e];exact q,fun v h' z=>⟨(k v h' z).1,BV hZ l (e.set n o.dst v) (k v h' z).2⟩⟩
     ·exact .inr ⟨hl,x,hy.same fun t _=>(e t).symm,fun z h' => (hf z h').same fun t _=>(e t).symm,fun z h' hl=>(hee z h' hl).same fun t _=>(e t).symm,BV hZ l (e.set n o.dst x) q⟩
def DC(P:Program)(ops:Array Oper)(i:Nat):Bool:=match ops[i]? with|some o=>vf P false o.op&&vf P true o.op|none=>false
def RO{fr:Fr}(ho:ops[i]?=some o)(hf:DC P ops i=true)(hy:YA P ops h o x fr)(h':aa):YA P ops h' o x fr:=by
 unfold DC at hf;rw[ho]at hf;simp only[NO]at hf;rcases hy with⟨w,own,q⟩|r
 ·refine .inl ⟨w,own,wR ?_ q⟩;cases own
  ·exact hf.1
  ·exact hf.2
 ·exact .inr r
theorem KZ{Z:Fr→aa→Prop}:∀(l:List Nat) (fr:Fr),(∀i∈l,i<ops.size∧Lo i=false∧Ee i=false∧(Fe i=true→DC P ops i=true))→lW P ops n h (fun fr=>ko P ops n Lo Fe Ee Ge B Z r fr h) (ke ops l) fr→ko P ops n Lo Fe Ee Ge B Z (l++r) fr h
 | [],fr,_,q=>q
 | i:: l,fr,hl,q=>by
   obtain⟨h1,h2,h3,h4⟩:=hl i (by simp);have ho:ops[i]?=some ops[i]:=UP h1;rw[oA ho]at q;obtain⟨x,hy,q⟩:=q;simp only[abv,ko,ho];exact .inr ⟨h2,x,hy,fun z h' => RO ho (h4 z) hy h',fun (z:Ee i=true)=>(by rw[h3]at z;cases z),KZ l _ (fun j hj=>hl j (by simp[hj])) q⟩
theorem lZ{K:Fr→aa→Prop}:∀(l:List (Nat×Nat×Bool)) (fr:Fr) (h:aa),(∀p∈l,(∀o,ops[p.1]?=some o→o.guard=none)∧(Lo p.1=(match p.2.1 with|0=>false|1=>false|3=>false|_=>true))∧(Fe p.1=true→p.2.1=0)∧(Ee p.1=true→p.2.1=3)∧(Ge p.1=true→p.2.1=4∨(p.2.1≠4∧∃o,ops[p.1]?=some o∧AB o.op=true))) →
 rK P ops n l fr h K→ko P ops n Lo Fe Ee Ge (fun _=>True) K (l.map (·.1)) fr h
 | [],fr,h,_,q=>q
 | (i,k,own):: l,fr,h,hk,q=>by
  obtain⟨hg,hlo,hfe,hee,hge⟩:=hk (i,k,own) (by simp);dsimp only at hg hlo hfe hee hge;have hk':=fun p (hp:p∈l)=>hk p (by simp[hp]);simp only[rK]at q;simp only[GO,ko];cases ho:ops[i]? with
  | none=>rw[ho]at q;exact q.elim
  | some o =>
    rw[ho]at q;simp only at q ⊢;have hw:∀fr,gK ops o fr=some true:=fun fr=>by unfold gK;rw[hg o ho]
    split at q
    ·obtain⟨x,q1,q2⟩:=uj q;refine .inr ⟨hlo,x,.inl ⟨hw fr,own,by simpa using q1 h⟩,fun _ h' => .inl ⟨hw fr,own,by simpa using q1 h'⟩,fun (z:Ee i=true)=>(by have:=hee z;cases this),lZ l _ h hk' q2⟩
    ·obtain⟨x,q1,q2⟩:=rh q;refine .inr ⟨hlo,x,.inl ⟨hw fr,own,q1⟩,fun (z:Fe i=true)=>(by have:=hfe z;cases this),fun (z:Ee i=true)=>(by have:=hee z;cases this),lZ l _ h hk' q2⟩
    ·obtain⟨x,q1,q2⟩:=vq (B:=fun _=>True) (own:=own) (fun _ _ _ _ _ _=>trivial) q;refine .inr ⟨hlo,x,.inl ⟨hw fr,own,q1 h (fB.refl _)⟩,fun (z:Fe i=true)=>(by have:=hfe z;cases this),fun _ h' hl=>.inl ⟨hw fr,own,q1 h' hl⟩,lZ l _ h hk' q2⟩
    ·obtain⟨hgr,q⟩:=aX q;exact .inl ⟨hlo,hg o ho,own,_,GN hgr q,fun v h' k=>⟨fun _=>k.1,lZ l _ h' hk' k.2⟩⟩
    ·rename_i h0 h1 h3 h4;have hlo:Lo i=true:=by
      rw[hlo];split
      ·exact absurd rfl h0
      ·exact absurd rfl h1
      ·exact absurd rfl h3
      ·rfl
     cases hex:AB o.op with
     | true=>exact .inl ⟨hlo,hg o ho,own,_,vV hex q,fun v h' k=>⟨fun _=>by obtain⟨⟨e,rfl⟩,_⟩:=k;exact fB.ext _ _,lZ l _ h' hk' k.2⟩⟩
     | false =>
       have hge:Ge i=true→False:=fun z=>by
        rcases hge z with z|⟨_,o2,z1,z2⟩
        ·exact absurd z h4
        ·rw[ho]at z1;cases z1;rw[hex]at z2;cases z2
       exact .inl ⟨hlo,hg o ho,own,_,q,fun v h' k=>⟨fun z=>(hge z).elim,lZ l _ h' hk' k⟩⟩
theorem w5{Z Z':Fr→aa→Prop}(hZ:∀f h,Z f h→Z' f h):∀(l:List Nat) {f:Fr} {h:aa},ko P ops n Lo Fe Ee Ge B Z l f h→ko P ops n Lo Fe Ee Ge B Z' l f h
 | [],f,h,q=>hZ _ _ q
 | i:: l,f,h,q=>by
   simp only[ko]at q ⊢;cases ho:ops[i]? with
   | none=>rw[ho]at q;exact q.elim
   | some o =>
     rw[ho]at q;simp only at q ⊢;rcases q with⟨hl,hg,own,K0,q,k⟩|⟨hl,x,hy,hf,hee,q⟩
     ·exact .inl ⟨hl,hg,own,K0,q,fun v h' z=>⟨(k v h' z).1,w5 hZ l (k v h' z).2⟩⟩
     ·exact .inr ⟨hl,x,hy,hf,hee,w5 hZ l q⟩
theorem tP{m:Nat}{Z:Fr→aa→Prop}{Q':Exit→St→Prop}(hZ:∀fr h,Z fr h→∃f2,od fr f2∧Q' .normal ⟨n,f2,h⟩):∀(fuel:Nat) (listed:Array Bool) (base:Nat) (ι:List Ix) (S:aY) (a:Act) (w:World) (fr:Fr) (h:aa),
 m≤h.length→bZ base ι S a w ⟨n,fr,h⟩→tL P ops n Lo Ge B Z fuel listed fr h→wpAny P .any ops (dz m base ι S w Q') fuel listed a w
 | 0,listed,base,ι,S,a,w,fr,h,hm,hr,q=>by
   rw[q.1];obtain⟨f2,e,k⟩:=hZ fr h q.2;exact⟨ti,ι,S,⟨n,f2,h⟩,bS.refl _ _ _ _ _,hm,⟨hr.df,hr.sz,fun u=>by rw[←e u];exact hr.fr u,hr.hp⟩,k⟩
 | fuel+1,listed,base,ι,S,a,w,fr,h,hm,hr,q=>by
   have hm':m≤ι.length:=by rw[hr.hp.len];exact hm
   refine⟨fun e=>absurd e q.1,fun i hi=>?_⟩;rcases q.2 i hi with⟨_,k⟩|⟨_,k⟩
   ·refine Fz (m:=m) hm' hr (fun ι' S' a' w' fr' h' hl hE hr' k=>?_) k;have:=tP (m:=m) (Q':=Q') hZ fuel (listed.setIfInBounds i true) base ι' S' a' w' fr' h' (by omega) hr' k;exact dV (fun e a w z=>dz.trans hE z) _ _ _ _ this
   ·refine zC (m:=m) hm' hr (fun ι' S' a' w' fr' hE hr' k=>?_) k;have:=tP (m:=m) (Q':=Q') hZ fuel (listed.setIfInBounds i true) base ι' S' a' w' fr' h hm hr' k;exact dV (fun e a w z=>dz.trans hE z) _ _ _ _ this
end
def wY(l:List dc):List Nat:=(l.map dc.ix).flatten
def HD(l:List dc)(s:List (Nat×Nat×Bool))(j:Nat):Bool:=match (wY l).contains j with|true=>false|false=>kP s j
def Hh(P:Program)(ops:Array Oper)(l:List dc)(s:List (Nat×Nat×Bool))(j:Nat):Bool:=match (wY l).contains j with|true=>DC P ops j|false=>tc s j
def Hf(l:List dc)(s:List (Nat×Nat×Bool))(j:Nat):Bool:=match (wY l).contains j with|true=>false|false=>sZ s j
def KJ(ops:Array Oper)(l:List dc)(s:List (Nat×Nat×Bool))(j:Nat):Bool:=match (wY l).contains j with|true=>false|false=>tp ops s j
def G8(P:Program)(ops:Array Oper)(n:Nat)(l:List dc)(s:List (Nat×Nat×Bool)):Bool:=
 P.follows .mixedOrders&&l.all (lS ops)&&l.all (rP ops n)&&(wY l).all (fun i=>decide (i<ops.size))&&s.all (fun p=>!(wY l).contains p.1&&(match ops[p.1]? with|some o=>o.guard.isNone|none=>false)&&Nat.beq (jF s p.1) p.2.1) &&
  decide ((wY l++s.map (·.1)).length=ops.size)&&Fp ops (HD l s) (Hh P ops l s) (Hf l s) (KJ ops l s) (wY l++s.map (·.1)) (Array.replicate ops.size false)
def G9(P:Program)(ops:Array Oper)(l:List dc)(s:List (Nat×Nat×Bool))(Q:Exit→St→Prop)(st:St):Prop:=
 cF (G8 P ops st.n l s) (pK P ops st.n st.h l st.fr fun fr=>rK P ops st.n s fr st.h fun fr h=>Q .normal ⟨st.n,fr,h⟩)
def GC{m id:Nat}{ops:Array Oper}{Q:Exit→St→Prop}{st:St}(hm:m≤st.h.length)(hq:G9 P ops l s Q st):AW P m (.region id ops true) Q st:=by
 intro base ι S a w _ hr;obtain⟨hok,hq⟩:=aX hq;simp only[G8,NO,Of]at hok;obtain⟨⟨⟨⟨⟨⟨k1,k2⟩,k3⟩,k4⟩,k5⟩,k6⟩,k7⟩:=hok;obtain⟨hE,hr'⟩:=hr.drew;refine wp_region_any k1 (dV (fun e a w z=>dz.trans (hE.mono (by rw[hr.hp.len];exact hm) (bY _)) z) _ _ _ _ ?_);have down0:Down ops (Array.replicate ops.size false):=fun i o ho hl=>by
  have hlt:=(AS.1 ho).1;simp[hlt]at hl
 obtain⟨n,fr0,h0⟩:=st;dsimp only at hq hm hr hr' k3
 let Z:Fr→aa→Prop:=fun fr h=>∃f2,od fr f2∧Q .normal ⟨n,f2,h⟩
 have hZ:∀f f' h,od f f'→Z f h→Z f' h:=fun f f' h e ⟨f2,e2,q⟩=>⟨f2,fun t=>by rw[←e t];exact e2 t,q⟩;have hk:∀p∈s,(∀o,ops[p.1]?=some o→o.guard=none)∧(HD l s p.1=(match p.2.1 with|0=>false|1=>false|3=>false|_=>true))∧(Hh P ops l s p.1=true→p.2.1=0)∧(Hf l s p.1=true→p.2.1=3)∧(KJ ops l s p.1=true→p.2.1=4∨(p.2.1≠4∧∃o,ops[p.1]?=some o∧AB o.op=true)):=by
  intro p hp;have:=At.1 k5 p hp;simp only[NO]at this;obtain⟨⟨c1,c2⟩,c3⟩:=this;have c1:(wY l).contains p.1=false:=by simpa using c1
  have c3:=lE c3;refine⟨fun o ho=>?_, ?_, ?_, ?_, ?_⟩
  ·rw[ho]at c2;simpa using c2
  ·unfold HD;rw[c1];show kP s p.1=_;unfold kP;rw[c3];rfl
  ·unfold Hh;rw[c1];show tc s p.1=true→_;unfold tc;rw[c3];intro z;split at z
   ·rename_i e;exact e
   ·cases z
  ·unfold Hf;rw[c1];show sZ s p.1=true→_;unfold sZ;rw[c3];intro z;split at z
   ·rename_i e;exact e
   ·cases z
  ·unfold KJ;rw[c1];show tp ops s p.1=true→_;unfold tp;rw[c3];intro z;split at z
   ·rename_i e;exact .inl e
   ·rename_i e;split at z
    ·rename_i o ho;exact .inr ⟨by rw[e];decide,o,ho,z⟩
    ·cases z
   ·cases z
 have q2:kS P ops n h0 l fr0 (fun fr=>ko P ops n (HD l s) (Hh P ops l s) (Hf l s) (KJ ops l s) (fun _=>True) Z (s.map (·.1)) fr h0):=
  Au l fr0 _ _ (fun fr hfr=>w5 (fun f h z=>⟨f,fun _=>rfl,z⟩) _ (lZ s fr h0 hk hfr)) (rB _ _ _ hq)
 have q3:=tB (fun f f' e z=>BV hZ _ e z) l fr0 k2 k3 q2;have q4:ko P ops n (HD l s) (Hh P ops l s) (Hf l s) (KJ ops l s) (fun _=>True) Z (wY l++s.map (·.1)) fr0 h0:=KZ _ _ (fun i hi=>by
  have c:(wY l).contains i=true:=by simpa using hi
  refine⟨oN (At.1 k4 i hi), ?_, ?_, ?_⟩
  ·unfold HD;rw[c]
  ·unfold Hf;rw[c]
  ·unfold Hh;rw[c];exact fun z=>z) q3
 have q5:=rH _ _ _ _ down0 k7 q4;rw[k6]at q5;exact tP (m:=m) (Q':=Q) (fun fr h z=>z) ops.size _ base ι S a _ fr0 h0 hm hr' q5
def qD(d:Nat)(x:AV):Bool:=match x with|.op id _=>!Nat.beq id d|_=>true
def vE(d:Nat)(x:AV):Bool:=match x with|.own id _ _ _=>Nat.beq id d|_=>true
def xl(d:Nat)(x:AV):Bool:=match x with|.op id _=>Nat.beq id d|_=>false
def EL(d:Nat)(ev:Operand→AV)(op:Op):Bool:=match op with
 | .store _ x _=>xl d (ev x)
 | .call c=>(match c.callee,c.args.toList with|.builtin .append,[x,_]=>vE d (ev x)|_,_=>false)
 | _=>false
def Jq(P:Program)(d:Nat)(ev:Operand→AV)(h:aa)(op:Op)(K:AV→Prop):Prop:=match op with
 | .load t x=>cF (qD d (ev x)) (cF (fU P t) (ah (fA P t) (P.cellsOf t) (ev x) h K))
 | _=>False
def KX{own:Bool}{ev:Operand→AV}{op:Op}{K:AV→Prop}(q:Jq P d ev h op K):∃x,(∀h',fB (·≠d) h h'→bF P own ev h' op fun v h2=>v=x∧h2=h')∧K x:=by
 unfold Jq at q;split at q
 ·rename_i t x;obtain⟨hb,q⟩:=aX q;refine vq (B:=(·≠d)) (own:=own) (fun t' x' id o e1 e2=>?_) (op:=.load t x) (by unfold EX;exact q);cases e1;unfold qD at hb;rw[e2]at hb;intro e;subst e;simp at hb
 ·exact q.elim
omit [Laid] in
def JI{d sz:Nat}{K:aa→Prop}(hx:xl d x=true)(q:ao sz x v h K):ao sz x v h fun h' => fB (·≠d) h h'∧K h':=by
 cases x<;>simp only[ao]at q⊢<;> first|exact q.elim|skip
 rename_i id o;cases e:h[id]? with
 | none=>rw[e]at q;exact q.elim
 | some en =>
   rw[e]at q;cases en with
   | ak b=>exact⟨q.1,fB.Wa (fun z=>z (lE hx)),q.2⟩
   | tok=>exact q.elim
   | dead=>exact q.elim
   | mp=>exact q.elim
   | it=>exact q.elim
def MW{own:Bool}{ev:Operand→AV}{op:Op}{K:AV→aa→Prop}(hg:EL d ev op=true)(q:bF P own ev h op K):bF P own ev h op fun v h' => fB (·≠d) h h'∧K v h':=by
 unfold EL at hg;split at hg
 ·simp only[bF]at q ⊢;obtain⟨hr,q⟩:=aX q;rw[hr];exact JI hg q
 ·rename_i c;split at hg
  ·rename_i x y hc ha;have hno:∀id o l s,ev x=.own id o l s→¬id≠d:=fun id o l s e=>by
    unfold vE at hg;rw[e]at hg;have:=lE hg;omega
   simp only[bF,hc]at q ⊢;split at q
   ·rename_i t tx x' y' hat hxy;rw[ha]at hxy;simp only[List.cons.injEq,and_true]at hxy;obtain⟨rfl,rfl⟩:=hxy;cases h1:P.underlying t with
    | none=>rw[h1]at q;exact q.elim
    | some d =>
      cases h2:P.underlying tx with
      | none=>rw[h1,h2]at q;cases d<;>exact q.elim
      | some d2 =>
        rw[h1,h2]at q;cases d<;>cases d2<;>simp only at q⊢<;> first|exact q.elim|(obtain⟨hr,q⟩:=aX q;rw[hr];exact wK hno q)
   ·exact q.elim
  ·cases hg
 ·cases hg
def sT(P:Program)(ops:Array Oper)(n d:Nat):List (Nat×Nat×Bool)→Fr→aa→(Fr→aa→Prop)→Prop
 | [],fr,h,K=>K fr h
 | (i,k,own):: r,fr,h,K=>match ops[i]? with
  | none=>False
  | some o=>(match k with
    | 0=>He P own (aE fr) [] o.op fun v=>sT P ops n d r (bO n fr o.dst v) h K
    | 1=>Eu P own (aE fr) h o.op fun v=>sT P ops n d r (bO n fr o.dst v) h K
    | 3=>Jq P d (aE fr) h o.op fun v=>sT P ops n d r (bO n fr o.dst v) h K
    | 4=>cF (EL d (aE fr) o.op) (bF P own (aE fr) h o.op fun v h' => sT P ops n d r (bO n fr o.dst v) h' K)
    | _=>bF P own (aE fr) h o.op fun v h' => sT P ops n d r (bO n fr o.dst v) h' K)
def G7(P:Program)(ops:Array Oper)(l:List (Nat×Nat×Bool))(Q:Exit→St→Prop)(st:St):Prop:=
 cF (xD P ops l) (∃d:Nat,sT P ops st.n d l st.fr st.h fun fr h=>Q .normal ⟨st.n,fr,h⟩)
theorem lY{ops:Array Oper}{K:Fr→aa→Prop}(hg:∀(i:Nat) (o:Oper),ops[i]?=some o→o.guard=none):∀(l:List (Nat×Nat×Bool)) (fr:Fr) (h:aa),(∀p∈l,jF L p.1=p.2.1)→sT P ops n d l fr h K→ko P ops n (kP L) (tc L) (sZ L) (tp ops L) (·≠d) K (l.map (·.1)) fr h
 | [],fr,h,_,q=>q
 | (i,k,own):: l,fr,h,hk,q=>by
  have hk0:jF L i=k:=hk (i,k,own) (by simp);have hk':∀p∈l,jF L p.1=p.2.1:=fun p hp=>hk p (by simp[hp]);simp only[sT]at q;simp only[GO,ko];cases ho:ops[i]? with
  | none=>rw[ho]at q;exact q.elim
  | some o =>
    rw[ho]at q;simp only at q ⊢;have hw:∀fr,gK ops o fr=some true:=fun fr=>by unfold gK;rw[hg i o ho]
    split at q
    ·obtain⟨x,q1,q2⟩:=uj q;refine .inr ⟨by simp[kP,hk0],x,.inl ⟨hw fr,own,by simpa using q1 h⟩,fun _ h' => .inl ⟨hw fr,own,by simpa using q1 h'⟩,fun z=>by simp[sZ,hk0]at z,lY hg l _ h hk' q2⟩
    ·obtain⟨x,q1,q2⟩:=rh q;refine .inr ⟨by simp[kP,hk0],x,.inl ⟨hw fr,own,q1⟩,fun z=>by simp[tc,hk0]at z,fun z=>by simp[sZ,hk0]at z,lY hg l _ h hk' q2⟩
    ·obtain⟨x,q1,q2⟩:=KX (own:=own) q;refine .inr ⟨by simp[kP,hk0],x,.inl ⟨hw fr,own,q1 h (fB.refl _)⟩,fun z=>by simp[tc,hk0]at z,fun _ h' hl=>.inl ⟨hw fr,own,q1 h' hl⟩,lY hg l _ h hk' q2⟩
    ·obtain⟨hgr,q⟩:=aX q;exact .inl ⟨by simp[kP,hk0],hg i o ho,own,_,MW hgr q,fun v h' k=>⟨fun _=>k.1,lY hg l _ h' hk' k.2⟩⟩
    ·rename_i h0 h1 h3 h4;have hlo:kP L i=true:=by
      unfold kP;rw[hk0];split
      ·exact absurd rfl h0
      ·exact absurd rfl h1
      ·exact absurd rfl h3
      ·rfl
     cases hex:AB o.op with
     | true=>exact .inl ⟨hlo,hg i o ho,own,_,vV hex q,fun v h' k=>⟨fun _=>by obtain⟨⟨e,rfl⟩,_⟩:=k;exact fB.ext _ _,lY hg l _ h' hk' k.2⟩⟩
     | false =>
       have hge:tp ops L i=true→False:=fun z=>by
        unfold tp at z;rw[hk0]at z;split at z
        ·exact absurd rfl h4
        ·rw[ho]at z;simp[hex]at z
        ·exact absurd z (by simp)
       exact .inl ⟨hlo,hg i o ho,own,_,q,fun v h' k=>⟨fun z=>(hge z).elim,lY hg l _ h' hk' k⟩⟩
def GB{m id:Nat}{ops:Array Oper}{Q:Exit→St→Prop}{st:St}(hm:m≤st.h.length)(hq:G7 P ops l Q st):AW P m (.region id ops true) Q st:=by
 intro base ι S a w _ hr;obtain⟨hok,hq⟩:=aX hq;simp only[xD,NO,Of]at hok;obtain⟨⟨⟨⟨k1,k2⟩,k3⟩,k4⟩,k5⟩:=hok;obtain⟨hE,hr'⟩:=hr.drew;refine wp_region_any k1 (dV (fun e a w z=>dz.trans (hE.mono (by rw[hr.hp.len];exact hm) (bY _)) z) _ _ _ _ ?_);have down0:Down ops (Array.replicate ops.size false):=fun i o ho hl=>by
  have hlt:=(AS.1 ho).1;simp[hlt]at hl
 have hg:∀(i:Nat) (o:Oper),ops[i]?=some o→o.guard=none:=fun i o ho=>by
  have:=Array.all_eq_true_iff_forall_mem.1 k2 o (Array.mem_of_getElem? ho);simpa using this
 have hk:∀p∈l,jF l p.1=p.2.1:=fun p hp=>lE (At.1 k4 p hp);obtain⟨d,hq⟩:=hq;have q2:=lY hg l st.fr st.h hk hq;have q3:=rH _ _ _ _ down0 k5 q2;rw[aaQ,k3]at q3;obtain⟨n,fr,h⟩:=st;exact oh (m:=m) (Q':=Q) (fun fr h z=>z) ops.size _ base ι S a _ fr h hm hr' q3
end
end Go.Aw
end
