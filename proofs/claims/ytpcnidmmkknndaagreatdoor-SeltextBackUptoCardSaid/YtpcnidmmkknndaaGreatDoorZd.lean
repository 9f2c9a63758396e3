/-
 What functions of the translation ask,held against their code by the kernel. Printed by a program.
 No conditions.
-/
import Derived.Test.YtpcnidmmkknndaaGreatDoorProg
import Derived.KernelRfl
import Derived.Tactics
import Derived.Tactics2
import Derived.Defers
import Derived.Laws.Pointers
import Derived.Laws.LoneSync
import Derived.RegionTactic
import Derived.RegionCalls
import Derived.ChangeAlike
import Derived.Shelf.Strings.IndexAnyAll
import Derived.Shelf.Strings.SlTrimAscii
import Derived.Shelf.Strings.Cut
import Derived.Shelf.Small.Wraps
import Derived.Shelf.Strconv.ParseIntPublic10
import Derived.Lib.AtoiAll
import Derived.Lib.AtoiErrMem
import Derived.Shelf.Small.Strs
import Derived.ScopeJumps
import Derived.Test.YtpcnidmmkknndaaGreatDoorZc
import Derived.Test.YtpcnidmmkknndaaGreatDoorZa
set_option linter.unusedVariables false
set_option linter.unusedSimpArgs false
set_option linter.unusedSectionVars false
set_option linter.defProp false
set_option autoImplicit true
set_option maxRecDepth 1000000
set_option maxHeartbeats 16000000
open Go.Proofs.Tryz renaming prog→p_
noncomputable section
namespace Go.Proofs.YtpcnidmmkknndaaGreatDoor
section
open Go Go.Aw
variable [Laid]
def Zo(a:AV)(h:aa)(K:AV→aa→Prop):Prop:=
 qBe .or a 32 fun f=>iC p_ 137 [f,i_ 97,i_ 122] h fun g b=>qJa g [a] b (fun i=>qBe .lss a 128 fun j=>i j b) fun k c=>qJa k [a] c (fun l=>qBe .gtr a 64 fun m=>l m c) fun n d=>qJo n [a] d (fun o=>qBe .eql a 95 fun p=>o p d) fun q e=>qKo q e (fun r=>qBe .geq a 128 fun s=>r s e) fun t u=>K t u
def V97(a:AV):Body p_ 97 [a] (Zo a):=bB Tryz.func97 (sn (.seq (.aQ (oR 0 4 (.aB 3 true (fR 4 2) [0] [6,8]::oR 6 2 (.aB 7 true (fR 8 2) [0] [10,12]::oR 10 2 (.aB 11 false (fR 12 2) [0] [14,16]::oR 14 2 (.aB 15 false (fR 16 2) [] [18,20]::oR 18 2 [])))))) .nil)) 22 [.tmp 2]
def Tg(a b e:AV)(h:aa)(K:AV→aa→Prop):Prop:=
 ag .leq b a fun c=>qKa c h (fun d=>ag .leq a e fun f=>d f h) fun g i=>K g i
def ZZ(a b c:AV):Body p_ 137 [a,b,c] (Tg a b c):=bB Tryz.func137 (sn (.seq (.aQ (oR 0 4 (.aB 3 true (fR 4 3) [] [10,13]::oR 7 2 []))) .nil)) 15 [.tmp 6]
def YX(a:AV)(h:aa)(K:AV→aa→Prop):Prop:=
 iC p_ 97 [a] h fun d b=>qJo d [a] b (fun e=>iC p_ 98 [a] b e) fun f c=>qKo f c (fun g=>qBe .eql a 45 fun i=>g i c) fun j k=>K j k
def V65(a:AV):Body p_ 65 [a] (YX a):=bB Tryz.func65 (sn (.seq (.aQ (oR 0 3 (.aB 2 false (fR 3 2) [0] [5,7]::oR 5 2 (.aB 6 false (fR 7 2) [] [9,11]::oR 9 2 [])))) .nil)) 13 [.tmp 2]
def YU(a:AV)(h:aa)(K:AV→aa→Prop):Prop:=
 qBe .eql a 32 fun c=>qJo c [a] h (fun d=>qBe .eql a 9 fun e=>d e h) fun f b=>qKo f b (fun g=>qBe .eql a 10 fun i=>g i b) fun j k=>K j k
def V62(a:AV):Body p_ 62 [a] (YU a):=bB Tryz.func62 (sn (.seq (.aQ (oR 0 3 (.aB 2 false (fR 3 2) [0] [5,7]::oR 5 2 (.aB 6 false (fR 7 2) [] [9,11]::oR 9 2 [])))) .nil)) 13 [.tmp 2]
def TQ(b a:AV)(h:aa)(K:AV→aa→Prop):Prop:=
 de b fun c=>de a fun d=>ag .geq c d fun e=>qKa e h (fun f=>de a fun g=>eW b none (some g) fun i=>ag .eql i a fun j=>f j h) fun k l=>K k l
def X8(a b:AV):Body p_ 94 [a,b] (TQ a b):=bB Tryz.func94 (sn (.seq (.aQ (oR 0 6 (.aB 5 true (fR 6 6) [] [10,16]::oR 12 2 []))) .nil)) 18 [.tmp 4]
def TP(a b:AV)(h:aa)(K:AV→aa→Prop):Prop:=
 iC p_ 94 [a,b] h fun c d=>K c d
def X7(a b:AV):Body p_ 59 [a,b] (TP a b):=bB Tryz.func59 .nil 8 [.tmp 4]
def Zp(a:AV)(h:aa)(K:AV→aa→Prop):Prop:=
 iC p_ 137 [a,i_ 48,i_ 57] h fun b c=>K b c
def V98(a:AV):Body p_ 98 [a] (Zp a):=bB Tryz.func98 .nil 5 [.tmp 2]
def SN(a d:AV)(h:aa)(K:AV→aa→Prop):Prop:=
 iC p_ 76 [a] h fun b c=>iC p_ 76 [d] c fun e f=>ag .eql b e fun g=>K g f
def ZB(a b:AV):Body p_ 101 [a,b] (SN a b):=bB Tryz.func101 .nil 10 [.tmp 4]
end
section
set_option maxHeartbeats 4000000
open Go
def disable(w:World):(callFunc 204 #[]).run p_ w=.ok (.value (.tuple #[])) w:=run_call_mark0 Tryz.func204 (by kernel_rfl) (by kernel_rfl) (by kernel_rfl) .disable (by kernel_rfl) w
def enable(w:World):(callFunc 206 #[]).run p_ w=.ok (.value (.tuple #[])) w:=run_call_mark0 Tryz.func206 (by kernel_rfl) (by kernel_rfl) (by kernel_rfl) .enable (by kernel_rfl) w
def acquire(a:Addr)(w:World):(callFunc 207 #[.pointer (some a)]).run p_ w=.ok (.value (.tuple #[])) w:=run_call_marked Tryz.func207 (by kernel_rfl) (by kernel_rfl) (by kernel_rfl) .acquire (by kernel_rfl) a w
def releaseMerge(a:Addr)(w:World):(callFunc 209 #[.pointer (some a)]).run p_ w=.ok (.value (.tuple #[])) w:=run_call_marked Tryz.func209 (by kernel_rfl) (by kernel_rfl) (by kernel_rfl) .releaseMerge (by kernel_rfl) a w
def CH(a:Addr)(x:Value)(u:FrameMode)(w:World)(hc:w.cell? a=some x)(hz:w.frozen? a=false):
 CallsD p_ 161 #[.pointer (some a),.bool true] u w fun e u' w' => u'=u∧(e=.returned (.tuple #[])∧w'=w.drew.setCell a (.int .u32 1)):=by
 have hc':w.drew.cell? a=some x:=by go_simp
 have hz':w.drew.frozen? a=false:=by go_simp
 have hst:=run_call_store (P:=p_) Tryz.func191 (by kernel_rfl) (by kernel_rfl) (by kernel_rfl) (by kernel_rfl) (k:=.u32) (y:=1) hc' hz'
 go_enter_d Tryz.func161,Tryz.ntmps161
 go_wp2
 go_region_calls
 all_goals (go_end0;exact⟨rfl,rfl⟩)
def Bu(a:Addr)(u:FrameMode)(w:World)(hc:w.cell? a=some (.int .i32 1))(hz:w.frozen? a=false):
 CallsD p_ 160 #[.pointer (some a)] u w fun e u' w' => u'=u∧(e=.returned (.tuple #[])∧w'=w.setCell a (.int .i32 0)):=by
 have hd:=disable;have he:=enable;have hr:=releaseMerge;have hadd:=run_call_add (P:=p_) Tryz.func210 (by kernel_rfl) (by kernel_rfl) (by kernel_rfl) .i32 (by kernel_rfl) (y:=-1) (s:=0) hc hz (by simp[go_sem];rfl);have hcv:=run_convert_to_unsafe (P:=p_) (src:=265) (dst:=138) Tryz.underlying265 Tryz.underlying138 (by kernel_rfl) hc
 go_enter_d Tryz.func160,Tryz.ntmps160
 go_wp2
 go_end0
 go_wp2
 go_end0
 exact⟨rfl,rfl⟩
def LH(a:Addr)(w:World)(hc:w.cell? a=some (.int .i32 0))(hz:w.frozen? a=false):
 Calls p_ 159 #[.pointer (some a)] w fun e w' => e=.returned (.tuple #[])∧w'=w.setCell a (.int .i32 1):=by
 have hd:=disable;have he:=enable;have ha:=acquire;have hcas:=run_call_cas_hit (P:=p_) Tryz.func205 (by kernel_rfl) (by kernel_rfl) (by kernel_rfl) .i32 (by kernel_rfl) (y:=1) hc hz;have hc':(w.setCell a (.int .i32 1)).cell? a=some (.int .i32 1):=World.cell?_setCell_same w a _ hc;have hcv:=run_convert_to_unsafe (P:=p_) (src:=265) (dst:=138) Tryz.underlying265 Tryz.underlying138 (by kernel_rfl) hc'
 go_enter Tryz.func159,Tryz.ntmps159
 go_wp2
 first|go_end0|(simp only[Exit.inBlock,Exit.then];refine bodyPost_ret (results_none rfl _ _ _) rfl ?_)|refine bodyPost_ret (results_none rfl _ _ _) rfl ?_
 go_wp2
 go_end0
 exact⟨rfl,rfl⟩
end
section
open Go
set_option maxHeartbeats 4000000
def Dr(a:Addr)(w:World)(hc:w.cell? a=some (.int .u32 0)):Calls p_ 129 #[.pointer (some a)] w fun e w' => e=.returned (.bool false)∧w'=w:=by
 have hl:=run_call_load (P:=p_) Tryz.func158 (by kernel_rfl) (by kernel_rfl) (by kernel_rfl) .u32 (by kernel_rfl) (w:=w) (a:=a) (x:=0) hc
 go_enter Tryz.func129,Tryz.ntmps129
 go_wp2
 go_ret
 exact⟨rfl,rfl⟩
def O5(b:Nat)(w:World)(Q:World→Prop)(h0:w.cell? ⟨b,0,none⟩=some (.int .u32 0))(h1:w.cell? ⟨b,0+1,none⟩=some (.int .i32 0))
 (f0:w.frozen? ⟨b,0,none⟩=false) (f1:w.frozen? ⟨b,0+1,none⟩=false)
 (hf:Calls p_ 93 #[.pointer (some ⟨b,0,none⟩)] (w.setCell ⟨b,0+1,none⟩ (.int .i32 1)) fun e w' => e=.returned (.tuple #[])∧(∃x,w'.cell? ⟨b,0,none⟩=some x)∧w'.cell? ⟨b,0+1,none⟩=some (.int .i32 1) ∧
  w'.frozen? ⟨b,0,none⟩=false∧w'.frozen? ⟨b,0+1,none⟩=false∧Q w') :
 Calls p_ 130 #[.pointer (some ⟨b,0,none⟩),.func (.func 93) #[.pointer (some ⟨b,0,none⟩)] #[]] w fun e w'' => e=.returned (.tuple #[]) ∧
  ∃w',Q w'∧w''=(w'.drew.setCell ⟨b,0,none⟩ (.int .u32 1)).setCell ⟨b,0+1,none⟩ (.int .i32 0):=by
 have hl:=run_call_load (P:=p_) Tryz.func158 (by kernel_rfl) (by kernel_rfl) (by kernel_rfl) .u32 (by kernel_rfl) (w:=w.setCell ⟨b,0+1,none⟩ (.int .i32 1)) (a:=⟨b,0,none⟩) (x:=0) ((World.cell?_setCell_other _ ⟨b,0+1,none⟩ ⟨b,0,none⟩ _ (by simp)).trans h0);have hnot:∀(x:Bool) (w:World),(Op.unary .not (.bool x)).run p_ w=.ok (.bool (!x)) w:=fun _ _=>rfl
 go_enter_defers Tryz.func130,Tryz.ntmps130
 go_wp2_with (go_at_call 159;refine (LH ⟨b,0+1,none⟩ _ (by go_simp) (by go_simp)).mono ?_;rintro e w' ⟨rfl,rfl⟩)
 go_wp2_with (go_at_call 129;refine (Dr ⟨b,0,none⟩ _ ((World.cell?_setCell_other _ ⟨b,0+1,none⟩ ⟨b,0,none⟩ _ (by simp)).trans h0)).mono ?_;rintro e w' ⟨rfl,rfl⟩)
 go_wp2_with (go_at_call 93;refine hf.mono ?_;rintro e w' ⟨rfl,⟨x,g0⟩,g1,z0,z1,hQ⟩)
 refine leaves_cons (f:=161) (args:=#[.pointer (some ⟨b,0,none⟩),.bool true]) (by simp) (by simp[go_sem]) ((CH ⟨b,0,none⟩ x .returning _ g0 z0).mono ?_);rintro e u' w'' ⟨rfl,rfl,rfl⟩;refine leaves_cons (f:=160) (args:=#[.pointer (some ⟨b,0+1,none⟩)]) (by simp[settle]) (by simp[go_sem]) ?_;refine (Bu ⟨b,0+1,none⟩ _ _ ?_ (by simp[z1])).mono ?_
 ·refine (World.cell?_setCell_other _ ⟨b,0,none⟩ ⟨b,0+1,none⟩ _ (by simp)).trans ?_;rw[World.cell?_drew];exact g1
 rintro e u' w'' ⟨rfl,rfl,rfl⟩;simp[Leaves,settle,results,Tryz.results130];exact⟨w',hQ,rfl⟩
end
section
open Go.Shelf
theorem uSo0{α:Type}{a b:α}(h:a=b:=by kernel_rfl):some a=some b:=congrArg some h
def lays153_ren:Go.Shelf.Ren:=⟨fun|153=>139|152=>170|226=>171|227=>167|228=>172|137=>72|119=>197|224=>133|225=>132|217=>103|266=>142|n=>n,fun|9=>9|3=>3|4=>4|5=>5|21=>21|117=>226|116=>225|0=>0|46=>188|124=>229|n=>n,fun|n=>n⟩
theorem lays153:Go.Proofs.Lays.n153 p_ lays153_ren:={
 mixed:=by kernel_rfl
 f119:=Tryz.func197.trans uSo0
 f137:=Tryz.func72.trans uSo0
 f152:=Tryz.func170.trans uSo0
 f153:=Tryz.func139.trans uSo0
 f217:=Tryz.func103.trans uSo0
 f224:=Tryz.func133.trans uSo0
 f225:=Tryz.func132.trans uSo0
 f226:=Tryz.func171.trans uSo0
 f227:=Tryz.func167.trans uSo0
 f228:=Tryz.func172.trans uSo0
 f266:=Tryz.func142.trans uSo0
 t0:=Tryz.underlying0
 a0:=Tryz.isAgg0
 z0:=Tryz.sizeOf0
 v0:=Tryz.zeroValue0
 t3:=Tryz.underlying3
 a3:=Tryz.isAgg3
 z3:=Tryz.sizeOf3
 v3:=Tryz.zeroValue3
 t4:=Tryz.underlying4
 a4:=Tryz.isAgg4
 z4:=Tryz.sizeOf4
 v4:=Tryz.zeroValue4
 t5:=Tryz.underlying5
 a5:=Tryz.isAgg5
 z5:=Tryz.sizeOf5
 v5:=Tryz.zeroValue5
 t9:=Tryz.underlying9
 a9:=Tryz.isAgg9
 z9:=Tryz.sizeOf9
 v9:=Tryz.zeroValue9
 t21:=Tryz.underlying21
 a21:=Tryz.isAgg21
 z21:=Tryz.sizeOf21
 v21:=Tryz.zeroValue21
 t46:=Tryz.underlying188
 a46:=Tryz.isAgg188
 z46:=Tryz.sizeOf188
 v46:=Tryz.zeroValue188
 t116:=Tryz.underlying225
 a116:=Tryz.isAgg225
 z116:=Tryz.sizeOf225
 t117:=Tryz.underlying226
 a117:=Tryz.isAgg226
 z117:=Tryz.sizeOf226
 v117:=Tryz.zeroValue226
 t124:=Tryz.underlying229
 a124:=Tryz.isAgg229
 z124:=Tryz.sizeOf229
 v124:=Tryz.zeroValue229 }
open Go.RowKit Go.Lib in
theorem DT(s chars:ByteArray)(w:World)(hs:s.size<4294967281)(hcs:chars.size<4294967281)(has:∀(j:Nat) b,s.data.toList[j]?=some b→b.toNat<128)(hac:∀(j:Nat) b,chars.data.toList[j]?=some b→b.toNat<128):
 Calls p_ 139 #[.string s,.string chars] w fun e w' => e=.returned (.int .i64 (Lib.indexAny s.data.toList chars.data.toList))∧Below w.heap.size w w':=Any.strings_IndexAny_laid lays153 (by kernel_rfl) s chars w hs hcs has hac
end
section
open Go Go.Aw
def Qj(l:List Nat):List AV:=l.map fun n=>.v (.int .u8 (Int.ofNat n))
def Pl(l:List Nat):List AV:=l.map fun n=>.v (.int .u64 (Int.ofNat n))
class bq where
 m:Int
 er:Value
 Uq:er=.nilIface∨∃te pe,er=.iface te pe
variable [bq]
def Kg:Nat→Option (List AV):=fun g=>match g with
 | 1=>some (Pl [1,10,100,1000,10000,100000,1000000,10000000,100000000,1000000000,10000000000,100000000000,1000000000000,10000000000000,100000000000000,1000000000000000,10000000000000000,100000000000000000,1000000000000000000,10000000000000000000])
 | 0=>some [i_ bq.m]
 | 7=>some [.v bq.er]
 | 3=>some (Qj [0,1,56,2,57,49,28,3,61,58,42,50,38,29,17,4,62,47,59,36,45,43,51,22,53,39,33,30,24,18,12,5,63,55,48,27,60,41,37,16,46,35,44,21,52,32,23,11,54,26,40,15,34,20,31,10,25,14,19,9,13,8,7,6])
 | _=>none
instance adG:Laid:=⟨Kg,fun g cs h=>by
 unfold Kg at h;split at h
 ·cases h;simp[Pl,aR,Aw.Pure]
 ·cases h;simp[aR,Aw.Pure]
 ·cases h;simp[aR,Aw.Pure]
 ·cases h;simp[Qj,aR,Aw.Pure]
 ·cases h⟩
end
section
open Go Go.Aw
variable [Laid]
def TM(x0:AV)(h:aa)(K:AV→aa→Prop):Prop:=
 de x0 fun v1=>ag .gtr v1 (i_ 4000) fun v2=>af v2 (K (.aA [(.str []),(i_ 28)]) h) (bx p_ (.fn (.func 57) [] []) [] h fun v3 g4=>bx p_ (.fn (.func 58) [] []) [v3,x0] g4 fun v5 g6=>K (.aA [v5,(i_ 0)]) g6)
def c42:Code:=(Tryz.f42.body).getD .skip
def X5(x0:AV):Body p_ 42 [x0] (TM x0):=⟨c42,.nil,10,[.tmp 2,.tmp 3],⟨Tryz.f42,Tryz.func42,rfl,by kernel_rfl,by kernel_rfl,by kernel_rfl⟩,by simp,fun h K=>by kernel_rfl⟩
def YS(x0 x1:AV)(h:aa)(K:AV→aa→Prop):Prop:=
 cg p_ x0 fun v1=>bo 0 v1 fun v2=>bx p_ (.fn (.func 92) [] []) [v2,(.fn (.func 93) [x0] [])] h fun v3 g4=>cg p_ x0 fun v5=>bo 3 v5 fun v6=>ak false 1 v6 g4 fun v7=>xd p_ (pf p_ "Replace") v7 [x1] g4 fun v8 g9=>K v8 g9
def c58:Code:=(Tryz.f58.body).getD .skip
def V58(x0 x1:AV):Body p_ 58 [x0,x1] (YS x0 x1):=⟨c58,.nil,17,[.tmp 4],⟨Tryz.f58,Tryz.func58,rfl,by kernel_rfl,by kernel_rfl,by kernel_rfl⟩,by simp,fun h K=>by kernel_rfl⟩
def Zl(x0 x1:AV)(h:aa)(K:AV→aa→Prop):Prop:=
 cg p_ x0 fun v1=>bo 0 v1 fun v2=>bx p_ (.fn (.func 129) [] []) [v2] h fun v3 g4=>cq v3 fun v5=>af v5 (bx p_ (.fn (.func 130) [] []) [x0,x1] g4 fun v6 g7=>K (.aA []) g7) (K (.aA []) g4)
def c92:Code:=(Tryz.f92.body).getD .skip
def V92(x0 x1:AV):Body p_ 92 [x0,x1] (Zl x0 x1):=⟨c92,.nil,12,[],⟨Tryz.f92,Tryz.func92,rfl,by kernel_rfl,by kernel_rfl,by kernel_rfl⟩,by simp,fun h K=>by kernel_rfl⟩
def TL(x0 x1:AV)(h:aa)(K:AV→aa→Prop):Prop:=
 cg p_ x0 fun v1=>ak false 1 v1 h fun v2=>mM false 5 1 v2 x1 h fun v3 g4=>cg p_ x0 fun v5=>ao 1 v5 v3 g4 fun g6=>de x1 fun v7=>K (.aA [v7,(.v .nilIface)]) g6
def aaD:Code:=(Tryz.f282.body).getD .skip
def aar(x0 x1:AV):Body p_ 282 [x0,x1] (TL x0 x1):=⟨aaD,.nil,15,[.tmp 4,.tmp 5],⟨Tryz.f282,Tryz.func282,rfl,by kernel_rfl,by kernel_rfl,by kernel_rfl⟩,by simp,fun h K=>by kernel_rfl⟩
def TI(x0 x1:AV)(h:aa)(K:AV→aa→Prop):Prop:=
 de x1 fun v1=>qO 5 1 1 (u8 0) (i_ 0) v1 h fun v2 g3=>aV 320 (.v (.slice none 0 0)) g3 fun v4 g5=>ao 1 v4 v2 g5 fun g6=>pb 321 v4 fun v7=>bx p_ (.fn (.func 267) [] []) [x0,v7,x1] g6 fun v8 g9=>ak false 1 v4 g9 fun v10=>cR v10 g9 fun v11=>K v11 g9
def aaz:Code:=(Tryz.f266.body).getD .skip
def aao(x0 x1:AV):Body p_ 266 [x0,x1] (TI x0 x1):=⟨aaz,.nil,15,[.tmp 4],⟨Tryz.f266,Tryz.func266,rfl,by kernel_rfl,by kernel_rfl,by kernel_rfl⟩,by simp,fun h K=>by kernel_rfl⟩
def TJ(x0 x1 x2:AV)(h:aa)(K:AV→aa→Prop):Prop:=
 bx p_ (.fn (.func 268) [] []) [x1] h fun v1 g2=>bJ [(i_ 0),(.v .nilIface),(i_ 0),ff,(i_ 0)] g2 fun N3 s4 g5 =>
 /- n err last prevMatchEmpty i -/ de x2 fun v6=>ag .leq (nx s4 4) v6 fun v7=>af v7 (aH (fun J8=>de x2 fun v9=>ag .neq (nx s4 4) v9 fun v10=>aH (fun J11=>aI v10 true (cg p_ x0 fun v12=>bo 0 v12 fun v13=>bo 1 v13 fun v14=>ak false 1 v14 g5 fun v15=>ag .eql v15 (i_ 0) fun v16=>[x0,x2,(nx s4 0),(nx s4 1),v1,(nx s4 2),(nx s4 3),(nx s4 4)]=[x0,x2,(nx s4 0),(nx s4 1),v1,(nx s4 2),(nx s4 3),(nx s4 4)]∧J11 [tt,v16] g5) ([x0,x2,(nx s4 0),(nx s4 1),v1,(nx s4 2),(nx s4 3),(nx s4 4)]=[x0,x2,(nx s4 0),(nx s4 1),v1,(nx s4 2),(nx s4 3),(nx s4 4)]∧J11 [(bI true v10),un] g5)) fun s17 g18=>bA (nx s17 0) (nx s17 1) ff fun v19=>af v19 (eJ x2 (nx s4 4) fun v20=>cg p_ x0 fun v21=>bo 6 v21 fun v22=>eV 256 1 v22 v20 fun v23=>ak false 1 v23 g18 fun v24=>cy .i64 v24 fun v25=>cg p_ x0 fun v26=>bo 5 v26 fun v27=>ak false 1 v27 g18 fun v28=>ag .eql v25 v28 fun v29=>aH (fun J30=>aI v29 false (cg p_ x0 fun v31=>bo 0 v31 fun v32=>bo 4 v32 fun v33=>ak false 1 v33 g18 fun v34=>aO 1 v34 v25 fun v35=>ak false 1 v35 g18 fun v36=>kJ false (tG v36) fun v37=>[x0,x2,(nx s4 0),(nx s4 1),v1,(nx s4 2),(nx s4 3),(nx s4 4)]=[x0,x2,(nx s4 0),(nx s4 1),v1,(nx s4 2),(nx s4 3),(nx s4 4)]∧J30 [ff,v37] g18) ([x0,x2,(nx s4 0),(nx s4 1),v1,(nx s4 2),(nx s4 3),(nx s4 4)]=[x0,x2,(nx s4 0),(nx s4 1),v1,(nx s4 2),(nx s4 3),(nx s4 4)]∧J30 [(bI false v29),un] g18)) fun s38 g39=>bA (nx s38 0) tt (nx s38 1) fun v40=>af v40 (ag .add (nx s4 4) (i_ 1) fun v41=>[x0,x2,v1]=[x0,x2,v1]∧N3 [(nx s4 0),(nx s4 1),(nx s4 2),(nx s4 3),v41] g39) ([x0,x2,(nx s4 0),(nx s4 1),v1,(nx s4 2),(nx s4 3)]=[x0,x2,(nx s4 0),(nx s4 1),v1,(nx s4 2),(nx s4 3)]∧J8 [(nx s4 4)] g39)) ([x0,x2,(nx s4 0),(nx s4 1),v1,(nx s4 2),(nx s4 3)]=[x0,x2,(nx s4 0),(nx s4 1),v1,(nx s4 2),(nx s4 3)]∧J8 [(nx s4 4)] g18)) fun s42 g43=>eW x2 (some (nx s42 0)) none fun v44=>bx p_ (.fn (.func 269) [] []) [x0,v44,(nx s4 3)] g43 fun v45 g46=>aU 0 v45 fun v47=>aU 1 v45 fun v48=>aU 2 v45 fun v49=>aH (fun J50=>aI v49 true (ag .eql v48 (i_ 0) fun v51=>[x0,x2,(nx s4 0),(nx s4 1),v1,(nx s4 2),(nx s42 0),v47,v48,v49]=[x0,x2,(nx s4 0),(nx s4 1),v1,(nx s4 2),(nx s42 0),v47,v48,v49]∧J50 [tt,v51] g46) ([x0,x2,(nx s4 0),(nx s4 1),v1,(nx s4 2),(nx s42 0),v47,v48,v49]=[x0,x2,(nx s4 0),(nx s4 1),v1,(nx s4 2),(nx s42 0),v47,v48,v49]∧J50 [(bI true v49),un] g46)) fun s52 g53=>bA (nx s52 0) (nx s52 1) ff fun v54=>af v49 (eW x2 (some (nx s4 2)) (some (nx s42 0)) fun v55=>cg p_ (.fn (.method "WriteString") [v1] []) fun v56=>xd p_ (pf p_ "WriteString") v1 [v55] g53 fun v57 g58=>aU 0 v57 fun v59=>aU 1 v57 fun v60=>ag .add (nx s4 0) v59 fun v61=>kJ true (vK v60) fun v62=>af v62 (K (.aA [v61,v60]) g58) (xd p_ (pf p_ "WriteString") v1 [v47] g58 fun v63 g64=>aU 0 v63 fun v65=>aU 1 v63 fun v66=>ag .add v61 v65 fun v67=>kJ true (vK v66) fun v68=>af v68 (K (.aA [v67,v66]) g64) (ag .add (nx s42 0) v48 fun v69=>[x0,x2,v1]=[x0,x2,v1]∧N3 [v67,v66,v69,v54,v69] g64))) (ag .add (nx s42 0) (i_ 1) fun v70=>[x0,x2,v1]=[x0,x2,v1]∧N3 [(nx s4 0),(nx s4 1),(nx s4 2),v54,v70] g53)) (de x2 fun v71=>ag .neq (nx s4 2) v71 fun v72=>af v72 (eW x2 (some (nx s4 2)) none fun v73=>cg p_ (.fn (.method "WriteString") [v1] []) fun v74=>xd p_ (pf p_ "WriteString") v1 [v73] g5 fun v75 g76=>aU 0 v75 fun v77=>aU 1 v75 fun v78=>ag .add (nx s4 0) v77 fun v79=>K (.aA [v79,v78]) g76) (K (.aA [(nx s4 0),(nx s4 1)]) g5))
def aaA:Code:=(Tryz.f267.body).getD .skip
def aap(x0 x1 x2:AV):Body p_ 267 [x0,x1,x2] (TJ x0 x1 x2):=⟨aaA,(.seq .nil (.seq .nil (.seq .nil (.seq .nil (.seq (.seq .nil (.one (.loop [0,2,8] [6,7,9,11,12] (.seq .nil (.one (.join [0,2,6,7,8,9,11] [12] (.seq (.aQ [.op 0 false,.op 1 false,.op 2 false,.op 3 false,.op 4 false,.aB 4 true [(5,false),(6,false),(7,false),(8,false),(9,false),(10,false)] [0,2,6,7,8,9,11,12] [27,33],.op 11 false]) (.two (.seq (.draw 10 [.op 0 false,.op 1 false,.op 2 false,.op 3 false,.op 4 false,.op 5 false,.op 6 false,.op 7 false,.op 8 false,.op 9 false] [] []) (.seq (.aQ [.op 0 false,.op 1 false,.op 2 false,.op 3 false,.op 4 false,.op 5 false,.op 6 false,.aB 6 false [(7,false),(8,false),(9,false),(10,false),(11,false),(12,false),(13,false),(14,false),(15,false)] [0,2,6,7,8,9,11,12] [50,59],.op 16 false]) .nil)) .nil)) (.seq .nil (.seq (.aQ [.op 0 false,.op 1 false,.aB 1 true [(2,false),(3,false)] [0,2,6,7,8,9,12,14,15,16] [74,76],.op 4 false,.op 5 false]) (.seq (.seq .nil (.two (.seq (.draw 8 [.op 0 false,.op 1 false,.op 2 false,.op 3 false,.op 4 false,.op 5 false,.op 6 false,.op 7 false] [.op 8 false,.op 9 false] [.op 10 false,.op 11 false,.op 12 false,.op 13 false]) .nil) .nil)) .nil))))))))) (.seq (.seq .nil (.two (.seq (.draw 7 [.op 0 false,.op 1 false,.op 2 false,.op 3 false,.op 4 false,.op 5 false,.op 6 false] [.op 7 false,.op 8 false] [.op 9 false,.op 10 false,.op 11 false,.op 12 false]) .nil) .nil)) .nil)))))),131,[.tmp 6,.tmp 7],⟨Tryz.f267,Tryz.func267,rfl,by kernel_rfl,by kernel_rfl,by kernel_rfl⟩,by simp,fun h K=>by kernel_rfl⟩
def TK(x0:AV)(h:aa)(K:AV→aa→Prop):Prop:=
 zi (Fj p_ 325) x0 fun v1=>aU 0 v1 fun v2=>aU 1 v1 fun v3=>cq v3 fun v4=>af v4 (aX (.agg [(.v .nilIface)]) [(0,1,x0)] fun v5=>pb 331 v5 fun v6=>K v6 h) (K v2 h)
def aaB:Code:=(Tryz.f268.body).getD .skip
def aaq(x0:AV):Body p_ 268 [x0] (TK x0):=⟨aaB,.nil,16,[.tmp 2],⟨Tryz.f268,Tryz.func268,rfl,by kernel_rfl,by kernel_rfl,by kernel_rfl⟩,by simp,fun h K=>by kernel_rfl⟩
def BC(x0 x1 x2:AV)(h:aa)(K:AV→aa→Prop):Prop:=
 cg p_ x0 fun v1=>bo 0 v1 fun v2=>bJ [x1,(.str []),(i_ 0),ff,(i_ 0),v2,(i_ 0)] h fun N3 s4 g5 =>
 /- s val keylen found bestPriority node n -/ kJ true (tG (nx s4 5)) fun v6=>af v6 (aH (fun J7=>cg p_ (nx s4 5) fun v8=>bo 1 v8 fun v9=>ak false 1 v9 g5 fun v10=>ag .gtr v10 (nx s4 4) fun v11=>aH (fun J12=>aI v11 true ([x0,(nx s4 0),x2,(nx s4 1),(nx s4 2),(nx s4 3),(nx s4 4),(nx s4 5),(nx s4 6)]=[x0,(nx s4 0),x2,(nx s4 1),(nx s4 2),(nx s4 3),(nx s4 4),(nx s4 5),(nx s4 6)]∧J12 [tt,x2] g5) ([x0,(nx s4 0),x2,(nx s4 1),(nx s4 2),(nx s4 3),(nx s4 4),(nx s4 5),(nx s4 6)]=[x0,(nx s4 0),x2,(nx s4 1),(nx s4 2),(nx s4 3),(nx s4 4),(nx s4 5),(nx s4 6)]∧J12 [(bI true v11),un] g5)) fun s13 g14=>aH (fun J15=>aI (nx s13 1) true (cg p_ x0 fun v16=>bo 0 v16 fun v17=>False) ([x0,(nx s4 0),x2,(nx s4 1),(nx s4 2),(nx s4 3),(nx s4 4),(nx s4 5),(nx s4 6),(nx s13 0)]=[x0,(nx s4 0),x2,(nx s4 1),(nx s4 2),(nx s4 3),(nx s4 4),(nx s4 5),(nx s4 6),(nx s13 0)]∧J15 [(bI true (nx s13 1)),un] g14)) fun s18 g19=>aH (fun J20=>aI (nx s13 0) true (bA (nx s18 0) (nx s18 1) ff fun v21=>cq v21 fun v22=>[x0,(nx s4 0),x2,(nx s4 1),(nx s4 2),(nx s4 3),(nx s4 4),(nx s4 5),(nx s4 6)]=[x0,(nx s4 0),x2,(nx s4 1),(nx s4 2),(nx s4 3),(nx s4 4),(nx s4 5),(nx s4 6)]∧J20 [tt,v22] g19) ([x0,(nx s4 0),x2,(nx s4 1),(nx s4 2),(nx s4 3),(nx s4 4),(nx s4 5),(nx s4 6)]=[x0,(nx s4 0),x2,(nx s4 1),(nx s4 2),(nx s4 3),(nx s4 4),(nx s4 5),(nx s4 6)]∧J20 [(bI true (nx s13 0)),un] g19)) fun s23 g24=>bA (nx s23 0) (nx s23 1) ff fun v25=>af v25 (cg p_ (nx s4 5) fun v26=>bo 1 v26 fun v27=>ak false 1 v27 g24 fun v28=>cg p_ (nx s4 5) fun v29=>bo 0 v29 fun v30=>ak false 1 v30 g24 fun v31=>[x0,(nx s4 0),x2,(nx s4 5),(nx s4 6)]=[x0,(nx s4 0),x2,(nx s4 5),(nx s4 6)]∧J7 [v31,(nx s4 6),tt,v28] g24) ([x0,(nx s4 0),x2,(nx s4 5),(nx s4 6)]=[x0,(nx s4 0),x2,(nx s4 5),(nx s4 6)]∧J7 [(nx s4 1),(nx s4 2),(nx s4 3),(nx s4 4)] g24)) fun s32 g33=>ag .eql (nx s4 0) (.str []) fun v34=>af v34 (K (.aA [(nx s32 0),(nx s32 1),(nx s32 2)]) g33) (cg p_ (nx s4 5) fun v35=>bo 4 v35 fun v36=>ak false 1 v36 g33 fun v37=>kJ true (vM v37) fun v38=>af v38 (eJ (nx s4 0) (i_ 0) fun v39=>cg p_ x0 fun v40=>bo 6 v40 fun v41=>eV 256 1 v41 v39 fun v42=>ak false 1 v42 g33 fun v43=>cy .i64 v43 fun v44=>cg p_ x0 fun v45=>bo 5 v45 fun v46=>ak false 1 v46 g33 fun v47=>ag .eql v44 v47 fun v48=>af v48 (K (.aA [(nx s32 0),(nx s32 1),(nx s32 2)]) g33) (cg p_ (nx s4 5) fun v49=>bo 4 v49 fun v50=>ak false 1 v50 g33 fun v51=>aO 1 v51 v43 fun v52=>ak false 1 v52 g33 fun v53=>eW (nx s4 0) (some (i_ 1)) none fun v54=>ag .add (nx s4 6) (i_ 1) fun v55=>[x0,x2]=[x0,x2]∧N3 [v54,(nx s32 0),(nx s32 1),(nx s32 2),(nx s32 3),v53,v55] g33)) (cg p_ (nx s4 5) fun v56=>bo 2 v56 fun v57=>ak false 1 v57 g33 fun v58=>ag .neq v58 (.str []) fun v59=>aH (fun J60=>aI v59 true (cg p_ (nx s4 5) fun v61=>bo 2 v61 fun v62=>ak false 1 v62 g33 fun v63=>bx p_ (.fn (.func 59) [] []) [(nx s4 0),v63] g33 fun v64 g65=>[x0,(nx s4 0),x2,(nx s32 0),(nx s32 1),(nx s32 2),(nx s32 3),(nx s4 5),(nx s4 6)]=[x0,(nx s4 0),x2,(nx s32 0),(nx s32 1),(nx s32 2),(nx s32 3),(nx s4 5),(nx s4 6)]∧J60 [tt,v64] g65) ([x0,(nx s4 0),x2,(nx s32 0),(nx s32 1),(nx s32 2),(nx s32 3),(nx s4 5),(nx s4 6)]=[x0,(nx s4 0),x2,(nx s32 0),(nx s32 1),(nx s32 2),(nx s32 3),(nx s4 5),(nx s4 6)]∧J60 [(bI true v59),un] g33)) fun s66 g67=>bA (nx s66 0) (nx s66 1) ff fun v68=>af v68 (cg p_ (nx s4 5) fun v69=>bo 2 v69 fun v70=>ak false 1 v70 g67 fun v71=>de v71 fun v72=>ag .add (nx s4 6) v72 fun v73=>cg p_ (nx s4 5) fun v74=>bo 2 v74 fun v75=>ak false 1 v75 g67 fun v76=>de v76 fun v77=>eW (nx s4 0) (some v77) none fun v78=>cg p_ (nx s4 5) fun v79=>bo 3 v79 fun v80=>ak false 1 v80 g67 fun v81=>[x0,x2]=[x0,x2]∧N3 [v78,(nx s32 0),(nx s32 1),(nx s32 2),(nx s32 3),v81,v73] g67) (K (.aA [(nx s32 0),(nx s32 1),(nx s32 2)]) g67)))) (K (.aA [(nx s4 1),(nx s4 2),(nx s4 3)]) g5)
def aaC:Code:=(Tryz.f269.body).getD .skip
def Es(x0 x1 x2:AV):Body p_ 269 [x0,x1,x2] (BC x0 x1 x2):=⟨aaC,(.seq .nil (.seq .nil (.seq .nil (.seq .nil (.seq (.one (.loop [0,2] [1,6,7,8,9,10,11] (.seq .nil (.one (.join [0,1,2,10,11] [6,7,8,9] (.seq (.aQ [.op 0 false,.op 1 false,.op 2 false,.op 3 false,.op 4 false,.op 5 false,.op 6 false,.aB 6 true [(7,false),(8,false)] [0,1,2,6,7,8,9,10,11] [24,26],.aB 8 true [(9,false),(10,false),(11,false),(12,false),(13,false)] [0,1,2,6,7,8,9,10,11,24] [26,31],.aB 6 true [(14,false),(15,false)] [0,1,2,6,7,8,9,10,11] [24,33],.op 16 false]) .nil) (.seq .nil (.seq .nil (.two (.seq (.draw 8 [.op 0 false,.op 1 false,.op 2 false,.op 3 false,.op 4 false,.op 5 false,.op 6 false,.op 7 false] [] []) .nil) (.seq (.aQ [.op 0 false,.op 1 false,.op 2 false,.op 3 false,.op 4 false,.op 5 false,.aB 5 true [(6,false),(7,false),(8,false),(9,false),(10,false),(11,false)] [0,1,2,6,7,8,9,10,11] [81,87],.op 12 false]) .nil))))))))) .nil))))),107,[.tmp 6,.tmp 7,.tmp 8],⟨Tryz.f269,Tryz.func269,rfl,by kernel_rfl,by kernel_rfl,by kernel_rfl⟩,by simp,fun h K=>by kernel_rfl⟩
end
section
open Go Go.Aw
def fu:List Nat:=[0]++List.replicate 9 4++[1,4,2,3]++List.replicate 242 4
def rb:List AV:=.str []:: i_ 0:: .str []:: .v (.pointer none):: .own 4 0 4 1:: i_ 4:: fu.map fun n=>.v (.int .u8 (Int.ofNat n))
def tb:List AV:=[.op 8 0,.v (.pointer none),.op 7 0,.op 5 0]
def e0:aL:=.ah ⟨9,[.str [13,10],.str [10],.str [13],.str [10],.str [12],.str [10],.str [0],.str [239,191,189]],true⟩
def e1:aL:=.tok 9 1 8
def tH(once mu:Int)(r s:AV):jM:=⟨162,[.v (.int .u32 once),.v (.int .i32 mu),.v (.int .u32 0),r,s],true⟩
def keys:AV:=.sb 1 1 [[.str [13,10]],[.str [10]],[.str [13]],[.str [10]],[.str [12]],[.str [10]],[.str [0]],[.str [239,191,189]]]
def Qi:aa:=[.ah ⟨250,[.str [10],i_ 6,.str [10],.op 6 0,.v (.slice none 0 0)],true⟩,.ah ⟨250,[.str [10],i_ 8,.str [],.v (.pointer none),.v (.slice none 0 0)],true⟩,.ah ⟨250,[.str [10],i_ 4,.str [],.v (.pointer none),.v (.slice none 0 0)],true⟩,.ah ⟨250,[.str [239,191,189],i_ 2,.str [],.v (.pointer none),.v (.slice none 0 0)],true⟩]
def Hb(mu:Int):aa:=[e0,e1,.ah (tH 0 mu (.v .nilIface) keys)]
def Ha(once mu:Int):aa:=e0:: e1:: .ah (tH once mu (.il 212 (.op 3 0)) (.v (.slice none 0 0))):: .ah ⟨252,rb,true⟩:: .ah ⟨247,tb,true⟩:: Qi
end
section
open Go Go.Aw
variable [Laid]
def YR(h:aa)(K:AV→aa→Prop):Prop:=
 qP 9 8 1 (.str []) [(0,1,(.str [13,10])),(1,1,(.str [10])),(2,1,(.str [13])),(3,1,(.str [10])),(4,1,(.str [12])),(5,1,(.str [10])),(6,1,(.str [0])),(7,1,(.str [239,191,189]))] h fun a b=>iC p_ 91 [a] b fun c d=>K c d
def V57:Body p_ 57 [] (YR):=bB Tryz.func57 .nil 3 [.tmp 0]
def Zk(a:AV)(h:aa)(K:AV→aa→Prop):Prop:=
 aH (fun b=>br a fun c=>qBe .rem c 2 fun d=>qBe .eql d 1 fun e=>af e (pb 9 (.str [115,116,114,105,110,103,115,46,78,101,119,82,101,112,108,97,99,101,114,58,32,111,100,100,32,97,114,103,117,109,101,110,116,32,99,111,117,110,116]) fun m=>False) (eC [a] (b [] h))) fun n f=>bR false 9 1 16 qNs a f fun g i=>aX (.agg [.v (.int .u32 0),.v (.int .i32 0),.v (.int .u32 0),(.v .nilIface),qNs]) [(4,1,g)] fun j=>aV 162 j i fun k l=>K k l
def V91(a:AV):Body p_ 91 [a] (Zk a):=bB Tryz.func91 (sn (.join [0] [] .nil .nil)) 12 [.tmp 2]
def Zm(a:AV)(h:aa)(K:AV→aa→Prop):Prop:=
 iC p_ 131 [a] h fun b c=>qSt p_ a 3 b c fun d=>qSt p_ a 4 qNs d fun e=>K (.aA []) e
def V93(a:AV):Body p_ 93 [a] (Zm a):=bB Tryz.func93 .nil 10 []
def Td(s:AV)(h:aa)(K:AV→aa→Prop):Prop:=
 qLd p_ s 4 h fun a=>br a fun t=>qBe .eql t 2 fun u=>qJa u [a] h (fun v=>aO 1 a (i_ 0) fun w=>ak false 1 w h fun x=>de x fun y=>qBe .gtr y 1 fun z=>v z h) fun A i=>af A (aO 1 a (i_ 0) fun B=>ak false 1 B i fun C=>aO 1 a (i_ 1) fun D=>ak false 1 D i fun E=>iQ p_ 162 [C,E] i fun F=>pb 210 F fun G=>K G i) (bJ [tt,i_ 0] i fun H c d =>
 br a fun I=>ag .lss (nx c 1) I fun J=>af J (aH (fun o=>aO 1 a (nx c 1) fun L=>ak false 1 L d fun M=>de M fun N=>qBe .neq N 1 fun O=>af O (iC p_ 163 [a] d fun P Q=>pb 212 P fun R=>K R Q) (qBe .add (nx c 1) 1 fun S=>aO 1 a S fun T=>ak false 1 T d fun U=>de U fun V=>qBe .neq V 1 fun W=>af W (eC [a,nx c 1] (o [ff] d)) (eC [a,nx c 1] (o [nx c 0] d)))) fun X Y=>qBe .add (nx c 1) 2 fun Z=>eC [a] (H [nx X 0,Z] Y)) (af (nx c 0) (aX (.agg [u8 0,u8 0,u8 0,u8 0,u8 0,u8 0,u8 0,u8 0,u8 0,u8 0,u8 0,u8 0,u8 0,u8 0,u8 0,u8 0,u8 0,u8 0,u8 0,u8 0,u8 0,u8 0,u8 0,u8 0,u8 0,u8 0,u8 0,u8 0,u8 0,u8 0,u8 0,u8 0,u8 0,u8 0,u8 0,u8 0,u8 0,u8 0,u8 0,u8 0,u8 0,u8 0,u8 0,u8 0,u8 0,u8 0,u8 0,u8 0,u8 0,u8 0,u8 0,u8 0,u8 0,u8 0,u8 0,u8 0,u8 0,u8 0,u8 0,u8 0,u8 0,u8 0,u8 0,u8 0,u8 0,u8 0,u8 0,u8 0,u8 0,u8 0,u8 0,u8 0,u8 0,u8 0,u8 0,u8 0,u8 0,u8 0,u8 0,u8 0,u8 0,u8 0,u8 0,u8 0,u8 0,u8 0,u8 0,u8 0,u8 0,u8 0,u8 0,u8 0,u8 0,u8 0,u8 0,u8 0,u8 0,u8 0,u8 0,u8 0,u8 0,u8 0,u8 0,u8 0,u8 0,u8 0,u8 0,u8 0,u8 0,u8 0,u8 0,u8 0,u8 0,u8 0,u8 0,u8 0,u8 0,u8 0,u8 0,u8 0,u8 0,u8 0,u8 0,u8 0,u8 0,u8 0,u8 0,u8 0,u8 0,u8 0,u8 0,u8 0,u8 0,u8 0,u8 0,u8 0,u8 0,u8 0,u8 0,u8 0,u8 0,u8 0,u8 0,u8 0,u8 0,u8 0,u8 0,u8 0,u8 0,u8 0,u8 0,u8 0,u8 0,u8 0,u8 0,u8 0,u8 0,u8 0,u8 0,u8 0,u8 0,u8 0,u8 0,u8 0,u8 0,u8 0,u8 0,u8 0,u8 0,u8 0,u8 0,u8 0,u8 0,u8 0,u8 0,u8 0,u8 0,u8 0,u8 0,u8 0,u8 0,u8 0,u8 0,u8 0,u8 0,u8 0,u8 0,u8 0,u8 0,u8 0,u8 0,u8 0,u8 0,u8 0,u8 0,u8 0,u8 0,u8 0,u8 0,u8 0,u8 0,u8 0,u8 0,u8 0,u8 0,u8 0,u8 0,u8 0,u8 0,u8 0,u8 0,u8 0,u8 0,u8 0,u8 0,u8 0,u8 0,u8 0,u8 0,u8 0,u8 0,u8 0,u8 0,u8 0,u8 0,u8 0,u8 0,u8 0,u8 0,u8 0,u8 0,u8 0,u8 0,u8 0,u8 0,u8 0,u8 0,u8 0,u8 0,u8 0,u8 0,u8 0,u8 0,u8 0,u8 0,u8 0,u8 0,u8 0,u8 0,u8 0,u8 0,u8 0,u8 0,u8 0,u8 0,u8 0]) [] fun a0=>aV 215 (.agg [u8 0,u8 0,u8 0,u8 0,u8 0,u8 0,u8 0,u8 0,u8 0,u8 0,u8 0,u8 0,u8 0,u8 0,u8 0,u8 0,u8 0,u8 0,u8 0,u8 0,u8 0,u8 0,u8 0,u8 0,u8 0,u8 0,u8 0,u8 0,u8 0,u8 0,u8 0,u8 0,u8 0,u8 0,u8 0,u8 0,u8 0,u8 0,u8 0,u8 0,u8 0,u8 0,u8 0,u8 0,u8 0,u8 0,u8 0,u8 0,u8 0,u8 0,u8 0,u8 0,u8 0,u8 0,u8 0,u8 0,u8 0,u8 0,u8 0,u8 0,u8 0,u8 0,u8 0,u8 0,u8 0,u8 0,u8 0,u8 0,u8 0,u8 0,u8 0,u8 0,u8 0,u8 0,u8 0,u8 0,u8 0,u8 0,u8 0,u8 0,u8 0,u8 0,u8 0,u8 0,u8 0,u8 0,u8 0,u8 0,u8 0,u8 0,u8 0,u8 0,u8 0,u8 0,u8 0,u8 0,u8 0,u8 0,u8 0,u8 0,u8 0,u8 0,u8 0,u8 0,u8 0,u8 0,u8 0,u8 0,u8 0,u8 0,u8 0,u8 0,u8 0,u8 0,u8 0,u8 0,u8 0,u8 0,u8 0,u8 0,u8 0,u8 0,u8 0,u8 0,u8 0,u8 0,u8 0,u8 0,u8 0,u8 0,u8 0,u8 0,u8 0,u8 0,u8 0,u8 0,u8 0,u8 0,u8 0,u8 0,u8 0,u8 0,u8 0,u8 0,u8 0,u8 0,u8 0,u8 0,u8 0,u8 0,u8 0,u8 0,u8 0,u8 0,u8 0,u8 0,u8 0,u8 0,u8 0,u8 0,u8 0,u8 0,u8 0,u8 0,u8 0,u8 0,u8 0,u8 0,u8 0,u8 0,u8 0,u8 0,u8 0,u8 0,u8 0,u8 0,u8 0,u8 0,u8 0,u8 0,u8 0,u8 0,u8 0,u8 0,u8 0,u8 0,u8 0,u8 0,u8 0,u8 0,u8 0,u8 0,u8 0,u8 0,u8 0,u8 0,u8 0,u8 0,u8 0,u8 0,u8 0,u8 0,u8 0,u8 0,u8 0,u8 0,u8 0,u8 0,u8 0,u8 0,u8 0,u8 0,u8 0,u8 0,u8 0,u8 0,u8 0,u8 0,u8 0,u8 0,u8 0,u8 0,u8 0,u8 0,u8 0,u8 0,u8 0,u8 0,u8 0,u8 0,u8 0,u8 0,u8 0,u8 0,u8 0,u8 0,u8 0,u8 0,u8 0,u8 0,u8 0,u8 0,u8 0,u8 0,u8 0,u8 0,u8 0,u8 0,u8 0,u8 0,u8 0,u8 0,u8 0,u8 0,u8 0,u8 0]) d fun f a1=>ao 256 f a0 a1 fun a2=>bJ [i_ 0] a2 fun a3 k p =>
 qBe .lss (nx k 0) 256 fun a4=>af a4 (cy .u8 (nx k 0) fun a5=>eV 256 1 f (nx k 0) fun a6=>ao 1 a6 a5 p fun a7=>qBe .add (nx k 0) 1 fun a8=>eC [a,f] (a3 [a8] a7)) (br a fun a9=>qBe .sub a9 2 fun b0=>bJ [b0] p fun b1 l m =>
 qBe .geq (nx l 0) 0 fun b2=>af b2 (aO 1 a (nx l 0) fun b3=>ak false 1 b3 m fun b4=>eJ b4 (i_ 0) fun b5=>qBe .add (nx l 0) 1 fun b6=>aO 1 a b6 fun b7=>ak false 1 b7 m fun b8=>eJ b8 (i_ 0) fun b9=>eV 256 1 f b5 fun c0=>ao 1 c0 b9 m fun c1=>qBe .sub (nx l 0) 2 fun c2=>eC [a,f] (b1 [c2] c1)) (pb 216 f fun c3=>K c3 m))) (br a fun c4=>qBe .quo c4 2 fun c5=>qO 9 1 16 (.str []) (i_ 0) c5 d fun c6 c7=>aX (.agg [qNs,qNs,qNs,qNs,qNs,qNs,qNs,qNs,qNs,qNs,qNs,qNs,qNs,qNs,qNs,qNs,qNs,qNs,qNs,qNs,qNs,qNs,qNs,qNs,qNs,qNs,qNs,qNs,qNs,qNs,qNs,qNs,qNs,qNs,qNs,qNs,qNs,qNs,qNs,qNs,qNs,qNs,qNs,qNs,qNs,qNs,qNs,qNs,qNs,qNs,qNs,qNs,qNs,qNs,qNs,qNs,qNs,qNs,qNs,qNs,qNs,qNs,qNs,qNs,qNs,qNs,qNs,qNs,qNs,qNs,qNs,qNs,qNs,qNs,qNs,qNs,qNs,qNs,qNs,qNs,qNs,qNs,qNs,qNs,qNs,qNs,qNs,qNs,qNs,qNs,qNs,qNs,qNs,qNs,qNs,qNs,qNs,qNs,qNs,qNs,qNs,qNs,qNs,qNs,qNs,qNs,qNs,qNs,qNs,qNs,qNs,qNs,qNs,qNs,qNs,qNs,qNs,qNs,qNs,qNs,qNs,qNs,qNs,qNs,qNs,qNs,qNs,qNs,qNs,qNs,qNs,qNs,qNs,qNs,qNs,qNs,qNs,qNs,qNs,qNs,qNs,qNs,qNs,qNs,qNs,qNs,qNs,qNs,qNs,qNs,qNs,qNs,qNs,qNs,qNs,qNs,qNs,qNs,qNs,qNs,qNs,qNs,qNs,qNs,qNs,qNs,qNs,qNs,qNs,qNs,qNs,qNs,qNs,qNs,qNs,qNs,qNs,qNs,qNs,qNs,qNs,qNs,qNs,qNs,qNs,qNs,qNs,qNs,qNs,qNs,qNs,qNs,qNs,qNs,qNs,qNs,qNs,qNs,qNs,qNs,qNs,qNs,qNs,qNs,qNs,qNs,qNs,qNs,qNs,qNs,qNs,qNs,qNs,qNs,qNs,qNs,qNs,qNs,qNs,qNs,qNs,qNs,qNs,qNs,qNs,qNs,qNs,qNs,qNs,qNs,qNs,qNs,qNs,qNs,qNs,qNs,qNs,qNs,qNs,qNs,qNs,qNs,qNs,qNs,qNs,qNs,qNs,qNs,qNs,qNs,qNs,qNs,qNs,qNs,qNs,qNs,qNs]) [(256,1,c6)] fun c8=>aV 219 (.agg [qNs,qNs,qNs,qNs,qNs,qNs,qNs,qNs,qNs,qNs,qNs,qNs,qNs,qNs,qNs,qNs,qNs,qNs,qNs,qNs,qNs,qNs,qNs,qNs,qNs,qNs,qNs,qNs,qNs,qNs,qNs,qNs,qNs,qNs,qNs,qNs,qNs,qNs,qNs,qNs,qNs,qNs,qNs,qNs,qNs,qNs,qNs,qNs,qNs,qNs,qNs,qNs,qNs,qNs,qNs,qNs,qNs,qNs,qNs,qNs,qNs,qNs,qNs,qNs,qNs,qNs,qNs,qNs,qNs,qNs,qNs,qNs,qNs,qNs,qNs,qNs,qNs,qNs,qNs,qNs,qNs,qNs,qNs,qNs,qNs,qNs,qNs,qNs,qNs,qNs,qNs,qNs,qNs,qNs,qNs,qNs,qNs,qNs,qNs,qNs,qNs,qNs,qNs,qNs,qNs,qNs,qNs,qNs,qNs,qNs,qNs,qNs,qNs,qNs,qNs,qNs,qNs,qNs,qNs,qNs,qNs,qNs,qNs,qNs,qNs,qNs,qNs,qNs,qNs,qNs,qNs,qNs,qNs,qNs,qNs,qNs,qNs,qNs,qNs,qNs,qNs,qNs,qNs,qNs,qNs,qNs,qNs,qNs,qNs,qNs,qNs,qNs,qNs,qNs,qNs,qNs,qNs,qNs,qNs,qNs,qNs,qNs,qNs,qNs,qNs,qNs,qNs,qNs,qNs,qNs,qNs,qNs,qNs,qNs,qNs,qNs,qNs,qNs,qNs,qNs,qNs,qNs,qNs,qNs,qNs,qNs,qNs,qNs,qNs,qNs,qNs,qNs,qNs,qNs,qNs,qNs,qNs,qNs,qNs,qNs,qNs,qNs,qNs,qNs,qNs,qNs,qNs,qNs,qNs,qNs,qNs,qNs,qNs,qNs,qNs,qNs,qNs,qNs,qNs,qNs,qNs,qNs,qNs,qNs,qNs,qNs,qNs,qNs,qNs,qNs,qNs,qNs,qNs,qNs,qNs,qNs,qNs,qNs,qNs,qNs,qNs,qNs,qNs,qNs,qNs,qNs,qNs,qNs,qNs,qNs,qNs,qNs,qNs,qNs,qNs,qNs,qNs]) c7 fun b c9=>ao 257 b c8 c9 fun d0=>br a fun d1=>qBe .sub d1 2 fun d2=>bJ [d2] d0 fun d3 g e =>
 qBe .geq (nx g 0) 0 fun d4=>af d4 (aO 1 a (nx g 0) fun d5=>ak false 1 d5 e fun d6=>eJ d6 (i_ 0) fun j=>qBe .add (nx g 0) 1 fun d7=>aO 1 a d7 fun d8=>ak false 1 d8 e fun n=>aH (fun q=>bo 0 b fun d9=>eV 256 1 d9 j fun e0=>ak false 1 e0 e fun e1=>kJ false (vM e1) fun e2=>af e2 (iFL 256 false 1 b e fun e3=>qP 5 1 1 (u8 0) [(0,1,j)] e fun e4 r=>cR e4 r fun e5=>qP 9 1 1 (.str []) [(0,1,e5)] r fun e6 e7=>bR false 9 1 16 e3 e6 e7 fun e8 e9=>bo 256 b fun f0=>ao 1 f0 e8 e9 fun f1=>eC [a,b,nx g 0,j,n] (q [] f1)) (eC [a,b,nx g 0,j,n] (q [] e))) fun g0 f2=>jb 5 n f2 fun f3 f4=>bo 0 b fun f5=>eV 256 1 f5 j fun f6=>ao 1 f6 f3 f4 fun f7=>qBe .sub (nx g 0) 2 fun f8=>eC [a,b] (d3 [f8] f7)) (pb 220 b fun f9=>K f9 e))))
def ZW(a:AV):Body p_ 131 [a] (Td a):=bB Tryz.func131 (sn (sn (.seq (.seq (.aQ (oR 0 4 (.aB 3 true (fR 4 5) [3] [22,27]::.op 9 false::[]))) (.two (.seq (.draw 9 (oR 0 9 []) [] []) .nil) .nil)) (sn (.seq (sn (.one (.loop [3] [4,5] (sn (.join [3,5] [4] .nil .nil))))) (.seq (sn (.two (sn (.seq (sn (.one (.loop [3,6] [61] .nil))) (.seq (sn (.one (.loop [3,6] [8] .nil))) .nil))) .nil)) (sn (.seq (sn (.one (.loop [3,11] [12] (sn (.seq (.one (sn (sn (.join [3,11,12,13,14] [] .nil .nil)))) .nil))))) .nil)))))))) 132 [.tmp 2]
def Tt(b:AV)(h:aa)(K:AV→aa→Prop):Prop:=
 aV 252 (.agg [.str [],i_ 0,.str [],.v (.pointer none),qNs,i_ 0,u8 0,u8 0,u8 0,u8 0,u8 0,u8 0,u8 0,u8 0,u8 0,u8 0,u8 0,u8 0,u8 0,u8 0,u8 0,u8 0,u8 0,u8 0,u8 0,u8 0,u8 0,u8 0,u8 0,u8 0,u8 0,u8 0,u8 0,u8 0,u8 0,u8 0,u8 0,u8 0,u8 0,u8 0,u8 0,u8 0,u8 0,u8 0,u8 0,u8 0,u8 0,u8 0,u8 0,u8 0,u8 0,u8 0,u8 0,u8 0,u8 0,u8 0,u8 0,u8 0,u8 0,u8 0,u8 0,u8 0,u8 0,u8 0,u8 0,u8 0,u8 0,u8 0,u8 0,u8 0,u8 0,u8 0,u8 0,u8 0,u8 0,u8 0,u8 0,u8 0,u8 0,u8 0,u8 0,u8 0,u8 0,u8 0,u8 0,u8 0,u8 0,u8 0,u8 0,u8 0,u8 0,u8 0,u8 0,u8 0,u8 0,u8 0,u8 0,u8 0,u8 0,u8 0,u8 0,u8 0,u8 0,u8 0,u8 0,u8 0,u8 0,u8 0,u8 0,u8 0,u8 0,u8 0,u8 0,u8 0,u8 0,u8 0,u8 0,u8 0,u8 0,u8 0,u8 0,u8 0,u8 0,u8 0,u8 0,u8 0,u8 0,u8 0,u8 0,u8 0,u8 0,u8 0,u8 0,u8 0,u8 0,u8 0,u8 0,u8 0,u8 0,u8 0,u8 0,u8 0,u8 0,u8 0,u8 0,u8 0,u8 0,u8 0,u8 0,u8 0,u8 0,u8 0,u8 0,u8 0,u8 0,u8 0,u8 0,u8 0,u8 0,u8 0,u8 0,u8 0,u8 0,u8 0,u8 0,u8 0,u8 0,u8 0,u8 0,u8 0,u8 0,u8 0,u8 0,u8 0,u8 0,u8 0,u8 0,u8 0,u8 0,u8 0,u8 0,u8 0,u8 0,u8 0,u8 0,u8 0,u8 0,u8 0,u8 0,u8 0,u8 0,u8 0,u8 0,u8 0,u8 0,u8 0,u8 0,u8 0,u8 0,u8 0,u8 0,u8 0,u8 0,u8 0,u8 0,u8 0,u8 0,u8 0,u8 0,u8 0,u8 0,u8 0,u8 0,u8 0,u8 0,u8 0,u8 0,u8 0,u8 0,u8 0,u8 0,u8 0,u8 0,u8 0,u8 0,u8 0,u8 0,u8 0,u8 0,u8 0,u8 0,u8 0,u8 0,u8 0,u8 0,u8 0,u8 0,u8 0,u8 0,u8 0,u8 0,u8 0,u8 0,u8 0,u8 0,u8 0,u8 0,u8 0,u8 0,u8 0,u8 0,u8 0,u8 0,u8 0,u8 0,u8 0,u8 0,u8 0,u8 0,u8 0,u8 0,u8 0]) h fun a s=>bJ [i_ 0] s fun t f g =>
 br b fun u=>ag .lss (nx f 0) u fun w=>af w (aO 1 b (nx f 0) fun x=>ak false 1 x g fun l=>bJ [i_ 0] g fun y m o =>
 de l fun z=>ag .lss (nx m 0) z fun A=>af A (eJ l (nx m 0) fun B=>qFd p_ a 6 fun C=>eV 256 1 C B fun D=>ao 1 D (u8 1) o fun E=>qBe .add (nx m 0) 1 fun F=>eC [b,a,nx f 0,l] (y [F] E)) (qBe .add (nx f 0) 2 fun G=>eC [b,a] (t [G] o))) (cg p_ a fun H=>iFL 6 true 256 H g fun p=>bJ [i_ 0] g fun I n i =>
 qBe .lss (nx n 0) 256 fun J=>af J (mN false 1 256 p (nx n 0) fun L=>qLd p_ a 5 i fun M=>cy .i64 L fun N=>ag .add M N fun O=>qSt p_ a 5 O i fun P=>qBe .add (nx n 0) 1 fun Q=>eC [b,a,p] (I [Q] P)) (cg p_ a fun R=>iFL 6 true 256 R i fun j=>bJ [u8 0,i_ 0] i fun S c d =>
 qBe .lss (nx c 1) 256 fun T=>af T (aH (fun q=>mN false 1 256 j (nx c 1) fun U=>ag .eql U (u8 0) fun V=>af V (qLd p_ a 5 d fun W=>cy .u8 W fun X=>qFd p_ a 6 fun Y=>eV 256 1 Y (nx c 1) fun Z=>ao 1 Z X d fun a0=>eC [b,a,j,nx c 1] (q [nx c 0] a0)) (qFd p_ a 6 fun a1=>eV 256 1 a1 (nx c 1) fun a2=>ao 1 a2 (nx c 0) d fun a3=>ag .add (nx c 0) (u8 1) fun a4=>eC [b,a,j,nx c 1] (q [a4] a3))) fun a5 a6=>qBe .add (nx c 1) 1 fun a7=>eC [b,a,j] (S [nx a5 0,a7] a6)) (qLd p_ a 5 d fun r=>qO 247 1 8 (.v (.pointer none)) r r d fun a8 a9=>qFd p_ a 0 fun b0=>bo 4 b0 fun b1=>ao 1 b1 a8 a9 fun b2=>bJ [i_ 0] b2 fun b3 e k =>
 br b fun b4=>ag .lss (nx e 0) b4 fun b5=>af b5 (qFd p_ a 0 fun b6=>aO 1 b (nx e 0) fun b7=>ak false 1 b7 k fun b8=>qBe .add (nx e 0) 1 fun b9=>aO 1 b b9 fun c0=>ak false 1 c0 k fun c1=>jj b fun c2=>ag .sub c2 (nx e 0) fun c3=>iC p_ 194 [b6,b8,c1,c3,a] k fun c6 c4=>qBe .add (nx e 0) 2 fun c5=>eC [b,a] (b3 [c5] c4)) (K a k))))
def Z9(a:AV):Body p_ 163 [a] (Tt a):=bB Tryz.func163 (sn (sn (.seq (sn (.one (.loop [0,3] [4] (sn (.seq (.one (sn (sn (.one (.loop [0,3,4,5] [6] (sn (.seq (.one (.draw 7 (oR 0 7 []) [.op 7 false] [])) .nil))))))) .nil))))) (.seq (sn (.one (.loop [0,3,40] [41] .nil))) (sn (.seq (sn (.one (.loop [0,3,57] [9,58] (sn (sn (.join [0,3,57,58] [9] (.one (sn (sn (.two (.draw 10 (oR 0 10 []) [.op 10 false] []) .nil)))) .nil)))))) (sn (.seq (sn (.one (.loop [0,3] [12] (sn (.seq (.one (.draw 17 (oR 0 17 []) [.op 17 true] [])) .nil))))) .nil)))))))) 117 [.tmp 2]
def Ji(a b d e c:AV)(h:aa)(K:AV→aa→Prop):Prop:=
 ag .eql b (.str []) fun z=>af z (qLd p_ a 1 h fun A=>qBe .eql A 0 fun B=>af B (qSt p_ a 0 d h fun C=>qSt p_ a 1 e C fun D=>K (.aA []) D) (K (.aA []) h)) (qLd p_ a 2 h fun E=>ag .neq E (.str []) fun F=>af F (aH (fun p=>bJ [i_ 0] h fun G g m =>
 qLd p_ a 2 m fun H=>de H fun I=>ag .lss (nx g 0) I fun J=>qJa J [a,b,d,e,c,nx g 0] m (fun L=>de b fun M=>ag .lss (nx g 0) M fun N=>L N m) fun O k=>af O (qLd p_ a 2 k fun P=>eJ P (nx g 0) fun Q=>eJ b (nx g 0) fun R=>ag .neq Q R fun S=>af S (eC [a,b,d,e,c] (p [nx g 0] k)) (qBe .add (nx g 0) 1 fun T=>eC [a,b,d,e,c] (G [T] k))) (eC [a,b,d,e,c] (p [nx g 0] k))) fun i f=>qLd p_ a 2 f fun U=>de U fun V=>ag .eql (nx i 0) V fun W=>af W (qLd p_ a 3 f fun X=>eW b (some (nx i 0)) none fun Y=>iC p_ 194 [X,Y,d,e,c] f fun g7 Z=>K (.aA []) Z) (qBe .eql (nx i 0) 0 fun a0=>af a0 (aH (fun q=>qLd p_ a 2 f fun a1=>de a1 fun a2=>qBe .eql a2 1 fun a3=>af a3 (qLd p_ a 3 f fun a4=>eC [a,b,d,e,c] (q [a4] f)) (qLd p_ a 2 f fun a5=>eW a5 (some (i_ 1)) none fun a6=>qLd p_ a 3 f fun a7=>aX (.agg [.str [],i_ 0,.str [],.v (.pointer none),qNs]) [(2,1,a6),(3,1,a7)] fun a8=>aV 250 a8 f fun a9 b0=>eC [a,b,d,e,c] (q [a9] b0))) fun b1 b2=>aV 250 (.agg [.str [],i_ 0,.str [],.v (.pointer none),qNs]) b2 fun r s=>qLd p_ c 5 s fun t=>qO 247 1 8 (.v (.pointer none)) t t s fun b3 b4=>qSt p_ a 4 b3 b4 fun l=>qLd p_ a 4 l fun b5=>qLd p_ a 2 l fun b6=>eJ b6 (i_ 0) fun b7=>qFd p_ c 6 fun b8=>eV 256 1 b8 b7 fun b9=>ak false 1 b9 l fun c0=>aO 1 b5 c0 fun c1=>ao 1 c1 (nx b1 0) l fun n=>qLd p_ a 4 n fun c2=>eJ b (i_ 0) fun c3=>qFd p_ c 6 fun c4=>eV 256 1 c4 c3 fun c5=>ak false 1 c5 n fun c6=>aO 1 c2 c6 fun c7=>ao 1 c7 r n fun c8=>qSt p_ a 2 (.str []) c8 fun c9=>qSt p_ a 3 (.v (.pointer none)) c9 fun d0=>eW b (some (i_ 1)) none fun d1=>iC p_ 194 [r,d1,d,e,c] d0 fun g8 d2=>K (.aA []) d2) (qLd p_ a 2 f fun d3=>eW d3 (some (nx i 0)) none fun d4=>qLd p_ a 3 f fun d5=>aX (.agg [.str [],i_ 0,.str [],.v (.pointer none),qNs]) [(2,1,d4),(3,1,d5)] fun d6=>aV 250 d6 f fun u w=>qLd p_ a 2 w fun d7=>eW d7 none (some (nx i 0)) fun d8=>qSt p_ a 2 d8 w fun d9=>qSt p_ a 3 u d9 fun e0=>eW b (some (nx i 0)) none fun e1=>iC p_ 194 [u,e1,d,e,c] e0 fun g9 e2=>K (.aA []) e2))) (qLd p_ a 4 h fun e3=>kJ true (vM e3) fun e4=>af e4 (eJ b (i_ 0) fun e5=>qFd p_ c 6 fun e6=>eV 256 1 e6 e5 fun e7=>ak false 1 e7 h fun j=>aH (fun x=>qLd p_ a 4 h fun e8=>aO 1 e8 j fun e9=>ak false 1 e9 h fun f0=>kJ false (tG f0) fun f1=>af f1 (qLd p_ a 4 h fun f2=>aV 250 (.agg [.str [],i_ 0,.str [],.v (.pointer none),qNs]) h fun f3 f4=>aO 1 f2 j fun f5=>ao 1 f5 f3 f4 fun f6=>eC [a,b,d,e,c,j] (x [] f6)) (eC [a,b,d,e,c,j] (x [] h))) fun i0 o=>qLd p_ a 4 o fun f7=>aO 1 f7 j fun f8=>ak false 1 f8 o fun f9=>eW b (some (i_ 1)) none fun g0=>iC p_ 194 [f9,g0,d,e,c] o fun i1 g1=>K (.aA []) g1) (qSt p_ a 2 b h fun g2=>aV 250 (.agg [.str [],i_ 0,.str [],.v (.pointer none),qNs]) g2 fun g3 g4=>qSt p_ a 3 g3 g4 fun y=>qLd p_ a 3 y fun g5=>iC p_ 194 [g5,.str [],d,e,c] y fun i2 g6=>K (.aA []) g6)))
def M7(a b c d e:AV):Body p_ 194 [a,b,c,d,e] (Ji a b c d e):=bB Tryz.func194 (sn (sn (.two (sn (.join [0,1,2,3,4] [10] (.one (.loop [0,1,2,3,4] [10] (.seq (.seq (.aQ (oR 0 8 (.aB 7 true (fR 8 4) [0,1,2,3,4,10] [42,46]::.op 12 false::[]))) .nil) (.seq (.one (.seq (.draw 10 (oR 0 10 []) [] []) .nil)) .nil)))) (sn (.two (.draw 10 (oR 0 10 []) [.op 10 true] []) (sn (.two (sn (.join [0,1,2,3,4] [11] (sn (.two .nil (.draw 10 (oR 0 10 []) (oR 10 2 []) []))) (sn (sn (.seq (.draw 16 (oR 0 16 []) [.op 16 false] []) (.seq (.draw 13 (oR 0 13 []) [.op 13 false] []) .nil)))))) (.seq (.draw 11 (oR 0 11 []) (oR 11 2 []) []) .nil))))))) (sn (.two (.seq (.draw 8 (oR 0 8 []) [] []) (.join [0,1,2,3,4,14] [] .nil (.draw 12 (oR 0 12 []) [.op 12 true] []))) .nil))))) 241 []
end
end Go.Proofs.YtpcnidmmkknndaaGreatDoor
namespace Go.Aw
section
open Go Go.RowKit
section
variable {K:AV→Prop} {A B:Prop} {h:aa}
def cM(ex:x=.v (.int k a))(ey:y=.v (.int k b))(q:K (.v (.bool (decide (a<b))))):ag .lss x y K:=by subst ex;subst ey;simpa using q
def zzC(q:K (.v (.bool (decide (a<b))))):ag .lss (.v (.int k a)) (.v (.int k b)) K:=cM rfl rfl q
def ig(ex:x=.v (.int k a))(ey:y=.v (.int k b))(q:K (.v (.bool (decide (a≤b))))):ag .leq x y K:=by subst ex;subst ey;simpa using q
def zzD(q:K (.v (.bool (decide (a≤b))))):ag .leq (.v (.int k a)) (.v (.int k b)) K:=ig rfl rfl q
def fj(ex:x=.v (.int k a))(ey:y=.v (.int k b))(q:K (.v (.bool (decide (b<a))))):ag .gtr x y K:=by subst ex;subst ey;simpa using q
def zzE(q:K (.v (.bool (decide (b<a))))):ag .gtr (.v (.int k a)) (.v (.int k b)) K:=fj rfl rfl q
def mE(ex:x=.v (.int k a))(ey:y=.v (.int k b))(q:K (.v (.bool (decide (b≤a))))):ag .geq x y K:=by subst ex;subst ey;simpa using q
def zzF(q:K (.v (.bool (decide (b≤a))))):ag .geq (.v (.int k a)) (.v (.int k b)) K:=mE rfl rfl q
def bP(ex:x=.v (.int k a))(ey:y=.v (.int k b))(q:K (.v (.bool (decide (a=b))))):ag .eql x y K:=by subst ex;subst ey;simpa using q
def zzG(q:K (.v (.bool (decide (a=b))))):ag .eql (.v (.int k a)) (.v (.int k b)) K:=bP rfl rfl q
def dP(ex:x=.v (.int k a))(ey:y=.v (.int k b))(q:K (.v (.bool (!decide (a=b))))):ag .neq x y K:=by subst ex;subst ey;simpa using q
def zzH(q:K (.v (.bool (!decide (a=b))))):ag .neq (.v (.int k a)) (.v (.int k b)) K:=dP rfl rfl q
def gq(ex:x=.str a)(ey:y=.str b)(q:K (.v (.bool (decide (a=b))))):ag .eql x y K:=by subst ex;subst ey;simpa using q
def zzI(q:K (.v (.bool (decide (a=b))))):ag .eql (.str a) (.str b) K:=gq rfl rfl q
def jU(ex:x=.str a)(ey:y=.str b)(q:K (.v (.bool (!decide (a=b))))):ag .neq x y K:=by subst ex;subst ey;simpa using q
def zzJ(q:K (.v (.bool (!decide (a=b))))):ag .neq (.str a) (.str b) K:=jU rfl rfl q
def TY(ex:x=.v (.bool a))(ey:y=.v (.bool b))(q:K (.v (.bool (a == b)))):oy .eql x y K:=by subst ex;subst ey;simpa using q
def KE(ex:x=.v (.bool a))(ey:y=.v (.bool b))(q:K (.v (.bool (!(a == b))))):oy .neq x y K:=by subst ex;subst ey;simpa using q
def dQ(e:x=.v (.bool b))(q:K (.v (.bool (!b)))):cq x K:=by subst e;simpa using q
def zzO(q:K (.v (.bool (!b)))):cq (.v (.bool b)) K:=dQ rfl q
def ct(e:c=.v (.bool b))(qt:b=true→A)(qf:b=false→B):af c A B:=by subst e;simpa using⟨qt,qf⟩
def au(e:c=.v (.bool b))(hb:b=true)(q:A):af c A B:=by subst e;subst hb;simpa using q
def zzL(hb:b=true)(q:A):af (.v (.bool b)) A B:=au rfl hb q
def ax(e:c=.v (.bool b))(hb:b=false)(q:B):af c A B:=by subst e;subst hb;simpa using q
def zzK(hb:b=false)(q:B):af (.v (.bool b)) A B:=ax rfl hb q
def ju(e:c=.v (.bool (!b)))(q:af (.v (.bool b)) B A):af c A B:=by subst e;cases b<;>simpa using q
def cH(e:c=.v (.bool b))(qt:b=w→A)(qf:b=(!w)→B):aI c w A B:=by subst e;simpa using⟨qt,qf⟩
def bp(e:c=.v (.bool b))(hb:b=w)(q:A):aI c w A B:=by subst e;subst hb;cases b<;>simpa using q
def zzN(hb:b=w)(q:A):aI (.v (.bool b)) w A B:=bp rfl hb q
def bw(e:c=.v (.bool b))(hb:b=(!w))(q:B):aI c w A B:=by subst e;subst hb;cases w<;>simpa using q
def zzM(hb:b=(!w))(q:B):aI (.v (.bool b)) w A B:=bw rfl hb q
def fx(e:c=.v (.bool (!b)))(q:aI (.v (.bool b)) (!w) A B):aI c w A B:=by subst e;cases b<;>cases w<;>simpa using q
def BE(e:c=.v (.bool b))(hb:b=true)(q:K x):bA c x y K:=by subst e;subst hb;simpa using q
def uh(e:c=.v (.bool b))(hb:b=false)(q:K y):bA c x y K:=by subst e;subst hb;simpa using q
def xM(e:c=.v (.bool (!b)))(q:bA (.v (.bool b)) y x K):bA c x y K:=by subst e;cases b<;>simpa using q
def iE{off:Nat}{cs:List AV}(e:x=.ip cs)(q:K (.ip (cs.drop off))):bo off x K:=by subst e;exact q
def zzX{off:Nat}{cs:List AV}(q:K (.ip (cs.drop off))):bo off (.ip cs) K:=iE rfl q
def iK{cs:List AV}(e:x=.ip cs)(hn:cs.length=n)(q:K (.agg cs)):ak true n x h K:=by
 subst e;rw[HZ];exact⟨by omega,by rw[←hn,BY];exact q⟩
def zzY{cs:List AV}(hn:cs.length=n)(q:K (.agg cs)):ak true n (.ip cs) h K:=iK rfl hn q
def dR{sz id o:Nat}{cs:List AV}{KS:aa→Prop}(e:x=.op id o)(hb:h[id]?=some (.ah b))(hw:b.wr=true)(hv:bh v=cs)(hl:o+cs.length≤b.cells.length)(hz:cs.length=sz)(hs:cs.all bT=true)
 (q:KS (h.set id (.ah { b with cells:=cf b.cells o cs }))):ao sz x v h KS:=by
 subst e;subst hv;rw[zj,hb];exact⟨⟨hw,hl,hz,hs⟩,q⟩
def dA{sz:Nat}{rows:List (List AV)}(e:x=.sl sz rows)(hn:rows.length=n)(q:n≤maxLen→K (i_ n)):br x K:=by subst e;subst hn;rw[Lu];exact q
def zzf{sz:Nat}{rows:List (List AV)}(hn:rows.length=n)(q:n≤maxLen→K (i_ n)):br (.sl sz rows) K:=dA rfl hn q
def ni(e:x=.str l)(q:l.length≤maxLen→K (i_ l.length)):de x K:=by subst e;rw[BP];exact q
def zzZ(q:l.length≤maxLen→K (i_ l.length)):de (.str l) K:=ni rfl q
def bc{ps:List (Nat×Nat×AV)}{cs:List AV}(e:dS (bh z) ps=some cs)(q:K (.agg cs)):aX z ps K:=by rw[Ox,e];exact q
def iW{cs:List AV}(e:x=.aA cs)(hc:cs[i]?=some c)(q:K c):aU i x K:=bl e hc q
def zzB{cs:List AV}(hc:cs[i]?=some c)(q:K c):aU i (.aA cs) K:=iW rfl hc q
def xL{neg:Bool}{ks:List Nat}{xs ys:List AV}(ex:x=.agg xs)(ey:y=.agg ys)(hb:jn ks xs ys=some b)(q:K (.v (.bool (if neg then !b else b)))):me neg ks x y K:=by
 subst ex;subst ey;rw[UD,hb];exact q
def iV{α:Type}{m:Nat}{x i:AV}{l:List α}{rows:List (List AV)}{f:α→List AV}{n:Nat}{a:α}(e:x=.sl m rows)(hr:rows=l.map f)(ei:i=i_ n)(ha:l[n]?=some a)(q:K (.ip (f a))):aO m x i K:=by
 subst e;subst ei;subst hr;rw[HX];have hn:=(eQ.1 ha).1;refine⟨rfl,⟨by omega,by rw[abM];omega⟩, ?_⟩;have:(l.map f).getD (n:Int).toNat []=f a:=by rw[Mk,nE,iN,ha];rfl
 rw[this];exact q
def zzb{α:Type}{m:Nat}{i:AV}{l:List α}{rows:List (List AV)}{f:α→List AV}{n:Nat}{a:α}(hr:rows=l.map f)(ei:i=i_ n)(ha:l[n]?=some a)(q:K (.ip (f a))):aO m (.sl m rows) i K:=iV rfl hr ei ha q
def ug{n:Nat}(e:x=.str l)(ei:i=i_ n)(hb:l[n]?=some b)(q:K (.v (.int .u8 b.toNat))):eJ x i K:=by
 subst e;subst ei;have hn:=(eQ.1 hb).1;refine⟨⟨by omega,by omega⟩, ?_⟩;have:l.getD (n:Int).toNat 0=b:=by rw[Mk,nE,hb];rfl
 rw[this];exact q
end
def zG(f:AV→AV)(L:Nat)(h:aa)(r:List (List AV))(p:cJ r):oW f L h r=r:=by
 have:=zF f L h (.sl 0 r) (by rw[Pure];exact p);rw[eT]at this;simpa using this
theorem nQ:∀l:List UInt8,wQ (l.map bg)=some l
 | []=>rfl
 | b:: l=>by
   rw[GO,bg,wQ,nQ l];simp
def CW{K:AV→Prop}{id:Nat}(e:x=.own id 0 l.length 1)(hb:h[id]?=some (.ah b))(hc:b.cells=l.map bg)(q:K (.str l)):cR x h K:=by
 subst e;have h1:jG h 1 (.own id 0 l.length 1)=some (chunks 1 l.length b.cells):=by
  rw[Gs,hb];simp only[List.drop_zero,true_and];rw[if_pos (by rw[hc];simp)]
 have h2:(chunks 1 l.length b.cells).flatten=l.map bg:=by
  rw[(jl 1 l.length b.cells (by rw[hc];simp)).1,hc];rw[MK (by simp)]
 unfold cR;rw[h1];simp only[Option.bind_some,h2,nQ];exact q
def kv{α:Type}{l:List α}{k:Nat}{x:α}(h:l[k]?=some x):l.set k x=l:=by
 refine List.ext_getElem? fun j=>?_
 by_cases q:k=j
 ·subst q;rw[iD (eQ.1 h).1,h]
 ·rw[iF q]
def Qo(n:Nat)(a:AV):Pure a→Bd n a:=by
 refine AV.rec (motive_1:=fun a=>Pure a→Bd n a) (motive_2:=fun l=>aR l→lX n l) (motive_3:=fun r=>cJ r→wF n r) ?_ ?_ ?_ ?_ ?_ ?_ ?_ ?_ ?_ ?_ ?_ ?_ ?_ ?_ ?_ ?_ ?_ ?_ a;all_goals intros
 all_goals simp_all [Bd,lX,wF]
def kS(n:Nat)(l:List AV)(p:aR l):lX n l:=by
 have:=Qo n (.agg l) (by rw[Pure];exact p)
 rwa [Bd]at this
variable [Laid]
def Wk.back(hn:n≤M)(hM:M≤h.length)(e:h.take M=h')(es:s=s')(hb:∀x∈h',rT M x)(hs:∀a∈s',Bd M a):Wk n s h s' h':=by
 subst es;subst e;exact Wk.aaG hn hM hb hs
end
section
open Go Go.RowKit
mutual
inductive zK:AV→AV→Prop
 | refl (a:AV):zK a a
 | nil (s:Nat):zK (.v (.slice none 0 0)) (.sl s [])
 | sl {s:Nat} {r r':List (List AV)}:nW r r'→zK (.sl s r) (.sl s r')
 | aA {r r':List AV}:kB r r'→zK (.aA r) (.aA r')
inductive kB:List AV→List AV→Prop
 | nil:kB [] []
 | cons {a b:AV} {as_ bs:List AV}:zK a b→kB as_ bs→kB (a:: as_) (b:: bs)
inductive nW:List (List AV)→List (List AV)→Prop
 | nil:nW [] []
 | cons {a b:List AV} {as_ bs:List (List AV)}:kB a b→nW as_ bs→nW (a:: as_) (b:: bs)
end
theorem kB.length:∀{as_ bs:List AV},kB as_ bs→as_.length=bs.length
 | _,_,.nil=>rfl
 | _,_,.cons _ k=>by simp[kB.length k]
theorem nW.length:∀{as_ bs:List (List AV)},nW as_ bs→as_.length=bs.length
 | _,_,.nil=>rfl
 | _,_,.cons _ k=>by simp[nW.length k]
theorem kB.refl:∀as_:List AV,kB as_ as_
 | []=>.nil
 | a:: as_=>.cons (.refl a) (kB.refl as_)
variable {ι:List Ix} {S:aZ} {w:World}
mutual
theorem ar.qz:∀{a b:AV},zK a b→∀v,ar ι S w a v→ar ι S w b v
 | _,_,.refl _,v,h=>h
 | _,_,.nil s,v,h=>by
   rw[cD]at h;subst h;rw[ar];exact⟨none,0,rfl,by simp,by simp,.inl rfl⟩
 | _,_,.sl k,v,h=>by
   rw[ar]at h ⊢;obtain⟨a,cap,rfl,h1,h2,h3⟩:=h;refine⟨a,cap,by rw[k.length],by rw[←k.length];exact h1,h2, ?_⟩;rcases h3 with rfl|⟨b,off,e,h3⟩
   ·left;cases k;rfl
   ·exact .inr ⟨b,off,e,cr.qz k _ _ h3⟩
 | _,_,.aA k,v,h=>by
   rw[ar]at h ⊢;obtain⟨vs,e,h1⟩:=h;exact⟨vs,e,aE.qz k _ h1⟩
theorem aE.qz:∀{as_ bs:List AV},kB as_ bs→∀vs,aE ι S w as_ vs→aE ι S w bs vs
 | _,_,.nil,vs,h=>h
 | _,_,.cons k ks,vs,h=>by
   rw[aE]at h ⊢;obtain⟨u,us,e,h1,h2⟩:=h;exact⟨u,us,e,ar.qz k _ h1,aE.qz ks _ h2⟩
theorem bD.qz:∀{as_ bs:List AV},kB as_ bs→∀b off,bD ι S w as_ b off→bD ι S w bs b off
 | _,_,.nil,b,off,h=>h
 | _,_,.cons k ks,b,off,h=>by
   rw[bD]at h ⊢;obtain⟨⟨u,h1,h2,h3⟩,h4⟩:=h;exact⟨⟨u,h1,h2,ar.qz k _ h3⟩,bD.qz ks _ _ h4⟩
theorem cr.qz:∀{sz:Nat} {as_ bs:List (List AV)},nW as_ bs→∀b off,cr ι S w sz as_ b off→cr ι S w sz bs b off
 | _,_,_,.nil,b,off,h=>h
 | sz,_,_,.cons k ks,b,off,h=>by
   rw[cr]at h ⊢;obtain⟨h1,h2,h3⟩:=h;exact⟨by rw[←k.length];exact h1,bD.qz k _ _ h2,cr.qz ks _ _ h3⟩
end
variable [Laid]
def bn.qz{args:List AV}(c:bn P f args r)(d:zK r r')(p:Pure r'):bn P f args r':=by
 obtain⟨pa,pr,c⟩:=c;refine⟨pa,p, ?_⟩;intro base ι S w vs h1 h2;refine (c base ι S w vs h1 h2).mono ?_;rintro e w' ⟨v,ι',S',r2,h',e1,e2,e3,e4,e5,rfl⟩;exact⟨v,ι',S',r',h',e1,e2,ar.qz d v e3,e4,e5,rfl⟩
end
section
open Go
section
variable {h:aa} {K:AV→aa→Prop}
theorem vZ:∀(b p a:List AV),a.length=b.length→cf (p++a) p.length b=p++b
 | [],p,a,h=>by simp at h;subst h;rfl
 | c:: b,p,x:: a,h=>by
   rw[cf];have e:(p++x:: a).set p.length c=(p++[c])++a:=by simp
   have:=vZ b (p++[c]) a (by simpa using h);rw[e,show p.length+1=(p++[c]).length by simp,this];simp
def kY(h:a.length=b.length):cf a 0 b=b:=by simpa using vZ b [] a h
def TT{e sz bytes:Nat}{rows:List (List AV)}(ex:x=.emp)(hs:jG h sz y=some rows)(hr:rows.all (dx sz)=true)(hm:jK bytes rows.length)(q:K (.sb h.length sz rows) (h++[.tok e sz rows.length])):bR false e sz bytes x y h K:=by
 subst ex;unfold bR eM;rw[hs];exact⟨hr,hm,q⟩
def Et{own:Bool}{e sz bytes id k:Nat}{base rows:List (List AV)}(ex:x=.sb id sz base)(ht:h[id]?=some (.tok e sz k))(hk:k=base.length)(hs:jG h sz y=some rows)(hr:rows.all (dx sz)=true)(hm:jK bytes (k+rows.length))(q:K (.sb id sz (base++rows)) (h.set id (.tok e sz (k+rows.length)))):bR own e sz bytes x y h K:=by
 subst ex;unfold bR eM;rw[hs];refine⟨hr, ?_⟩;simp only[xq];rw[ht];exact⟨by simp[hk],hm,q⟩
def TU{own:Bool}{e sz bytes id len:Nat}{cells:List AV}{rows:List (List AV)}(ex:x=.own id 0 len sz)(hb:h[id]?=some (.ah ⟨e,cells,true⟩))(hl:len*sz≤cells.length)(hp:0<len)(hs:jG h sz y=some rows)(hr:rows.all (dx sz)=true)(hm:jK bytes (len+rows.length))
 (q:K (.own h.length 0 (len+rows.length) sz) (h.set id .dead++[.ah ⟨e,cells.take (len*sz)++rows.flatten,true⟩])):bR own e sz bytes x y h K:=by
 subst ex;unfold bR eM;rw[hs];refine⟨hr, ?_⟩;simp only[xq];rw[hb];exact⟨by simp[hl],by omega,hm,q⟩
def jv{m id off len:Nat}{K:AV→Prop}{n:Nat}(ex:x=.own id off len m)(ei:i=i_ n)(hn:n<len)(q:K (.op id (off+n*m))):aO m x i K:=by
 subst ex;subst ei;exact⟨rfl,⟨by omega,by omega⟩,by simpa using q⟩
section
variable {h':aa} {n:Nat}
def U7{e sz bytes k:Nat}{rows:List (List AV)}(ex:x=.emp)(hs:jG h sz y=some rows)(hr:rows.all (dx sz)=true)(hk:rows.length=k)(hm:jK bytes k)(hn:h.length=n)(hh:h++[.tok e sz k]=h')(q:K (.sb n sz rows) h'):bR false e sz bytes x y h K:=by
 subst hn;subst hh;subst hk;exact TT ex hs hr hm q
def A9{own:Bool}{e sz bytes id k:Nat}{base rows:List (List AV)}(ex:x=.sb id sz base)(ht:h[id]?=some (.tok e sz k))(hk:k=base.length)(hs:jG h sz y=some rows)(hr:rows.all (dx sz)=true)(hm:jK bytes (k+rows.length))(hh:h.set id (.tok e sz (k+rows.length))=h')(q:K (.sb id sz (base++rows)) h'):bR own e sz bytes x y h K:=by
 subst hh;exact Et ex ht hk hs hr hm q
def LN{own:Bool}{e sz bytes id len:Nat}{cells:List AV}{rows:List (List AV)}(ex:x=.own id 0 len sz)(hb:h[id]?=some (.ah ⟨e,cells,true⟩))(hl:len*sz≤cells.length)(hp:0<len)(hs:jG h sz y=some rows)(hr:rows.all (dx sz)=true)(hm:jK bytes (len+rows.length))(hn:h.length=n)
 (hh:h.set id .dead++[.ah ⟨e,cells.take (len*sz)++rows.flatten,true⟩]=h') (q:K (.own n 0 (len+rows.length) sz) h'):bR own e sz bytes x y h K:=by
 subst hn;subst hh;exact TU ex hb hl hp hs hr hm q
def ca{cs:List AV}(hv:bh v=cs)(e:cs.all bT=true)(hn:h.length=n)(hh:h++[.ah ⟨t,cs,true⟩]=h')(q:K (.op n 0) h'):aV t v h K:=by
 subst hv;subst hn;subst hh;exact fq e q
def aW{sz id o:Nat}{cs:List AV}{KS:aa→Prop}(e:x=.op id o)(hb:h[id]?=some (.ah b))(hw:b.wr=true)(hv:bh v=cs)(hl:o+cs.length≤b.cells.length)(hz:cs.length=sz)(hs:cs.all bT=true)
 (hh:h.set id (.ah ⟨b.ty,cf b.cells o cs,b.wr⟩)=h') (q:KS h'):ao sz x v h KS:=by
 subst hh;exact dR e hb hw hv hl hz hs q
end
def gQ{sz:Nat}{rows:List (List AV)}:jG h sz (.sl sz rows)=some rows:=by simp[jG,nf]
def Gu{sz id off len:Nat}(hb:h[id]?=some (.ah b))(hl:off+len*sz≤b.cells.length):jG h sz (.own id off len sz)=some (chunks sz len (b.cells.drop off)):=by
 rw[Gs,hb];simp[hl]
def WI{rows:List (List AV)}{K:AV→Prop}(ex:x=.sl n rows)(hl:1≤rows.length)(q:K (.sl n (rows.drop 1))):lD n x (some (i_ 1)) none K:=by
 subst ex;rw[PT];simp only[fc];refine⟨by simp,⟨by omega,by omega,by omega⟩, ?_⟩;simpa using q
end
def Nc{cs:List AV}{K:AV→Prop}(e:x=.ip cs)(hn:n≤cs.length)(q:K (.agg (cs.take n))):ak true n x h K:=by
 subst e;rw[HZ];exact⟨hn,q⟩
def R9{d id sz:Nat}{rows:List (List AV)}(p:cJ rows):tl 0 h d (.sb id sz rows)=.sl sz rows:=by
 cases d<;>simp[tl,eT,zG _ _ _ _ p]
def mB(p:Aw.Pure a):tl 0 h d a=a:=by
 cases d<;>exact zF _ _ _ _ p
theorem pF{sz:Nat}:∀rows:List (List AV),rows.all (dx sz)=true→chunks sz rows.length rows.flatten=rows
 | [],_=>rfl
 | r:: rows,h=>by
   simp only[acd,NO,dx,beq_iff_eq]at h;rw[abL,aco,chunks];have hr:=h.1.1;rw[acq (by omega),MK (by omega),List.drop_append_of_le_length (by omega),List.drop_of_length_le (by omega),List.nil_append,pF rows (by simpa[dx]using h.2)]
def GG{d id len sz:Nat}{cells:List AV}(hb:h[id]?=some (.ah b))(hc:b.cells=cells)(hl:len*sz≤cells.length):tl 0 h (d+1) (.own id 0 len sz)=.sl sz ((chunks sz len cells).map (List.map (tl 0 h d))):=by
 subst hc;simp only[tl,eT];rw[if_neg (by omega),hb];simp only[ab0,List.drop_zero];rw[if_pos hl]
def CC{α:Type}{f:α→List AV}{sz:Nat}(hf:∀x,(f x).length=sz∧(f x).all bT=true)(l:List α):(l.map f).all (dx sz)=true:=by
 rw[List.all_map,At];intro x _;simp only[Function.comp,dx,NO,beq_iff_eq];exact hf x
end
end Go.Aw
namespace Go.Proofs.YtpcnidmmkknndaaGreatDoor
section
open Go Go.Aw
abbrev n8(n:Nat):AV:=.v (.int .u8 (Int.ofNat n))
def RC(tb:AV)(ts:Nat)(m:List Nat):List AV:=.str []:: i_ 0:: .str []:: .v (.pointer none):: tb:: i_ ts:: m.map n8
def HR(tb:AV)(ts:Nat)(m:List Nat)(t:aa):aa:=e0:: e1:: .ah (tH 0 1 (.v .nilIface) keys):: .ah ⟨252,RC tb ts m,true⟩:: t
abbrev wL:AV:=.v (.slice none 0 0)
abbrev mn:AV:=.v (.pointer none)
def UU:List (List UInt8):=[[13,10],[13],[12],[0]]
def Zy:List (List UInt8):=[[10],[10],[10],[239,191,189]]
def fl(m:List Nat)(s:List UInt8):List Nat:=s.foldl (fun m b=>m.set b.toNat 1) m
def mK(k:Nat):List Nat:=(UU.take k).foldl fl (List.replicate 256 0)
theorem E6:∀(s:List UInt8) (m:List Nat),(fl m s).length=m.length
 | [],_=>rfl
 | b:: s,m=>by
   have:=E6 s (m.set b.toNat 1);rw[abX]at this;exact this
def FG:∀k,(mK k).length=256:=by
 have:∀(l:List (List UInt8)) (m:List Nat),(l.foldl fl m).length=m.length:=by
  intro l;induction l with
  | nil=>intro _;rfl
  | cons s l ih=>intro m;exact (ih _).trans (E6 s m)
 intro k;exact (this _ _).trans (by simp)
def VU{tb:AV}{ts n v:Nat}:cf (RC tb ts m) (6+n) [n8 v]=RC tb ts (m.set n v):=by
 show (RC tb ts m).set (6+n) (n8 v)=_;unfold RC;rw[Nat.add_comm,List.map_set];rfl
def zN{tb:AV}{ts:Nat}:(RC tb ts m).length=m.length+6:=by unfold RC;simp
def JT{K:AV→Prop}{i:Nat}(h:[[AV.str [13,10]],[.str [10]],[.str [13]],[.str [10]],[.str [12]],[.str [10]],[.str [0]],[.str [239,191,189]]][i]?=some [.str s])(k:K (.ip [.str s])):aO 1 keys (i_ i) K:=by
 have hi:=(eQ.1 h).1;refine⟨rfl,⟨by omega, ?_⟩, ?_⟩
 ·show (i:Int)<8;simp at hi;omega
 ·show K (.ip (([[AV.str [13,10]],[.str [10]],[.str [13]],[.str [10]],[.str [12]],[.str [10]],[.str [0]],[.str [239,191,189]]]:List (List AV)).getD (i:Int).toNat []));rw[Mk,nE,h];exact k
def PY(k:Nat)(h:k<4):∃y v,UU[k]?=some y∧Zy[k]?=some v∧[[AV.str [13,10]],[.str [10]],[.str [13]],[.str [10]],[.str [12]],[.str [10]],[.str [0]],[.str [239,191,189]]][2*k]?=some [.str y]∧[[AV.str [13,10]],[.str [10]],[.str [13]],[.str [10]],[.str [12]],[.str [10]],[.str [0]],[.str [239,191,189]]][2*k+1]?=some [.str v]∧y.length≤2:=by
 match k,h with
 | 0,_|1,_|2,_|3,_=>exact⟨_,_,rfl,rfl,rfl,rfl,by decide⟩
def Lv{K:AV→Prop}{j:Nat}(h:s[j]?=some b)(k:K (n8 b.toNat)):eJ (.str s) (i_ j) K:=by
 have hj:=(eQ.1 h).1;refine⟨⟨by omega,by omega⟩, ?_⟩;rw[Mk,nE,h];exact k
def D0{K:AV→Prop}(k:K (i_ 8)):br keys K:=fun _=>k
def Zu{K:AV→Prop}{id o:Nat}(h:n<256)(k:K (.op id (o+n))):eV 256 1 (.op id o) (n8 n) K:=⟨⟨Int.natCast_nonneg n,by show (n:Int)<256;omega⟩,by show K (.op id (o+(n:Int).toNat*1));rw[Mk,Nat.mul_one];exact k⟩
def UL{K:AV→Prop}{id o:Nat}(h:n<256)(k:K (.op id (o+n))):eV 256 1 (.op id o) (i_ n) K:=⟨⟨Int.natCast_nonneg n,by show (n:Int)<256;omega⟩,by show K (.op id (o+(n:Int).toNat*1));rw[Mk,Nat.mul_one];exact k⟩
def Ke{tb:AV}{ts n v:Nat}{KS:aa→Prop}(hm:m.length=256)(hn:n<256)(k:KS (HR tb ts (m.set n v) t)):ao 1 (.op 3 (6+n)) (n8 v) (HR tb ts m t) KS:=
 aW (cs:=[n8 v]) (h':=HR tb ts (m.set n v) t) rfl (by rfl) rfl rfl (by show 6+n+1≤(RC tb ts m).length;rw[zN];omega) rfl rfl (by show e0:: e1:: _:: .ah ⟨_,cf (RC tb ts m) (6+n) [n8 v],true⟩:: t=_;rw[VU];rfl) k
abbrev nq(v:List UInt8)(p:Int)(pre:List UInt8)(nx:AV):aL:=.ah ⟨250,[.str v,i_ p,.str pre,nx,wL],true⟩
def HT(tbl:List AV)(t:aa):aa:=HR (.own 4 0 4 1) 4 fu (.ah ⟨247,tbl,true⟩:: t)
def kx{id o off:Nat}{K:AV→Prop}(k:K (.op id (o+off))):cg P (.op id o) fun a=>bo off a K:=k
def U3(b:UInt8):fu[b.toNat]?=some (fu.getD b.toNat 0):=by
 have:fu.length=256:=by kernel_rfl
 rw[dO (by have:=b.toNat_lt;omega),nE,dO (by have:=b.toNat_lt;omega)];rfl
section
variable [Laid]
def q9{args:List AV}{K0 K:AV→aa→Prop}(hb:dv P f=true)(c:bX P f args h K0)(k:∀r h',K0 r h'→K r h'):bx P (.fn (.func f) [] []) args h K:=⟨hb,by simpa using c.mono k⟩
abbrev zJ(n:Nat)(k v:List UInt8)(p:Int)(h h':aa):Prop:=bX p_ 194 [.op n 0,.str k,.str v,i_ p,.op 3 0] h fun r H=>r=.aA []∧H=h'
def u6{v v0 pre:List UInt8}{nx:AV}(hn:h[n]?=some (nq v0 0 pre nx))(hh:h.set n (nq v p pre nx)=h'):zJ n [] v p h h':=by
 subst hh;have hlt:=(eQ.1 hn).1;refine (M7 _ _ _ _ _).bG ?_;unfold Ji;refine zzI (zzL rfl (kx (zzU hn rfl (zzG (zzL rfl (kx (aW (cs:=[.str v]) (h':=h.set n (nq v 0 pre nx)) rfl hn rfl rfl (lT rfl) rfl rfl rfl (kx ?_))))))));refine aW (cs:=[i_ p]) (h':=h.set n (nq v p pre nx)) rfl (iD hlt) rfl rfl (lT rfl) rfl rfl (by rw[abW];rfl) ?_;exact⟨_,_,Wk.refl _ _ _ (by simp),rfl,rfl⟩
def KP(hn:h[n]?=some (nq v0 p0 [] mn))(hl:h.length=m)(hh:h.set n (nq v0 p0 [c] (.op m 0))++[nq v p [] mn]=h'):zJ n [c] v p h h':=by
 subst hh;subst hl;have hlt:=(eQ.1 hn).1;refine (M7 _ _ _ _ _).bG ?_;unfold Ji;refine zzI (zzK (by simp) (kx (zzU hn rfl (zzJ (zzK rfl (kx (zzU hn rfl (zzK rfl (kx (aW (cs:=[.str [c]]) (h':=h.set n (nq v0 p0 [c] mn)) rfl hn rfl rfl (lT rfl) rfl rfl rfl (ca (cs:=[.str [],i_ 0,.str [],mn,wL]) (n:=h.length) (h':=h.set n (nq v0 p0 [c] mn)++[nq [] 0 [] mn]) rfl rfl (by simp) rfl (kx ?_))))))))))));refine aW (cs:=[.op h.length 0]) (h':=h.set n (nq v0 p0 [c] (.op h.length 0))++[nq [] 0 [] mn]) rfl (by rw[gO (by simpa using hlt),iD hlt]) rfl rfl (lT rfl) rfl rfl (by rw[IN _ _ (by simpa using hlt),abW];rfl) ?_;refine kx ?_;refine zzU (by rw[gO (by simpa using hlt),iD hlt]) rfl ?_;refine q9 (by kernel_rfl) (u6 (v:=v) (p:=p) (pre:=[]) (nx:=mn) (v0:=[]) (h':=h.set n (nq v0 p0 [c] (.op h.length 0))++[nq v p [] mn]) (by rw[gT (by simp)];simp) (by rw[IF _ _ (by simp)];simp)) ?_;rintro _ _ ⟨rfl,rfl⟩;exact⟨_,_,Wk.refl _ _ _ (by simp),rfl,rfl⟩
omit [Laid] in
def UW{tbl:List AV}{t:aa}{b:UInt8}{K:AV→Prop}(k:K (n8 (fu.getD b.toNat 0))):ak false 1 (.op 3 (6+b.toNat)) (HT tbl t) K:=by
 refine zzU (b:=⟨252,RC (.own 4 0 4 1) 4 fu,true⟩) rfl ?_ k;show (RC (.own 4 0 4 1) 4 fu)[6+b.toNat]?=_;unfold RC;rw[Nat.add_comm,show b.toNat+6=b.toNat+1+1+1+1+1+1 from rfl];simp only[List.getElem?_cons_succ];rw[iN,U3];rfl
def u7{b:UInt8}{r v:List UInt8}{p:Int}{m:Nat}{tbl tbl':List AV}{t t':aa}{h':aa}{n:Nat}(hm:fu.getD b.toNat 0=m)(h4:m<4)(hl:tbl.length=4)(hc:(tbl[m]?=some mn∧n=5+t.length∧tbl'=tbl.set m (.op n 0)∧t'=t++[nq [] 0 [] mn])∨(tbl[m]?=some (.op n 0)∧tbl'=tbl∧t'=t))
 (ha:zJ n r v p (HT tbl' t') h') (hh:5+t.length≤h'.length):zJ 3 (b:: r) v p (HT tbl t) h':=by
 have hlen:(HT tbl t).length=5+t.length:=by unfold HT HR;simp only[abL];omega
 refine (M7 _ _ _ _ _).bG ?_;unfold Ji;have e3:∀(tbl:List AV) (t:aa),(HT tbl t)[3]?=some (.ah ⟨252,RC (.own 4 0 4 1) 4 fu,true⟩):=fun _ _=>rfl;have e4:∀(tbl:List AV) (t:aa),(HT tbl t)[4]?=some (.ah ⟨247,tbl,true⟩):=fun _ _=>rfl;refine zzI (zzK (by simp) (kx (zzU (e3 _ _) rfl (zzJ (zzK rfl (kx (zzU (e3 _ _) rfl (zzL rfl (Lv (j:=0) rfl (kx (Zu b.toNat_lt (UW ?_))))))))))));rw[hm];have ix:∀{K:AV→Prop},K (.op 4 m)→aO 1 (.own 4 0 4 1) (n8 m) K:=fun {K} k=>⟨rfl,⟨Int.natCast_nonneg m,by show (m:Int)<4;omega⟩,by show K (.op 4 (0+(m:Int).toNat*1));rw[Mk,ab0,Nat.mul_one];exact k⟩;have fin:(tbl'[m]?=some (.op n 0))→cg p_ (.op 3 0) fun v163=>bo 4 v163 fun v164=>ak false 1 v164 (HT tbl' t') fun v165=>aO 1 v165 (n8 m) fun v166=>ak false 1 v166 (HT tbl' t') fun v167=>eW (.str (b:: r)) (some (i_ 1)) none fun v168=>bx p_ (.fn (.func 194) [] []) [v167,v168,.str v,i_ p,.op 3 0] (HT tbl' t') fun _ g170=>∃r' h'',Wk (HT tbl t).length [.aA []] g170 [r'] h''∧r'=.aA []∧h''=h':=by
  intro hx;refine kx (zzU (e3 _ _) rfl (ix (zzU (e4 _ _) hx ?_)));have sl:∀{K:AV→Prop},K (.str r)→eW (.str (b:: r)) (some (i_ 1)) none K:=fun {K} k=>by
   unfold eW;refine⟨⟨by decide,by simp only[abL];omega,by simp⟩, ?_⟩;have e:(((b:: r).take ((b:: r).length:Int).toNat).drop (1:Int).toNat)=r:=by rw[Mk,BY];rfl
   exact (congrArg K (congrArg AV.str e)).mpr k
  refine sl (q9 (by kernel_rfl) ha ?_);rintro _ _ ⟨rfl,rfl⟩;exact⟨_,_,Wk.refl _ _ _ (by rw[hlen];exact hh),rfl,rfl⟩
 refine aD (kx (zzU (e3 _ _) rfl (ix ?_)));rcases hc with⟨hx,rfl,rfl,rfl⟩|⟨hx,rfl,rfl⟩
 ·refine zzU (e4 _ _) hx (zzL rfl (kx (zzU (e3 _ _) rfl (ca (cs:=[.str [],i_ 0,.str [],mn,wL]) (n:=5+t.length) (h':=HT tbl (t++[nq [] 0 [] mn])) rfl rfl hlen rfl (ix (aW (cs:=[.op (5+t.length) 0]) (h':=HT (tbl.set m (.op (5+t.length) 0)) (t++[nq [] 0 [] mn])) rfl (e4 _ _) rfl rfl (by show m+1≤tbl.length;omega) rfl rfl rfl (aq ?_)))))));exact fin (iD (by omega))
 ·refine zzU (e4 _ _) hx (zzK rfl (aq ?_));exact fin hx
end
def uU(k:Nat):List AV:=[if k=4 then .op 8 0 else mn,mn,if 3≤k then .op 7 0 else mn,if 1≤k then .op 5 0 else mn]
def wO(k:Nat):aa:=(if 1≤k then [nq (if 2≤k then [10] else []) (if 2≤k then 6 else 0) [10] (.op 6 0),nq [10] 8 [] mn] else [])++(if 3≤k then [nq [10] 4 [] mn] else [])++(if k=4 then [nq [239,191,189] 2 [] mn] else [])
def w7(i:Nat):List Nat:=fu.take i++(mK 4).drop i
def HM(hi:i<256)(hv:fu.getD i 0=v):(w7 i).set i v=w7 (i+1):=by
 have h1:fu.length=256:=by kernel_rfl
 have h2:=FG 4;have e:fu[i]?=some v:=by rw[dO (by omega)];rw[nE,dO (by omega)]at hv;exact congrArg some hv
 have hl:(fu.take i).length=i:=by rw[abS];omega
 unfold w7;rw[IF _ _ (by omega),hl,Nat.sub_self,acm (by omega),List.set_cons_zero,By,e];simp
def Uu:∀i,i<256→fu.getD i 0=if (mK 4).getD i 0=0 then 4 else ((mK 4).take i).sum:=fun i hi=>by
 have:=At.1 (show ((List.range 256).all fun i=>fu.getD i 0 == if (mK 4).getD i 0=0 then 4 else ((mK 4).take i).sum)=true by kernel_rfl) i (by simpa using hi);simpa using this
def MF:∀i,i≤256→((mK 4).take i).sum≤4∧(mK 4).getD i 0≤1:=fun i hi=>by
 have:=At.1 (show ((List.range 257).all fun i=>decide (((mK 4).take i).sum≤4∧(mK 4).getD i 0≤1))=true by kernel_rfl) i (by simp;omega);simpa using this
def GB{m:List Nat}{i:Nat}(h:i<m.length):(m.take (i+1)).sum=(m.take i).sum+m.getD i 0:=by
 rw[By,dO h,Option.toList_some,List.sum_append,List.sum_cons,List.sum_nil,nE,dO h];rfl
def PU{m:List Nat}{i:Nat}{K:AV→Prop}(hm:m.length=256)(hi:i<256)(k:K (n8 (m.getD i 0))):mN false 1 256 (.agg (m.map n8)) (i_ i) K:=by
 refine⟨⟨by omega,by show (i:Int)<256;omega⟩, ?_⟩;rw[Mk,Nat.mul_one,acm (by rw[abM];omega),List.getElem_map];have e:m.getD i 0=m[i]:=by rw[nE,dO (by omega)];rfl
 rw[←e];exact k
def KQ{K:AV→Prop}(hm:k.wrap n=m)(q:K (.v (.int k m))):cy k (.v (.int k' n)) K:=by subst hm;exact⟨k',n,rfl,q⟩
def Ud{K:AV→Prop}(h:n<255)(q:K (n8 (n+1))):ag .add (n8 n) (u8 1) K:=by
 refine⟨rfl, ?_⟩;show K (.v (.int .u8 (IntKind.wrap .u8 ((n:Int)+1))));rw[IntKind.wrap_u8,show ((n:Int)+1)%256=((n+1:Nat):Int) by omega];exact q
section
variable [Laid]
omit [Laid] in
def LD{tb:AV}{ts:Nat}{K:AV→Prop}(hm:m.length=256)(k:K (.agg (m.map n8))):ak true 256 (.op 3 6) (HR tb ts m t) K:=by
 refine zzV (b:=⟨252,RC tb ts m,true⟩) rfl (by show 256≤((RC tb ts m).drop 6).length;rw[List.length_drop,zN];omega) ?_;show K (.agg ((m.map n8).take 256));rw[MK (by rw[abM];omega)];exact k
omit [Laid] in
def XH{tb:AV}{ts v:Nat}{KS:aa→Prop}(k:KS (HR tb v m t)):ao 1 (.op 3 5) (i_ v) (HR tb ts m t) KS:=
 aW (cs:=[i_ v]) (h':=HR tb v m t) rfl rfl rfl rfl (by show 6≤(RC tb ts m).length;rw[zN];omega) rfl rfl rfl k
omit [Laid] in
def lz{tb:AV}{ts:Nat}:(HR tb ts m t).length=4+t.length:=by unfold HR;simp only[abL];omega
omit [Laid] in
def UK{K:AV→Prop}(k:K (i_ 8)):jj keys K:=k
omit [Laid] in
def UC(k:Nat):(HT (uU 0) (wO 0)).length≤(HT (uU k) (wO k)).length:=by
 unfold HT;rw[lz,lz,abL,abL];exact Nat.add_le_add_left (Nat.succ_le_succ (abY _)) 4
def WJ:∀k:Nat,k<4→∀{y v:List UInt8},UU[k]?=some y→Zy[k]?=some v→zJ 3 y v (8-2*(k:Int)) (HT (uU k) (wO k)) (HT (uU (k+1)) (wO (k+1))):=fun k h y v hy hv=>by
 match k,h with
 | 0,_ =>
   cases hy;cases hv;exact u7 (m:=3) (n:=5) (tbl:=uU 0) (t:=[]) rfl (by decide) rfl (.inl ⟨rfl,rfl,rfl,rfl⟩) (KP (n:=5) (m:=6) (v0:=[]) (p0:=0) rfl rfl rfl) (by decide)
 | 1,_ =>
   cases hy;cases hv;exact u7 (m:=3) (n:=5) (tbl:=uU 1) (t:=wO 1) rfl (by decide) rfl (.inr ⟨rfl,rfl,rfl⟩) (u6 (v0:=[]) (pre:=[10]) (nx:=.op 6 0) rfl rfl) (by decide)
 | 2,_ =>
   cases hy;cases hv;exact u7 (m:=2) (n:=7) (tbl:=uU 2) (t:=wO 2) rfl (by decide) rfl (.inl ⟨rfl,rfl,rfl,rfl⟩) (u6 (v0:=[]) (pre:=[]) (nx:=mn) rfl rfl) (by decide)
 | 3,_ =>
   cases hy;cases hv;exact u7 (m:=0) (n:=8) (tbl:=uU 3) (t:=wO 3) rfl (by decide) rfl (.inl ⟨rfl,rfl,rfl,rfl⟩) (u6 (v0:=[]) (pre:=[]) (nx:=mn) rfl rfl) (by decide)
def Np:bX p_ 163 [keys] (Hb 1) fun r H=>r=.op 3 0∧H=HT (uU 4) (wO 4):=by
 refine (Z9 _).bG ?_;unfold Tt;refine ca (cs:=RC wL 0 (mK 0)) (n:=3) (h':=HR wL 0 (mK 0) []) (by rfl) (by rfl) rfl rfl (ba (α:=Nat) (fun k=>k≤4) (fun k=>[i_ ((2*k:Nat):Int)]) (fun k=>HR wL 0 (mK k) []) (fun k=>4-k) 0 (abY _) (Wk.refl _ _ _ (bY _)) ?_);intro k hk;refine D0 (zzC ?_);rcases uP k 4 with q|q
 ·obtain⟨y,v,hy,hv,h1,_,hl⟩:=PY k q;refine zzL (oF (by omega)) (JT h1 (zzW ?_));have hm:=FG k;have hlen:∀j,(fl (mK k) (y.take j)).length=256:=fun j=>by rw[E6];exact hm
  refine ba (α:=Nat) (fun j=>j≤y.length) (fun j=>[i_ j]) (fun j=>HR wL 0 (fl (mK k) (y.take j)) []) (fun j=>y.length-j) 0 (abY _) (Wk.refl _ _ _ (bY _)) ?_;intro j hj;refine zzZ fun _=>?_;refine zzC ?_;rcases uP j y.length with z|z
  ·obtain⟨b,hb⟩:∃b,y[j]?=some b:=⟨_,dO z⟩;refine zzL (oF (by omega)) (Lv hb (kx (Zu b.toNat_lt (Ke (v:=1) (hlen j) b.toNat_lt (zzP (by unfold aK;omega) (aq ?_))))));refine⟨j+1,z, ?_,by omega⟩;have e:fl (mK k) (y.take (j+1))=(fl (mK k) (y.take j)).set b.toNat 1:=by
    rw[By,hb];unfold fl;rw[ab2];rfl
   rw[e];exact Wk.refl _ _ _ (by rw[lz,lz];exact bY _)
  ·obtain rfl:j=y.length:=by omega
   refine zzK (by simp) (zzP (by unfold aK;omega) (aq ?_));refine⟨k+1,q, ?_,by omega⟩;have e:mK (k+1)=fl (mK k) (y.take y.length):=by
    unfold mK;rw[By,hy,ab2,BY];rfl
   rw[e,show (2*(k+1):Nat)=2*k+2 from rfl];exact Wk.refl _ _ _ (by rw[lz,lz];exact bY _)
 obtain rfl:k=4:=by omega
 refine zzK rfl ?_;have hm:=FG 4;refine kx (LD hm (ba (α:=Nat) (fun i=>i≤256) (fun i=>[i_ i]) (fun i=>HR wL ((mK 4).take i).sum (mK 4) []) (fun i=>256-i) 0 (abY _) (Wk.refl _ _ _ (bY _)) ?_));intro i hi;refine zzC ?_;rcases uP i 256 with q|q
 ·have s1:=MF i hi;refine zzL (oF (by show (i:Int)<256;omega)) (PU hm q (kx (zzU rfl rfl (KQ (m:=(((mK 4).getD i 0:Nat):Int)) (by rw[IntKind.wrap_i64];show ((((mK 4).getD i 0:Nat):Int)+9223372036854775808)%18446744073709551616-9223372036854775808=_;omega) (zzP (by unfold aK;omega) (kx ?_))))));have e:=GB (m:=mK 4) (i:=i) (by omega);rw[show (((mK 4).take i).sum:Int)+(((mK 4).getD i 0:Nat):Int)=(((mK 4).take (i+1)).sum:Int) by rw[e];omega];refine XH (zzP (by unfold aK;omega) (aq ?_));exact⟨i+1,q,Wk.refl _ _ _ (by rw[lz,lz];exact bY _),by omega⟩
 obtain rfl:i=256:=by omega
 refine zzK rfl ?_;rw[show ((mK 4).take 256).sum=4 by kernel_rfl];refine kx (LD hm ?_);have f0:w7 0=mK 4:=rfl;have fl8:∀i,i≤256→(w7 i).length=256:=fun i hi=>by
  have h1:fu.length=256:=by kernel_rfl
  unfold w7;rw[AT,abS,List.length_drop];omega
 refine ba (α:=Nat) (fun i=>i≤256) (fun i=>[n8 ((mK 4).take i).sum,i_ i]) (fun i=>HR wL 4 (w7 i) []) (fun i=>256-i) 0 (abY _) (by rw[f0];exact Wk.refl _ _ _ (bY _)) ?_;intro i hi;refine zzC ?_;rcases uP i 256 with q|q
 ·have s1:=MF i hi;have s2:=Uu i q;have e:=GB (m:=mK 4) (i:=i) (by omega);refine zzL (oF (by show (i:Int)<256;omega)) (aD (PU hm q (zzG ?_)))
  by_cases z:(mK 4).getD i 0=0
  ·rw[if_pos z]at s2;refine zzL (by rw[z];rfl) (kx (zzU rfl rfl (KQ (m:=4) rfl (kx (UL q (Ke (v:=4) (fl8 i hi) q (aq (zzP (by unfold aK;omega) (aq ?_)))))))));refine⟨i+1,q, ?_,by omega⟩;rw[HM q s2,e,z];exact Wk.refl _ _ _ (by rw[lz,lz];exact bY _)
  ·rw[if_neg z]at s2;refine zzK (nO (by show ¬(((mK 4).getD i 0:Nat):Int)=0;omega)) (kx (UL q (Ke (fl8 i hi) q (Ud (by omega) (aq (zzP (by unfold aK;omega) (aq ?_)))))));refine⟨i+1,q, ?_,by omega⟩;rw[HM q s2,e,show (mK 4).getD i 0=1 by omega];exact Wk.refl _ _ _ (by rw[lz,lz];exact bY _)
 obtain rfl:i=256:=by omega
 have f1:w7 256=fu:=by kernel_rfl
 rw[f1];refine zzK rfl (kx (zzU rfl rfl ?_));refine⟨⟨by decide,by decide,by decide,by decide⟩, ?_⟩;refine kx (zzA (aW (cs:=[.own 4 0 4 1]) (h':=HT (uU 0) (wO 0)) rfl rfl rfl rfl (by show 5≤(RC wL 4 fu).length;rw[zN];omega) rfl rfl rfl (ba (α:=Nat) (fun k=>k≤4) (fun k=>[i_ ((2*k:Nat):Int)]) (fun k=>HT (uU k) (wO k)) (fun k=>4-k) 0 (abY _) (Wk.refl _ _ _ (by decide)) ?_)));intro k hk;refine D0 (zzC ?_);rcases uP k 4 with q|q
 ·obtain⟨y,v,hy,hv,h1,h2,_⟩:=PY k q;refine zzL (oF (by omega)) (kx (JT h1 (zzW (zzP (by unfold aK;omega) (JT h2 (zzW (UK (zze (by unfold aK;omega) (q9 (by kernel_rfl) (WJ k q hy hv) ?_)))))))));rintro _ _ ⟨rfl,rfl⟩;refine zzP (by unfold aK;omega) (aq ?_);refine⟨k+1,q, ?_,by omega⟩;rw[show (2*(k+1):Nat)=2*k+2 from rfl];exact Wk.refl _ _ _ (UC _)
 ·obtain rfl:k=4:=by omega
  refine zzK rfl ?_;exact⟨_,_,Wk.refl _ _ _ (by decide),rfl,rfl⟩
def Ng:bX p_ 93 [.op 2 0] (Hb 1) fun r hh=>r=.aA []∧hh=Ha 0 1:=by
 refine (V93 _).bG ?_;unfold Zm;have hb:bX p_ 131 [.op 2 0] (Hb 1) fun r hh=>r=.il 212 (.op 3 0)∧hh=HT (uU 4) (wO 4):=by
  refine (ZW _).bG ?_;unfold Td;refine kx (zzU rfl rfl (D0 (zzG (aD (zzM rfl (aq (zzQ (zzK rfl (ba (α:=Unit) (fun _=>True) (fun _=>[tt,i_ 0]) (fun _=>Hb 1) (fun _=>0) () trivial (Wk.refl _ _ _ (by decide)) ?_)))))))));intro _ _;refine D0 (zzC (zzL rfl (aD (JT (i:=0) (s:=[13,10]) rfl (zzW ?_)))));refine zzZ fun _=>?_;refine zzH (zzL rfl (q9 (by kernel_rfl) Np ?_));rintro _ _ ⟨rfl,rfl⟩;exact⟨_,_,Wk.refl _ _ _ (by decide),rfl,rfl⟩
 refine q9 (by kernel_rfl) hb ?_;rintro _ _ ⟨rfl,rfl⟩;refine kx (aW (cs:=[.il 212 (.op 3 0)]) (h':=(HT (uU 4) (wO 4)).set 2 (.ah ⟨162,[.v (.int .u32 0),.v (.int .i32 1),.v (.int .u32 0),.il 212 (.op 3 0),keys],true⟩)) rfl rfl rfl rfl (by decide) rfl rfl rfl (kx (aW (cs:=[wL]) (h':=Ha 0 1) rfl rfl rfl rfl (by decide) rfl rfl (by kernel_rfl) ?_)));exact⟨_,_,Wk.refl _ _ _ (by decide),rfl,rfl⟩
def Qs:bX p_ 57 [] [] fun r hh=>r=.op 2 0∧hh=Hb 0:=by
 refine (V57).bG ?_;unfold YR;have mk:∀{K:AV→aa→Prop},K (.own 0 0 8 1) [e0]→qP 9 8 1 (.str []) [(0,1,(.str [13,10])),(1,1,(.str [10])),(2,1,(.str [13])),(3,1,(.str [10])),(4,1,(.str [12])),(5,1,(.str [10])),(6,1,(.str [0])),(7,1,(.str [239,191,189]))] [] K:=fun k=>k;refine mk ?_;have hn:bX p_ 91 [.own 0 0 8 1] [e0] fun r hh=>r=.op 2 0∧hh=Hb 0:=by
  refine (V91 _).bG ?_;unfold Zk;refine aD ?_;refine fun _=>?_;refine⟨rfl,by decide, ?_⟩;refine zzG (zzK rfl (aq ?_));have ap:∀{K:AV→aa→Prop},bR false 9 1 16 .emp (.own 0 0 8 1) [e0] K→bR false 9 1 16 wL (.own 0 0 8 1) [e0] K:=fun k=>k;refine ap (U7 (n:=1) (k:=8) (h':=[e0,e1]) rfl (Gu (b:=⟨9,[.str [13,10],.str [10],.str [13],.str [10],.str [12],.str [10],.str [0],.str [239,191,189]],true⟩) rfl (by decide)) rfl rfl ⟨by decide,by decide⟩ rfl rfl (bc rfl (ca (cs:=[.v (.int .u32 0),.v (.int .i32 0),.v (.int .u32 0),.v .nilIface,keys]) (n:=2) (h':=Hb 0) rfl rfl rfl rfl ?_)));exact⟨_,_,Wk.refl _ _ _ (by decide),rfl,rfl⟩
 refine q9 (by kernel_rfl) hn ?_;rintro _ _ ⟨rfl,rfl⟩;exact⟨_,_,Wk.refl _ _ _ (abY _),rfl,rfl⟩
end
end
section
open Go Go.Aw
variable [Laid]
def cell_of{base:Nat}(hh:cN base ι S w h){i b:Nat}(e:h[i]?=some (.ah x))(hi:ι[i]?=some (.ah b)){o:Nat}(hc:x.cells[o]?=some c):
 ∃v,w.cell? ⟨b,o,none⟩=some v∧ar ι S w c v∧w.frozen? ⟨b,o,none⟩=false:=by
 obtain⟨b',arr,fz,k1,k2,k3,k4,k5,k6,_⟩:=hh.live i x e;rw[hi]at k1;cases k1;obtain⟨v,e1,r⟩:=k6 o c hc;refine⟨v,by rw[fZ k3];exact e1,r, ?_⟩;have hlt:o<arr.size:=(AS.1 e1).1;have:=k4 o hlt;rw[qa k3];simpa using this
def Ni:bX p_ 130 [.op 2 0,.fn (.func 93) [.op 2 0] []] (Hb 0) fun r hh=>r=.aA []∧hh=Ha 1 0:=by
 intro base ι S w vs h1 h2
 match vs,h1 with
 | [],h1=>simp at h1
 | [v],h1=>simp at h1
 | v:: u:: x:: vs,h1=>simp at h1
 | [v,u],h1 =>
   simp only[bN,dq,and_true]at h1;obtain⟨r1,r2⟩:=h1;rw[ar]at r1;rw[ar]at r2;obtain⟨b,hb,rfl⟩:=r1;obtain⟨ps,qs,rfl,r3,r4⟩:=r2
   match ps,r3 with
   | [],r3=>simp at r3
   | p:: q:: ps,r3=>simp at r3
   | [p],r3 =>
     simp only[bN,dq,and_true]at r3;rw[ar]at r3;obtain⟨b',hb',rfl⟩:=r3;rw[hb]at hb';cases hb';simp only[dq]at r4;subst r4;have hx:(Hb 0)[2]?=some (.ah (tH 0 0 (.v .nilIface) keys)):=rfl;obtain⟨v0,g0,q0,z0⟩:=cell_of h2 hx hb (o:=0) (c:=.v (.int .u32 0)) rfl;obtain⟨v1,g1,q1,z1⟩:=cell_of h2 hx hb (o:=1) (c:=.v (.int .i32 0)) rfl;rw[cD]at q0 q1;subst q0;subst q1;obtain⟨hE1,hH1⟩:=h2.set hx rfl hb (o:=1) (by simp[tH]) (c:=.v (.int .i32 1)) (v:=.int .i32 1) (by simp);have hH1':cN base ι S (w.setCell ⟨b,1,none⟩ (.int .i32 1)) (Hb 1):=hH1;have hl:=h2.len;have hf:=Ng base ι S _ [.pointer (some ⟨b,0,none⟩)] (by simp only[bN,dq,and_true];rw[ar];exact⟨b,hb,rfl⟩) hH1';refine (O5 b w (fun w' => ∃ι' S',bU 3 base ι S (w.setCell ⟨b,1,none⟩ (.int .i32 1)) ι' S' w'∧cN base ι' S' w' (Ha 0 1)∧ι'[2]?=some (.ah b)) g0 g1 z0 z1 (hf.mono ?_)).mono ?_
     ·rintro e w' ⟨v,ι',S',r,h',rfl,k1,k2,k3,k4,rfl,rfl⟩;rw[ar]at k2;obtain⟨us,rfl,k2⟩:=k2;simp only[dq]at k2;subst k2;have hx':(Ha 0 1)[2]?=some (.ah (tH 0 1 (.il 212 (.op 3 0)) (.v (.slice none 0 0)))):=rfl;have hb2:ι'[2]?=some (.ah b):=by
       obtain⟨b',arr,fz,m1,_⟩:=k3.live 2 _ hx';have:=k1.pre 2 (by decide);rw[hb,m1]at this;rw[m1];simpa[fW]using this
      obtain⟨v0,g0,q0,z0⟩:=cell_of k3 hx' hb2 (o:=0) (c:=.v (.int .u32 0)) rfl;obtain⟨v1,g1,q1,z1⟩:=cell_of k3 hx' hb2 (o:=1) (c:=.v (.int .i32 1)) rfl;rw[cD]at q1;subst q1;exact⟨rfl,⟨v0,g0⟩,g1,z0,z1,ι',S',k1,k3,hb2⟩
     ·rintro e w'' ⟨rfl,w',⟨ι',S',k1,k3,hb2⟩,rfl⟩;obtain⟨d1,d2⟩:=k3.drew;have hx':(Ha 0 1)[2]?=some (.ah (tH 0 1 (.il 212 (.op 3 0)) (.v (.slice none 0 0)))):=rfl;obtain⟨s1,s2⟩:=d2.set hx' rfl hb2 (o:=0) (by simp[tH]) (c:=.v (.int .u32 1)) (v:=.int .u32 1) (by simp);have s2':cN base ι' S' (w'.drew.setCell ⟨b,0,none⟩ (.int .u32 1)) (Ha 1 1):=s2;have hx2:(Ha 1 1)[2]?=some (.ah (tH 1 1 (.il 212 (.op 3 0)) (.v (.slice none 0 0)))):=rfl;obtain⟨t1,t2⟩:=s2'.set hx2 rfl hb2 (o:=1) (by simp[tH]) (c:=.v (.int .i32 0)) (v:=.int .i32 0) (by simp);have t2':cN base ι' S' ((w'.drew.setCell ⟨b,0,none⟩ (.int .u32 1)).setCell ⟨b,1,none⟩ (.int .i32 0)) (Ha 1 0):=t2;have hl3:ι.length=3:=hl;have hl9:3≤ι'.length:=by rw[k3.len];decide
      have E0:bU 3 base ι S w ι S (w.setCell ⟨b,1,none⟩ (.int .i32 1)):=hE1.mono (by omega) (bY _);exact⟨_,ι',S',.aA [],Ha 1 0,rfl,((((E0.trans k1).trans (d1.mono hl9 (bY _))).trans (s1.mono hl9 (bY _))).trans (t1.mono hl9 (bY _))),by rw[ar];exact⟨[],rfl,by simp⟩,t2',by decide,rfl,rfl⟩
def Nh:bX p_ 129 [.op 2 0] (Hb 0) fun r hh=>r=b_ false∧hh=Hb 0:=by
 intro base ι S w vs h1 h2
 match vs,h1 with
 | [],h1=>simp at h1
 | v:: u:: vs,h1=>simp at h1
 | [v],h1 =>
   simp only[bN,dq,and_true]at h1;rw[ar]at h1;obtain⟨b,hb,rfl⟩:=h1;have hx:(Hb 0)[2]?=some (.ah (tH 0 0 (.v .nilIface) keys)):=rfl;obtain⟨v0,g0,q0,z0⟩:=cell_of h2 hx hb (o:=0) (c:=.v (.int .u32 0)) rfl;rw[cD]at q0;subst q0;refine (Dr _ w g0).mono ?_;rintro e w' ⟨rfl,rfl⟩;exact⟨_,ι,S,b_ false,_,rfl,bU.refl _ _ _ _ _,by simp,h2,bY _,rfl,rfl⟩
def Nf:bX p_ 92 [.op 2 0,.fn (.func 93) [.op 2 0] []] (Hb 0) fun r hh=>r=.aA []∧hh=Ha 1 0:=by
 refine (V92 _ _).bG ?_;unfold Zl;simp only[nM,rW];refine⟨by kernel_rfl,Nh.mono ?_⟩;rintro r hh ⟨rfl,rfl⟩;simp only[UJ,Ra];refine⟨fun _=>⟨by kernel_rfl,Ni.mono ?_⟩,fun q=>by cases q⟩;rintro r hh ⟨rfl,rfl⟩;exact⟨_,_,Wk.refl _ _ _ (by decide),rfl,rfl⟩
omit [Laid] in
def tZ:rb.drop 4=.own 4 0 4 1:: rb.drop 5:=by kernel_rfl
omit [Laid] in
def ua:rb.drop 5=i_ 4:: rb.drop 6:=by kernel_rfl
omit [Laid] in
def Vy:rb.length=262:=by kernel_rfl
omit [Laid] in
def Vz(n:Nat)(h:n<256):rb.drop (6+n)=u8 (fu.getD n 0):: rb.drop (6+n+1):=by
 have hl:6+n<rb.length:=by rw[Vy];omega
 rw[acm hl]
 congr 1
 have:fu.length=256:=by kernel_rfl
 simp[rb,show 6+n=n+1+1+1+1+1+1 by omega,this,h]
omit [Laid] in
def U4(n:Nat)(h:n<256)(h0:n≠0)(h1:n≠12)(h2:n≠13):fu.getD n 0=4∨fu.getD n 0=1:=by
 have:=At.1 (show ((List.range 256).all fun n=>n == 0||n == 12||n == 13||fu.getD n 0 == 4||fu.getD n 0 == 1)=true by kernel_rfl) n (by simpa using h);simp only[aci,beq_iff_eq]at this;omega
end
section
open Go Go.Aw
variable [bq]
def G(x y:aL):aa:=e0:: e1:: .ah (tH 1 0 (.il 212 (.op 3 0)) (.v (.slice none 0 0))):: .ah ⟨252,rb,true⟩:: .ah ⟨247,tb,true⟩:: (Qi++[x,y])
omit [bq] in
@[simp] theorem Pw(x y:aL):(G x y).length=11:=rfl
omit [bq] in
@[simp] theorem G_3(x y:aL):(G x y)[3]?=some (.ah ⟨252,rb,true⟩):=rfl
omit [bq] in
@[simp] theorem G_4(x y:aL):(G x y)[4]?=some (.ah ⟨247,tb,true⟩):=rfl
omit [bq] in
@[simp] theorem G_9(x y:aL):(G x y)[9]?=some x:=rfl
omit [bq] in
@[simp] theorem adH(x y:aL):(G x y)[10]?=some y:=rfl
omit [bq] in
@[simp] theorem adJ(x y z:aL):(G x y).set 9 z=G z y:=rfl
omit [bq] in
@[simp] theorem adD(x y z:aL):(G x y).set 10 z=G x z:=rfl
omit [bq] in
def su:rb.tail=i_ 0:: rb.drop 2:=by kernel_rfl
omit [bq] in
@[simp] theorem adI(x y:aL)(l:aa):(G x y++l)[3]?=some (.ah ⟨252,rb,true⟩):=rfl
omit [bq] in
@[simp] theorem adB(x y:aL)(l:aa):(G x y++l)[10]?=some y:=rfl
omit [bq] in
@[simp] theorem adC(x y z:aL):(G x y++[z])[11]?=some z:=rfl
omit [bq] in
@[simp] theorem abK(x y z:aL)(l:aa):(G x y++l).set 10 z=G x z++l:=rfl
omit [bq] in
def qM(s:List UInt8):(s.map fun b=>[bg b]).flatten=s.map bg:=by
 induction s with
 | nil=>rfl
 | cons b s ih=>simp[ih]
omit [bq] in
def aba:tb.tail=.v (.pointer none):: tb.drop 2:=by kernel_rfl
omit [bq] in
def Rx:pf p_ "WriteString" 321=some 282:=by kernel_rfl
omit [bq] in
def Rw:pf p_ "Replace" 212=some 266:=by kernel_rfl
def aas(h:aa):bX p_ 268 [.il 321 (.op 10 0)] h fun r hh=>r=.il 321 (.op 10 0)∧hh=h:=by
 refine (aaq _).bG ?_;unfold TK;have:Fj p_ 325 321=true:=by kernel_rfl
 simp[this];exact Wk.refl _ _ _ (bY _)
omit [bq] in
def nQ_(s:List UInt8):wQ (s.map bg)=some s:=by
 induction s with
 | nil=>rfl
 | cons b s ih=>simp[wQ,bg]at ih ⊢;simp[ih]
def Ju(s:List UInt8)(hl:4000<s.length):bn p_ 42 [.str s] (.aA [.str [],i_ 28]):=by
 refine (X5 _).bj (by simp) (by simp) ?_;unfold TM;have hn:(4000:Int)<(s.length:Int):=by omega
 simp[hn];exact fun _=>.pure (by simp) rfl
end
section
open Go Go.Aw Go.RowKit
variable [bq]
section
variable [Laid]
omit [Laid] in
omit [bq] in
def Pp{K:AV→Prop}(ex:x=i_ a)(ey:y=i_ b)(q:K (i_ (dn .or .i64 a b))):ag .or x y K:=by
 subst ex;subst ey;simpa[ag]using q
def jC(b f t:Int):Bool:=decide (f≤b)&&decide (b≤t)
omit [bq] in
def pG(b f t:Int):bn p_ 137 [i_ b,i_ f,i_ t] (b_ (jC b f t)):=by
 refine (ZZ _ _ _).bj (by simp) (by simp) ?_;unfold Tg
 by_cases h1:f≤b
 ·simp[h1];exact .pure (by simp) (by simp[jC,h1])
 ·simp[h1];exact .pure (by simp) (by simp[jC,h1])
omit [bq] in
def nK(n:Int):bn p_ 98 [i_ n] (b_ (jC n 48 57)):=by
 refine (V98 _).bj (by simp) (by simp) ?_;unfold Zp;refine uCon (pG n 48 57) ?_;exact .pure (by simp) rfl
def fk_(n:Int):Bool:=(jC (dn .or .i64 n 32) 97 122&&decide (n<128)&&decide (64<n))||decide (n=95)||decide (128≤n)
omit [bq] in
def wX(n:Int):bn p_ 97 [i_ n] (b_ (fk_ n)):=by
 refine (V97 _).bj (by simp) (by simp) ?_;unfold Zo;refine Pp rfl rfl (uCon (pG (dn .or .i64 n 32) 97 122) ?_)
 by_cases c1:n<128
 all_goals by_cases c2:64<n
 all_goals by_cases c3:n=95
 all_goals cases h1:jC (dn .or .i64 n 32) 97 122
 all_goals
  repeat first|((with_reducible apply aD))|((with_reducible apply aq))|((with_reducible apply jt);rfl)|((with_reducible apply km);rfl)|((with_reducible apply dk);rfl)|((with_reducible apply aM);rfl)|((with_reducible apply aN);rfl)|((with_reducible apply oO true);rfl;rfl;exact oF (by omega))|((with_reducible apply oO false);rfl;rfl;exact nO (by omega))|((with_reducible apply qW true);rfl;rfl;exact oF (by omega))|((with_reducible apply qW false);rfl;rfl;exact nO (by omega))|((with_reducible apply pS true);rfl;rfl;exact oF (by omega))|((with_reducible apply pS false);rfl;rfl;exact nO (by omega))|((with_reducible apply pR true);rfl;rfl;exact oF (by omega))|((with_reducible apply pR false);rfl;rfl;exact nO (by omega))|((with_reducible apply pQ true);rfl;rfl;exact oF (by omega))|((with_reducible apply pQ false);rfl;rfl;exact nO (by omega))
  exact .pure (by simp) (by first|(simp[fk_,h1,c1,c2,c3];done)|(simp[fk_,h1,c1,c2,c3];omega)|(exfalso;omega))
def uR(n:Int):Bool:=decide (n=32)||decide (n=9)||decide (n=10)
omit [bq] in
def ta(n:Int):bn p_ 62 [i_ n] (b_ (uR n)):=by
 refine (V62 _).bj (by simp) (by simp) ?_;unfold YU
 by_cases c1:n=32
 all_goals by_cases c2:n=9
 all_goals by_cases c3:n=10
 all_goals
  repeat first|((with_reducible apply aD))|((with_reducible apply aq))|((with_reducible apply jt);rfl)|((with_reducible apply km);rfl)|((with_reducible apply dk);rfl)|((with_reducible apply aM);rfl)|((with_reducible apply aN);rfl)|((with_reducible apply oO true);rfl;rfl;exact oF (by omega))|((with_reducible apply oO false);rfl;rfl;exact nO (by omega))|((with_reducible apply qW true);rfl;rfl;exact oF (by omega))|((with_reducible apply qW false);rfl;rfl;exact nO (by omega))|((with_reducible apply pS true);rfl;rfl;exact oF (by omega))|((with_reducible apply pS false);rfl;rfl;exact nO (by omega))|((with_reducible apply pR true);rfl;rfl;exact oF (by omega))|((with_reducible apply pR false);rfl;rfl;exact nO (by omega))|((with_reducible apply pQ true);rfl;rfl;exact oF (by omega))|((with_reducible apply pQ false);rfl;rfl;exact nO (by omega))
  exact .pure (by simp) (by first|(simp[uR,c1,c2,c3];done)|(exfalso;omega))
omit [bq] in
def Ae(n:Int):bn p_ 65 [i_ n] (b_ (fk_ n||jC n 48 57||decide (n=45))):=by
 refine (V65 _).bj (by simp) (by simp) ?_;unfold YX;refine uCon (wX n) ?_;cases h1:fk_ n
 ·repeat first|((with_reducible apply aD))|((with_reducible apply aq))|((with_reducible apply jt);rfl)|((with_reducible apply km);rfl)|((with_reducible apply dk);rfl)|((with_reducible apply aM);rfl)|((with_reducible apply aN);rfl)|((with_reducible apply oO true);rfl;rfl;exact oF (by omega))|((with_reducible apply oO false);rfl;rfl;exact nO (by omega))|((with_reducible apply qW true);rfl;rfl;exact oF (by omega))|((with_reducible apply qW false);rfl;rfl;exact nO (by omega))|((with_reducible apply pS true);rfl;rfl;exact oF (by omega))|((with_reducible apply pS false);rfl;rfl;exact nO (by omega))|((with_reducible apply pR true);rfl;rfl;exact oF (by omega))|((with_reducible apply pR false);rfl;rfl;exact nO (by omega))|((with_reducible apply pQ true);rfl;rfl;exact oF (by omega))|((with_reducible apply pQ false);rfl;rfl;exact nO (by omega))
  refine uCon (nK n) ?_;cases h2:jC n 48 57;all_goals by_cases c1:n=45
  all_goals
   repeat first|((with_reducible apply aD))|((with_reducible apply aq))|((with_reducible apply jt);rfl)|((with_reducible apply km);rfl)|((with_reducible apply dk);rfl)|((with_reducible apply aM);rfl)|((with_reducible apply aN);rfl)|((with_reducible apply oO true);rfl;rfl;exact oF (by omega))|((with_reducible apply oO false);rfl;rfl;exact nO (by omega))|((with_reducible apply qW true);rfl;rfl;exact oF (by omega))|((with_reducible apply qW false);rfl;rfl;exact nO (by omega))|((with_reducible apply pS true);rfl;rfl;exact oF (by omega))|((with_reducible apply pS false);rfl;rfl;exact nO (by omega))|((with_reducible apply pR true);rfl;rfl;exact oF (by omega))|((with_reducible apply pR false);rfl;rfl;exact nO (by omega))|((with_reducible apply pQ true);rfl;rfl;exact oF (by omega))|((with_reducible apply pQ false);rfl;rfl;exact nO (by omega))
   exact .pure (by simp) (by simp[c1])
 ·repeat first|((with_reducible apply aD))|((with_reducible apply aq))|((with_reducible apply jt);rfl)|((with_reducible apply km);rfl)|((with_reducible apply dk);rfl)|((with_reducible apply aM);rfl)|((with_reducible apply aN);rfl)|((with_reducible apply oO true);rfl;rfl;exact oF (by omega))|((with_reducible apply oO false);rfl;rfl;exact nO (by omega))|((with_reducible apply qW true);rfl;rfl;exact oF (by omega))|((with_reducible apply qW false);rfl;rfl;exact nO (by omega))|((with_reducible apply pS true);rfl;rfl;exact oF (by omega))|((with_reducible apply pS false);rfl;rfl;exact nO (by omega))|((with_reducible apply pR true);rfl;rfl;exact oF (by omega))|((with_reducible apply pR false);rfl;rfl;exact nO (by omega))|((with_reducible apply pQ true);rfl;rfl;exact oF (by omega))|((with_reducible apply pQ false);rfl;rfl;exact nO (by omega))
  exact .pure (by simp) (by simp)
omit [bq] in
def QI(l m:List UInt8):bn p_ 94 [.str l,.str m] (b_ (decide (m.length≤l.length)&&decide (l.take m.length=m))):=by
 refine (X8 _ _).bj (by simp) (by simp) ?_;unfold TQ
 by_cases h1:m.length≤l.length
 ·simp[h1];refine fun _ _=>.pure (by simp) (by simp)
 ·simp[h1];refine fun _ _=>.pure (by simp) (by simp)
omit [bq] in
def rO(l m:List UInt8):bn p_ 59 [.str l,.str m] (b_ (decide (m.length≤l.length)&&decide (l.take m.length=m))):=by
 refine (X7 _ _).bj (by simp) (by simp) ?_;unfold TP;refine uCon (QI l m) ?_;exact .pure (by simp) rfl
end
/-! Forms that the kernel runs. -/
def kM_(m:List UInt8):List UInt8→Bool:=List.rec (motive:=fun _=>List UInt8→Bool) (fun _=>true) (fun y _ ih l=>match l with|[]=>false|x:: l=>match Nat.beq x.toNat y.toNat with|true=>ih l|false=>false) m
end
section
open Go Go.Aw Go.RowKit
abbrev ae:=List UInt8
def pk(s:ae)(i:Nat):Int:=match s[i]? with|some b=>(b.toNat:Int)|none=>-1
abbrev eI(s:ae)(a:Nat):aL:=.ah ⟨101,[.str s,i_ a],true⟩
def Sc(id:Nat)(h:aa)(s:ae)(a:Nat):Prop:=h[id]?=some (eI s a)
def RO(h:s[i]?=some b):pk s i=(b.toNat:Int):=by unfold pk;rw[h]
def IC(h:s.length≤i):pk s i=-1:=by unfold pk;rw[iS h]
def Xi(s:ae)(i:Nat):pk s i<256:=by
 unfold pk;split
 ·rename_i b _;have:=b.toNat_lt;omega
 ·omega
def Xh(s:ae)(i:Nat):-1≤pk s i:=by
 unfold pk;split<;>omega
def Sc.lt{id:Nat}(sc:Sc id h s a):id<h.length:=(eQ.1 sc).1
def Sc.set{id:Nat}(sc:Sc id h s a)(b:Nat):Sc id (h.set id (eI s b)) s b:=iD sc.lt
def Sc.app{id:Nat}(sc:Sc id h s a)(j:aa):Sc id (h++j) s a:=by
 unfold Sc;rw[gO sc.lt];exact sc
def Mv(id:Nat)(s:ae)(a:Nat)(h h':aa):Prop:=∃j,h'=h.set id (eI s a)++j
def Mv.other{id a:Nat}(g:Mv id s a h h')(hi:i<h.length)(hne:i≠id):h'[i]?=h[i]?:=by
 obtain⟨j,rfl⟩:=g;rw[gO (by simpa using hi),iF (Ne.symm hne)]
def Mv.set(id:Nat)(s:ae)(a:Nat)(h:aa):Mv id s a h (h.set id (eI s a)):=⟨[],by simp⟩
def I4{K:AV→Prop}(e:x=.str l)(q:K (i_ l.length)):lC x K:=by subst e;exact q
def fo{K:AV→Prop}(e:x=.v (.int k' n))(hm:k.wrap n=m)(q:K (.v (.int k m))):cy k x K:=by subst hm;exact⟨k',n,e,q⟩
def MT(b:UInt8):IntKind.i64.wrap (b.toNat:Int)=(b.toNat:Int):=by rw[IntKind.wrap_i64];have:=b.toNat_lt;omega
variable [Laid]
def cF{args args':List AV}{K0 K:AV→aa→Prop}(hb:dv P f=true)(e:args=args')(c:bX P f args' h K0)(k:∀r h',K0 r h'→K r h'):bx P (.fn (.func f) [] []) args h K:=by
 subst e;exact⟨hb,by simpa using c.mono k⟩
def Nr{id:Nat}(sc:Sc id h s a)(n:Nat)(hn:a+n≤2^40):bX p_ 61 [.op id 0,i_ n] h fun r h' => r=i_ (pk s (a+n))∧h'=h:=by
 refine (V61 _ _).bG ?_;unfold YT;have hin:aK ((a:Int)+(n:Int)):=by unfold aK;omega
 refine enil (zzA (zzU sc rfl (zzP hin (enil (zzA (zzU sc rfl (I4 rfl (zzC ?_))))))));refine ct rfl (fun q=>?_) fun q=>?_
 ·have q:a+n<s.length:=by have:=oN q;omega
  refine enil (zzA (zzU sc rfl (enil (zzA (zzU sc rfl (zzP hin ?_))))));refine ug (n:=a+n) rfl (by simp) (dO q) ?_;refine fo rfl (MT _) ?_;exact⟨_,_,Wk.refl _ _ _ (bY _),by rw[RO (dO q)],rfl⟩
 ·have q:s.length≤a+n:=by have:=tO q;omega
  exact⟨_,_,Wk.refl _ _ _ (bY _),by rw[IC q],rfl⟩
def dz{id:Nat}{K:AV→aa→Prop}(n:Nat)(sc:Sc id h s a)(ex:x=.op id 0)(hm:m=(n:Int))(hn:a+n≤2^40)(k:K (i_ (pk s (a+n))) h):bx p_ (.fn (.func 61) [] []) [x,i_ m] h K:=by
 subst ex;subst hm;refine cF (by kernel_rfl) rfl (Nr sc n hn) ?_;rintro _ _ ⟨rfl,rfl⟩;exact k
def w6(s:ae)(i:Nat):Bool:=decide (pk s i=92)&&!decide (pk s (i+1)=10)
def yf{id:Nat}{K:AV→aa→Prop}(n:Nat)(sc:Sc id h s a)(ex:x=.op id 0)(hm:m=(n:Int))(hn:a+n<2^40)(k:K (b_ (w6 s (a+n))) h):bx p_ (.fn (.func 66) [] []) [x,i_ m] h K:=by
 subst ex;subst hm;refine cF (by kernel_rfl) rfl (K0:=fun r h' => r=b_ (w6 s (a+n))∧h'=h) ?_ ?_
 ·refine (V66 _ _).bG ?_;unfold YY;refine dz n sc rfl rfl (by omega) (zzG (aD ?_));refine cH rfl (fun q=>?_) fun q=>?_
  ·refine zzP (by unfold aK;omega) (dz (n+1) sc rfl (by simp) (by omega) (zzH (zzR ?_)));exact⟨_,_,Wk.refl _ _ _ (bY _),by unfold w6;rw[q];rfl,rfl⟩
  ·refine zzQ ?_;exact⟨_,_,Wk.refl _ _ _ (bY _),by unfold w6;rw[q];rfl,rfl⟩
 ·rintro _ _ ⟨rfl,rfl⟩;exact k
def vI(s:ae)(i:Nat):Bool:=if pk s i=45 then fk_ (pk s (i+1))||decide (pk s (i+1)=45)||w6 s (i+1) else fk_ (pk s i)||w6 s i
def AE{id:Nat}{K:AV→aa→Prop}(n:Nat)(sc:Sc id h s a)(ex:x=.op id 0)(hm:m=(n:Int))(hn:a+n<2^39)(k:K (b_ (vI s (a+n))) h):bx p_ (.fn (.func 67) [] []) [x,i_ m] h K:=by
 subst ex;subst hm;refine cF (by kernel_rfl) rfl (K0:=fun r h' => r=b_ (vI s (a+n))∧h'=h) ?_ ?_
 ·refine (V67 _ _).bG ?_;unfold YZ;have hin:aK ((n:Int)+1):=by unfold aK;omega
  refine dz n sc rfl rfl (by omega) (zzH ?_);refine ct rfl (fun q=>?_) fun q=>?_
  ·have q:¬pk s (a+n)=45:=by simpa using q
   refine dz n sc rfl rfl (by omega) (uCon (wX _) (aD ?_));refine cH rfl (fun q1=>?_) fun q1=>?_
   ·refine yf n sc rfl rfl (by omega) (zzQ ?_);exact⟨_,_,Wk.refl _ _ _ (bY _),by unfold vI;rw[if_neg q,q1];rfl,rfl⟩
   ·refine zzR ?_;exact⟨_,_,Wk.refl _ _ _ (bY _),by unfold vI;rw[if_neg q,q1];rfl,rfl⟩
  ·have q:pk s (a+n)=45:=by simpa using q
   refine zzP hin (dz (n+1) sc rfl (by simp) (by omega) (uCon (wX _) (aD ?_)));have rest:∀(c:Bool),c=(fk_ (pk s (a+(n+1)))||decide (pk s (a+(n+1))=45))→aH (fun J27=>aI (b_ c) false (ag .add (i_ n) (i_ 1) fun v28=>bx p_ (.fn (.func 66) [] []) [(.op id 0),v28] h fun v29 g30=>J27 [ff,v29] g30) (J27 [(bI false (b_ c)),un] h)) fun s31 g32=>bA (nx s31 0) tt (nx s31 1) fun v33=>∃r' h'',Wk h.length [v33] g32 [r'] h''∧r'=b_ (vI s (a+n))∧h''=h:=by
    intro c hc;refine aD ?_;refine cH rfl (fun q1=>?_) fun q1=>?_
    ·refine zzP hin (yf (n+1) sc rfl (by simp) (by omega) (zzQ ?_));exact⟨_,_,Wk.refl _ _ _ (bY _),by unfold vI;rw[if_pos q,Nat.add_assoc,←hc,q1];rfl,rfl⟩
    ·refine zzR ?_;exact⟨_,_,Wk.refl _ _ _ (bY _),by unfold vI;rw[if_pos q,Nat.add_assoc,←hc,q1];rfl,rfl⟩
   refine cH rfl (fun q1=>?_) fun q1=>?_
   ·refine zzP hin (dz (n+1) sc rfl (by simp) (by omega) (zzG (aq (zzQ ?_))));exact rest _ (by rw[q1];rfl)
   ·refine aq (zzR ?_);exact rest true (by rw[q1];rfl)
 ·rintro _ _ ⟨rfl,rfl⟩;exact k
def mY(p:Int→Bool)(s:ae)(a:Nat):Nat:=((s.drop a).takeWhile fun b=>p (b.toNat:Int)).length
omit [Laid] in
def Mm{p:Int→Bool}(hk:k<mY p s a):a+k<s.length∧p (pk s (a+k))=true:=by
 have key:∀(l:ae) (k:Nat),k<(l.takeWhile fun b=>p (b.toNat:Int)).length→k<l.length∧p (pk l k)=true:=by
  intro l;induction l with
  | nil=>intro k hk;simp at hk
  | cons b l ih =>
    intro k hk
    by_cases hb:p (b.toNat:Int)=true
    ·have e:(b:: l).takeWhile (fun b=>p (b.toNat:Int))=b:: l.takeWhile (fun b=>p (b.toNat:Int)):=List.takeWhile_cons_of_pos hb;rw[e]at hk
     match k,hk with
     | 0,_=>exact⟨by simp,by simpa[pk]using hb⟩
     | k+1,hk =>
       have ⟨h1,h2⟩:=ih k (by simpa using hk);exact⟨by simpa using h1,by simpa[pk]using h2⟩
    ·have e:(b:: l).takeWhile (fun b=>p (b.toNat:Int))=[]:=List.takeWhile_cons_of_neg hb;rw[e]at hk;simp at hk
 have ⟨h1,h2⟩:=key (s.drop a) k hk;refine⟨by rw[List.length_drop]at h1;omega, ?_⟩;unfold pk at h2 ⊢
 rwa [abQ]at h2
omit [Laid] in
def CE{p:Int→Bool}(hp:p (-1)=false)(s:ae)(a:Nat):p (pk s (a+mY p s a))=false:=by
 unfold mY;have key:∀l:ae,p (pk l ((l.takeWhile fun b=>p (b.toNat:Int)).length))=false:=by
  intro l;induction l with
  | nil=>simpa[pk]using hp
  | cons b l ih =>
    by_cases hb:p (b.toNat:Int)=true
    ·have e:(b:: l).takeWhile (fun b=>p (b.toNat:Int))=b:: l.takeWhile (fun b=>p (b.toNat:Int)):=List.takeWhile_cons_of_pos hb;rw[e,abL];simpa[pk]using ih
    ·have e:(b:: l).takeWhile (fun b=>p (b.toNat:Int))=[]:=List.takeWhile_cons_of_neg hb;rw[e];simpa[pk]using hb
 have:=key (s.drop a);unfold pk at this ⊢
 rwa [abQ]at this
omit [Laid] in
def VB(p:Int→Bool)(s:ae)(a:Nat):mY p s a≤s.length-a:=by
 unfold mY;have hle:((s.drop a).takeWhile fun b=>p (b.toNat:Int)).length≤(s.drop a).length:=(List.takeWhile_prefix _).length_le;simpa using hle
def Ij{id:Nat}{p:Int→Bool}{K:AV→aa→Prop}(sc:Sc id h s a)(ex:x=.op id 0)(hb:dv p_ f=true)(hc:∀n,bn p_ f [i_ n] (b_ (p n)))(hp:p (-1)=false)(ha:a≤s.length)(hl:s.length≤2^32)
 (k:K (.aA []) (h.set id (eI s (a+mY p s a)))):bx p_ (.fn (.func 63) [] []) [x,.fn (.func f) [] []] h K:=by
 subst ex;refine cF (by kernel_rfl) rfl (K0:=fun r h' => r=.aA []∧h'=h.set id (eI s (a+mY p s a))) ?_ ?_
 ·refine (V63 _ _).bG ?_;unfold YV;have hr:=VB p s a;refine ba (α:=Nat) (fun k=>k≤mY p s a) (fun _=>[]) (fun k=>h.set id (eI s (a+k))) (fun k=>mY p s a-k) 0 (abY _) (by rw[Nat.add_zero,kv sc];exact Wk.refl _ _ _ (bY _)) ?_;intro k hk;have sc':=sc.set (a+k);refine dz 0 sc' rfl rfl (by omega) (tA hb (hc _) ?_);rw[Nat.add_zero]
  by_cases q:k<mY p s a
  ·have ⟨q1,q2⟩:=Mm q;refine zzL q2 (enil (zzA (zzU sc' rfl (zzP (by unfold aK;omega) (enil (zzA ?_))))));refine aW (cs:=[i_ ((a+k:Nat)+1:Int)]) (h':=h.set id (eI s (a+(k+1)))) rfl sc' rfl rfl (by simp) rfl rfl ?_ ?_
   ·rw[abW];have e:((a+k:Nat):Int)+1=((a+(k+1):Nat):Int):=by omega
    show _=List.set h id (.ah ⟨101,[.str s,i_ ((a+(k+1):Nat):Int)],true⟩);rw[←e];rfl
   ·refine aq ⟨k+1,by omega,Wk.refl _ _ _ (by simp),by omega⟩
  ·obtain rfl:k=mY p s a:=by omega
   refine zzK (CE hp s a) ?_;exact⟨_,_,Wk.refl _ _ _ (by simp),rfl,rfl⟩
 ·rintro _ _ ⟨rfl,rfl⟩;exact k
def FR(s:ae)(a:Nat):Bool:=
 let n:=if pk s a=43∨pk s a=45 then 1 else 0
 let m:=if pk s (a+n)=46 then n+1 else n
 jC (pk s (a+m)) 48 57
def OB{id:Nat}{K:AV→aa→Prop}(sc:Sc id h s a)(ex:x=.op id 0)(hn:a<2^39)(k:K (b_ (FR s a)) h):bx p_ (.fn (.func 69) [] []) [x] h K:=by
 subst ex;refine cF (by kernel_rfl) rfl (K0:=fun r h' => r=b_ (FR s a)∧h'=h) ?_ ?_
 ·refine (V69 _).bG ?_;unfold Y1;refine GL [i_ ((if pk s a=43∨pk s a=45 then 1 else 0:Nat):Int)] h ?_ fun F hF=>?_
  ·have hle:(if pk s a=43∨pk s a=45 then 1 else 0:Nat)≤1:=by split<;>omega
   generalize hnn:(if pk s a=43∨pk s a=45 then 1 else 0:Nat)=n at hle;refine GL [i_ ((if pk s (a+n)=46 then n+1 else n:Nat):Int)] h ?_ fun F hF=>?_
   ·have hle2:(if pk s (a+n)=46 then n+1 else n:Nat)≤2:=by split<;>omega
    refine dz (if pk s (a+n)=46 then n+1 else n) sc rfl rfl (by omega) (uCon (nK _) ?_);exact⟨_,_,Wk.refl _ _ _ (bY _),by unfold FR;rw[hnn],rfl⟩
   ·refine dz n sc rfl rfl (by omega) (zzG ?_);refine ct rfl (fun q=>?_) fun q=>?_
    ·have q:pk s (a+n)=46:=oN q;refine zzP (by unfold aK;omega) (aq ?_);rw[if_pos q]at hF;exact hF
    ·have q:¬pk s (a+n)=46:=tO q;refine aq ?_;rw[if_neg q]at hF;exact hF
  ·refine dz 0 sc rfl rfl (by omega) ?_;rw[Nat.add_zero];refine zzG ?_;have fin:∀c:Bool,(c=true↔(pk s a=43∨pk s a=45))→af (b_ c) (ag .add (i_ 0) (i_ 1) fun v10=>[AV.op id 0]=[AV.op id 0]∧F [v10] h) ([AV.op id 0]=[AV.op id 0]∧F [(i_ 0)] h):=by
    intro c hc;refine ct rfl (fun q=>?_) fun q=>?_
    ·refine zzP (by unfold aK;omega) (aq ?_);rw[if_pos (hc.1 q)]at hF;exact hF
    ·refine aq ?_;rw[if_neg (fun z=>by rw[hc.2 z]at q;cases q)]at hF;exact hF
   refine aD ?_;refine cH rfl (fun q1=>?_) fun q1=>?_
   ·have q1:¬pk s a=43:=tO q1;refine zzG (aq (zzQ ?_));exact fin _ (by simp[q1])
   ·have q1:pk s a=43:=by simpa using q1
    refine aq (zzR ?_);exact fin true (by simp[q1])
 ·rintro _ _ ⟨rfl,rfl⟩;exact k
end
section
open Go Go.Aw Go.RowKit
abbrev y9(l:List UInt8):List (List AV):=l.map fun b=>[bg b]
def Hl(l:List UInt8):(y9 l).all (dx 1)=true:=CC (f:=fun b=>[bg b]) (fun _=>⟨rfl,rfl⟩) l
def Gz{K:AV→Prop}(q:K (.sl 1 [[u8 x]])):bt 1 1 (u8 0) [(0,1,u8 x)] K:=by
 have e:dS (ic 1 (bh (u8 0))) [(0,1,u8 x)]=some [u8 x]:=by simp[dS,ic,bh,cf,bT]
 unfold bt;rw[e];exact q
def T5{K:AV→Prop}{id:Nat}(e:x=.sb id 1 (y9 l))(q:K (.str l)):cR x h K:=by
 subst e;have h2:∀l:List UInt8,(y9 l).flatten=l.map bg:=by
  intro l;induction l with
  | nil=>rfl
  | cons b l ih=>show bg b:: (y9 l).flatten=_;rw[ih];rfl
 unfold cR;rw[MC];simp only[Option.bind_some];rw[h2,nQ_];exact q
def UX(n:Int):Bool:=fk_ n||jC n 48 57||decide (n=45)
variable [Laid]
def qn(l:ae):Prop:=l≠[]∧∀b∈l,48≤b.toNat∧b.toNat≤57
end
section
open Go.Shelf
theorem uSo1{α:Type}{a b:α}(h:a=b:=by kernel_rfl):some a=some b:=congrArg some h
def lays161_ren:Go.Shelf.Ren:=⟨fun|161=>138|231=>166|227=>167|233=>168|235=>169|228=>172|197=>195|151=>196|260=>213|152=>170|137=>72|119=>197|224=>133|225=>132|217=>103|266=>142|n=>n,fun|9=>9|4=>4|3=>3|5=>5|117=>226|116=>225|0=>0|124=>229|105=>254|21=>21|119=>214|46=>188|139=>289|138=>288|n=>n,fun|3=>4|4=>5|n=>n⟩
theorem lays161:Go.Proofs.Lays.n161 p_ lays161_ren:={
 mixed:=by kernel_rfl
 f119:=Tryz.func197.trans uSo1
 f137:=Tryz.func72.trans uSo1
 f151:=Tryz.func196.trans uSo1
 f152:=Tryz.func170.trans uSo1
 f161:=Tryz.func138.trans uSo1
 f197:=Tryz.func195.trans uSo1
 f217:=Tryz.func103.trans uSo1
 f224:=Tryz.func133.trans uSo1
 f225:=Tryz.func132.trans uSo1
 f227:=Tryz.func167.trans uSo1
 f228:=Tryz.func172.trans uSo1
 f231:=Tryz.func166.trans uSo1
 f233:=Tryz.func168.trans uSo1
 f235:=Tryz.func169.trans uSo1
 f260:=Tryz.func213.trans uSo1
 f266:=Tryz.func142.trans uSo1
 t0:=Tryz.underlying0
 a0:=Tryz.isAgg0
 z0:=Tryz.sizeOf0
 v0:=Tryz.zeroValue0
 t3:=Tryz.underlying3
 a3:=Tryz.isAgg3
 z3:=Tryz.sizeOf3
 v3:=Tryz.zeroValue3
 t4:=Tryz.underlying4
 a4:=Tryz.isAgg4
 z4:=Tryz.sizeOf4
 v4:=Tryz.zeroValue4
 t5:=Tryz.underlying5
 a5:=Tryz.isAgg5
 z5:=Tryz.sizeOf5
 v5:=Tryz.zeroValue5
 t9:=Tryz.underlying9
 a9:=Tryz.isAgg9
 z9:=Tryz.sizeOf9
 v9:=Tryz.zeroValue9
 t21:=Tryz.underlying21
 a21:=Tryz.isAgg21
 z21:=Tryz.sizeOf21
 v21:=Tryz.zeroValue21
 t46:=Tryz.underlying188
 a46:=Tryz.isAgg188
 z46:=Tryz.sizeOf188
 v46:=Tryz.zeroValue188
 t105:=Tryz.underlying254
 a105:=Tryz.isAgg254
 z105:=Tryz.sizeOf254
 v105:=Tryz.zeroValue254
 t116:=Tryz.underlying225
 a116:=Tryz.isAgg225
 z116:=Tryz.sizeOf225
 t117:=Tryz.underlying226
 a117:=Tryz.isAgg226
 z117:=Tryz.sizeOf226
 v117:=Tryz.zeroValue226
 t119:=Tryz.underlying214
 a119:=Tryz.isAgg214
 z119:=Tryz.sizeOf214
 t124:=Tryz.underlying229
 a124:=Tryz.isAgg229
 z124:=Tryz.sizeOf229
 v124:=Tryz.zeroValue229
 t138:=Tryz.underlying288
 a138:=Tryz.isAgg288
 z138:=Tryz.sizeOf288
 v138:=Tryz.zeroValue288
 t139:=Tryz.underlying289
 a139:=Tryz.isAgg289
 z139:=Tryz.sizeOf289
 v139:=Tryz.zeroValue289
 g3:=by kernel_rfl
 g4:=by kernel_rfl }
def lays160_ren:Go.Shelf.Ren:=⟨fun|160=>228|232=>181|231=>166|227=>167|234=>182|233=>168|236=>183|235=>169|228=>172|271=>201|151=>196|197=>195|120=>219|152=>170|260=>213|137=>72|119=>197|224=>133|225=>132|217=>103|266=>142|n=>n,fun|9=>9|4=>4|3=>3|5=>5|117=>226|116=>225|0=>0|124=>229|21=>21|105=>254|46=>188|119=>214|139=>289|138=>288|n=>n,fun|3=>4|4=>5|n=>n⟩
theorem lays160:Go.Proofs.Lays.n160 p_ lays160_ren:={
 mixed:=by kernel_rfl
 f119:=Tryz.func197.trans uSo1
 f120:=Tryz.func219.trans uSo1
 f137:=Tryz.func72.trans uSo1
 f151:=Tryz.func196.trans uSo1
 f152:=Tryz.func170.trans uSo1
 f160:=Tryz.func228.trans uSo1
 f197:=Tryz.func195.trans uSo1
 f217:=Tryz.func103.trans uSo1
 f224:=Tryz.func133.trans uSo1
 f225:=Tryz.func132.trans uSo1
 f227:=Tryz.func167.trans uSo1
 f228:=Tryz.func172.trans uSo1
 f231:=Tryz.func166.trans uSo1
 f232:=Tryz.func181.trans uSo1
 f233:=Tryz.func168.trans uSo1
 f234:=Tryz.func182.trans uSo1
 f235:=Tryz.func169.trans uSo1
 f236:=Tryz.func183.trans uSo1
 f260:=Tryz.func213.trans uSo1
 f266:=Tryz.func142.trans uSo1
 f271:=Tryz.func201.trans uSo1
 t0:=Tryz.underlying0
 a0:=Tryz.isAgg0
 z0:=Tryz.sizeOf0
 v0:=Tryz.zeroValue0
 t3:=Tryz.underlying3
 a3:=Tryz.isAgg3
 z3:=Tryz.sizeOf3
 v3:=Tryz.zeroValue3
 t4:=Tryz.underlying4
 a4:=Tryz.isAgg4
 z4:=Tryz.sizeOf4
 v4:=Tryz.zeroValue4
 t5:=Tryz.underlying5
 a5:=Tryz.isAgg5
 z5:=Tryz.sizeOf5
 v5:=Tryz.zeroValue5
 t9:=Tryz.underlying9
 a9:=Tryz.isAgg9
 z9:=Tryz.sizeOf9
 v9:=Tryz.zeroValue9
 t21:=Tryz.underlying21
 a21:=Tryz.isAgg21
 z21:=Tryz.sizeOf21
 v21:=Tryz.zeroValue21
 t46:=Tryz.underlying188
 a46:=Tryz.isAgg188
 z46:=Tryz.sizeOf188
 v46:=Tryz.zeroValue188
 t105:=Tryz.underlying254
 a105:=Tryz.isAgg254
 z105:=Tryz.sizeOf254
 v105:=Tryz.zeroValue254
 t116:=Tryz.underlying225
 a116:=Tryz.isAgg225
 z116:=Tryz.sizeOf225
 t117:=Tryz.underlying226
 a117:=Tryz.isAgg226
 z117:=Tryz.sizeOf226
 v117:=Tryz.zeroValue226
 t119:=Tryz.underlying214
 a119:=Tryz.isAgg214
 z119:=Tryz.sizeOf214
 t124:=Tryz.underlying229
 a124:=Tryz.isAgg229
 z124:=Tryz.sizeOf229
 v124:=Tryz.zeroValue229
 t138:=Tryz.underlying288
 a138:=Tryz.isAgg288
 z138:=Tryz.sizeOf288
 v138:=Tryz.zeroValue288
 t139:=Tryz.underlying289
 a139:=Tryz.isAgg289
 z139:=Tryz.sizeOf289
 v139:=Tryz.zeroValue289
 g3:=by kernel_rfl
 g4:=by kernel_rfl }
def lays103_ren:Go.Shelf.Ren:=⟨fun|103=>216|210=>227|206=>94|n=>n,fun|9=>9|4=>4|24=>279|3=>3|n=>n,fun|n=>n⟩
theorem lays103:Go.Proofs.Lays.n103 p_ lays103_ren:={
 mixed:=by kernel_rfl
 f103:=Tryz.func216.trans uSo1
 f206:=Tryz.func94.trans uSo1
 f210:=Tryz.func227.trans uSo1
 t3:=Tryz.underlying3
 a3:=Tryz.isAgg3
 z3:=Tryz.sizeOf3
 v3:=Tryz.zeroValue3
 t4:=Tryz.underlying4
 a4:=Tryz.isAgg4
 z4:=Tryz.sizeOf4
 v4:=Tryz.zeroValue4
 t9:=Tryz.underlying9
 a9:=Tryz.isAgg9
 z9:=Tryz.sizeOf9
 v9:=Tryz.zeroValue9
 t24:=Tryz.underlying279
 a24:=Tryz.isAgg279
 z24:=Tryz.sizeOf279
 v24:=Tryz.zeroValue279 }
def laysC174_ren:Go.Shelf.Ren:=⟨fun|174=>229|247=>230|245=>231|287=>232|279=>233|280=>234|281=>235|282=>236|321=>237|322=>238|316=>239|171=>241|205=>240|243=>242|246=>122|283=>151|284=>152|285=>153|286=>154|129=>185|317=>184|318=>186|319=>187|320=>188|337=>202|338=>203|n=>n,fun|9=>9|3=>3|2=>2|75=>86|85=>290|4=>4|167=>293|5=>5|53=>196|175=>294|46=>188|168=>296|37=>35|0=>0|210=>300|21=>21|127=>93|145=>304|143=>302|171=>199|173=>202|212=>237|51=>150|20=>20|213=>238|232=>283|233=>284|80=>66|n=>n,fun|15=>6|16=>7|17=>1|18=>2|19=>3|n=>n⟩
theorem laysC174:Go.Proofs.LaysC.n174 p_ laysC174_ren:={
 mixed:=by kernel_rfl
 f129:=Tryz.func185.trans uSo1
 f171:=Tryz.func241.trans uSo1
 f174:=Tryz.func229.trans uSo1
 f205:=Tryz.func240.trans uSo1
 f243:=Tryz.func242.trans uSo1
 f245:=Tryz.func231.trans uSo1
 f246:=Tryz.func122.trans uSo1
 f247:=Tryz.func230.trans uSo1
 f279:=Tryz.func233.trans uSo1
 f280:=Tryz.func234.trans uSo1
 f281:=Tryz.func235.trans uSo1
 f282:=Tryz.func236.trans uSo1
 f283:=Tryz.func151.trans uSo1
 f284:=Tryz.func152.trans uSo1
 f285:=Tryz.func153.trans uSo1
 f286:=Tryz.func154.trans uSo1
 f287:=Tryz.func232.trans uSo1
 f316:=Tryz.func239.trans uSo1
 f317:=Tryz.func184.trans uSo1
 f318:=Tryz.func186.trans uSo1
 f319:=Tryz.func187.trans uSo1
 f320:=Tryz.func188.trans uSo1
 f321:=Tryz.func237.trans uSo1
 f322:=Tryz.func238.trans uSo1
 f337:=Tryz.func202.trans uSo1
 f338:=Tryz.func203.trans uSo1
 t0:=Tryz.underlying0
 a0:=Tryz.isAgg0
 z0:=Tryz.sizeOf0
 v0:=Tryz.zeroValue0
 t2:=Tryz.underlying2
 a2:=Tryz.isAgg2
 z2:=Tryz.sizeOf2
 v2:=Tryz.zeroValue2
 t3:=Tryz.underlying3
 a3:=Tryz.isAgg3
 z3:=Tryz.sizeOf3
 v3:=Tryz.zeroValue3
 t4:=Tryz.underlying4
 a4:=Tryz.isAgg4
 z4:=Tryz.sizeOf4
 v4:=Tryz.zeroValue4
 t5:=Tryz.underlying5
 a5:=Tryz.isAgg5
 z5:=Tryz.sizeOf5
 v5:=Tryz.zeroValue5
 t9:=Tryz.underlying9
 a9:=Tryz.isAgg9
 z9:=Tryz.sizeOf9
 v9:=Tryz.zeroValue9
 t20:=Tryz.underlying20
 a20:=Tryz.isAgg20
 z20:=Tryz.sizeOf20
 v20:=Tryz.zeroValue20
 t21:=Tryz.underlying21
 a21:=Tryz.isAgg21
 z21:=Tryz.sizeOf21
 v21:=Tryz.zeroValue21
 t37:=Tryz.underlying35
 a37:=Tryz.isAgg35
 z37:=Tryz.sizeOf35
 v37:=Tryz.zeroValue35
 t46:=Tryz.underlying188
 a46:=Tryz.isAgg188
 z46:=Tryz.sizeOf188
 v46:=Tryz.zeroValue188
 t51:=Tryz.underlying150
 a51:=Tryz.isAgg150
 z51:=Tryz.sizeOf150
 v51:=Tryz.zeroValue150
 t53:=Tryz.underlying196
 a53:=Tryz.isAgg196
 z53:=Tryz.sizeOf196
 v53:=Tryz.zeroValue196
 t75:=Tryz.underlying86
 a75:=Tryz.isAgg86
 z75:=Tryz.sizeOf86
 v75:=Tryz.zeroValue86
 t85:=Tryz.underlying290
 a85:=Tryz.isAgg290
 z85:=Tryz.sizeOf290
 v85:=Tryz.zeroValue290
 t127:=Tryz.underlying93
 a127:=Tryz.isAgg93
 z127:=Tryz.sizeOf93
 v127:=Tryz.zeroValue93
 t143:=Tryz.underlying302
 a143:=Tryz.isAgg302
 z143:=Tryz.sizeOf302
 v143:=Tryz.zeroValue302
 t145:=Tryz.underlying304
 a145:=Tryz.isAgg304
 z145:=Tryz.sizeOf304
 v145:=Tryz.zeroValue304
 t167:=Tryz.underlying293
 a167:=Tryz.isAgg293
 z167:=Tryz.sizeOf293
 v167:=Tryz.zeroValue293
 t168:=Tryz.underlying296
 a168:=Tryz.isAgg296
 z168:=Tryz.sizeOf296
 v168:=Tryz.zeroValue296
 t171:=Tryz.underlying199
 a171:=Tryz.isAgg199
 z171:=Tryz.sizeOf199
 v171:=Tryz.zeroValue199
 t173:=Tryz.underlying202
 a173:=Tryz.isAgg202
 z173:=Tryz.sizeOf202
 v173:=Tryz.zeroValue202
 t175:=Tryz.underlying294
 a175:=Tryz.isAgg294
 z175:=Tryz.sizeOf294
 v175:=Tryz.zeroValue294
 t210:=Tryz.underlying300
 a210:=Tryz.isAgg300
 z210:=Tryz.sizeOf300
 v210:=Tryz.zeroValue300
 t212:=Tryz.underlying237
 a212:=Tryz.isAgg237
 z212:=Tryz.sizeOf237
 v212:=Tryz.zeroValue237
 t213:=Tryz.underlying238
 a213:=Tryz.isAgg238
 z213:=Tryz.sizeOf238
 t232:=Tryz.underlying283
 a232:=Tryz.isAgg283
 z232:=Tryz.sizeOf283
 v232:=Tryz.zeroValue283
 t233:=Tryz.underlying284
 a233:=Tryz.isAgg284
 z233:=Tryz.sizeOf284
 v233:=Tryz.zeroValue284
 g15:=by kernel_rfl
 g16:=by kernel_rfl
 g17:=by kernel_rfl
 g18:=by kernel_rfl
 g19:=by kernel_rfl
 t80:=Tryz.underlying66
 a80:=Tryz.isAgg66
 z80:=Tryz.sizeOf66
 v80:=Tryz.zeroValue66
 i0:=by kernel_rfl
 i2:=by kernel_rfl
 i3:=by kernel_rfl
 i4:=by kernel_rfl
 i5:=by kernel_rfl
 i9:=by kernel_rfl
 i20:=by kernel_rfl
 i21:=by kernel_rfl
 i37:=by kernel_rfl
 i46:=by kernel_rfl
 i51:=by kernel_rfl
 i53:=by kernel_rfl
 i75:=by kernel_rfl
 i80:=by kernel_rfl
 i85:=by kernel_rfl
 i127:=by kernel_rfl
 i143:=by kernel_rfl
 i145:=by kernel_rfl
 i167:=by kernel_rfl
 i168:=by kernel_rfl
 i171:=by kernel_rfl
 i173:=by kernel_rfl
 i175:=by kernel_rfl
 i210:=by kernel_rfl
 i212:=by kernel_rfl
 i232:=by kernel_rfl
 i233:=by kernel_rfl
 m15:=by kernel_rfl
 m16:=by kernel_rfl
 m17:=by kernel_rfl
 m18:=by kernel_rfl
 m19:=by kernel_rfl
 c0:=by kernel_rfl
 c2:=by kernel_rfl
 c3:=by kernel_rfl
 c4:=by kernel_rfl
 c5:=by kernel_rfl
 c9:=by kernel_rfl
 c20:=by kernel_rfl
 c21:=by kernel_rfl
 c37:=by kernel_rfl
 c46:=by kernel_rfl
 c51:=by kernel_rfl
 c53:=by kernel_rfl
 c75:=by kernel_rfl
 c80:=by kernel_rfl
 c85:=by kernel_rfl
 c127:=by kernel_rfl
 c143:=by kernel_rfl
 c145:=by kernel_rfl
 c167:=by kernel_rfl
 c168:=by kernel_rfl
 c171:=by kernel_rfl
 c173:=by kernel_rfl
 c175:=by kernel_rfl
 c210:=by kernel_rfl
 c212:=by kernel_rfl
 c213:=by kernel_rfl
 c232:=by kernel_rfl
 c233:=by kernel_rfl }
def lays145_ren:Go.Shelf.Ren:=⟨fun|145=>140|220=>173|219=>95|217=>103|225=>132|224=>133|267=>134|266=>142|314=>164|n=>n,fun|9=>9|4=>4|59=>191|3=>3|5=>5|46=>188|146=>221|51=>150|n=>n,fun|1=>0|n=>n⟩
theorem lays145:Go.Proofs.Lays.n145 p_ lays145_ren:={
 mixed:=by kernel_rfl
 f145:=Tryz.func140.trans uSo1
 f217:=Tryz.func103.trans uSo1
 f219:=Tryz.func95.trans uSo1
 f220:=Tryz.func173.trans uSo1
 f224:=Tryz.func133.trans uSo1
 f225:=Tryz.func132.trans uSo1
 f266:=Tryz.func142.trans uSo1
 f267:=Tryz.func134.trans uSo1
 f314:=Tryz.func164.trans uSo1
 t3:=Tryz.underlying3
 a3:=Tryz.isAgg3
 z3:=Tryz.sizeOf3
 v3:=Tryz.zeroValue3
 t4:=Tryz.underlying4
 a4:=Tryz.isAgg4
 z4:=Tryz.sizeOf4
 v4:=Tryz.zeroValue4
 t5:=Tryz.underlying5
 a5:=Tryz.isAgg5
 z5:=Tryz.sizeOf5
 v5:=Tryz.zeroValue5
 t9:=Tryz.underlying9
 a9:=Tryz.isAgg9
 z9:=Tryz.sizeOf9
 v9:=Tryz.zeroValue9
 t46:=Tryz.underlying188
 a46:=Tryz.isAgg188
 z46:=Tryz.sizeOf188
 v46:=Tryz.zeroValue188
 t51:=Tryz.underlying150
 a51:=Tryz.isAgg150
 z51:=Tryz.sizeOf150
 v51:=Tryz.zeroValue150
 t59:=Tryz.underlying191
 a59:=Tryz.isAgg191
 z59:=Tryz.sizeOf191
 v59:=Tryz.zeroValue191
 t146:=Tryz.underlying221
 a146:=Tryz.isAgg221
 z146:=Tryz.sizeOf221
 v146:=Tryz.zeroValue221
 g1:=by kernel_rfl }
end
section
open Go Go.Aw Go.RowKit
def sQ(l:ae):Prop:=∀b∈l,b.toNat<128
def vc(h:sQ l):∀(j:Nat) b,l[j]?=some b→b.toNat<128:=fun j b hb=>h b (gE hb)
variable [bq]
omit [bq] in
def C8[Laid](l m:ae)(hl:l.length≤2^31)(hm:m.length≤2^31)(am:sQ m):bn p_ 138 [.str l,.str m] (.str (Lib.trimLeftS l m)):=by
 have hle:(Lib.trimLeftS l m).length≤l.length:=(List.dropWhile_suffix _).length_le;refine iM (v:=.string ⟨(Lib.trimLeftS l m).toArray⟩) (by simp[aR]) (by simp) (by simp) (fun w=>by simp[maxLen];omega) ?_;intro ι S w vs h1 hg
 match vs,h1 with
 | [],h1=>simp at h1
 | [v],h1=>simp at h1
 | v:: u:: x:: vs,h1=>simp at h1
 | [v,u],h1 =>
   simp only[bN,dq,and_true,eK]at h1;obtain⟨⟨rfl,_⟩,rfl,_⟩:=h1;refine (Any.strings_TrimLeft_laid lays161 (by kernel_rfl) ⟨l.toArray⟩ ⟨m.toArray⟩ w (by simp[ByteArray.size];omega) (fun j b hb=>vc am j b (by simpa using hb))).mono fun e w' q=>by simpa using q
omit [bq] in
def K6[Laid](l m:ae)(hl:l.length≤2^31)(hm:m.length≤2^31)(am:sQ m)(hle:(Lib.trimS l m).length≤2^31):bn p_ 228 [.str l,.str m] (.str (Lib.trimS l m)):=by
 refine iM (v:=.string ⟨(Lib.trimS l m).toArray⟩) (by simp[aR]) (by simp) (by simp) (fun w=>by simp[maxLen];omega) ?_;intro ι S w vs h1 hg
 match vs,h1 with
 | [],h1=>simp at h1
 | [v],h1=>simp at h1
 | v:: u:: x:: vs,h1=>simp at h1
 | [v,u],h1 =>
   simp only[bN,dq,and_true,eK]at h1;obtain⟨⟨rfl,_⟩,rfl,_⟩:=h1;refine (Any.strings_Trim_laid lays160 (by kernel_rfl) ⟨l.toArray⟩ ⟨m.toArray⟩ w (by simp[ByteArray.size];omega) (by simp[ByteArray.size];omega) (fun j b hb=>vc am j b (by simpa using hb))).mono fun e w' q=>by simpa using q
omit [bq] in
def EP[Laid](l m:ae)(hl:l.length≤2^31)(hm:m.length≤2^31)(al:sQ l)(am:sQ m):bn p_ 139 [.str l,.str m] (i_ (Lib.indexAny l m)):=by
 refine iM (v:=.int .i64 (Lib.indexAny l m)) (by simp[aR]) (by simp) (by simp) (fun w=>by simp) ?_;intro ι S w vs h1 hg
 match vs,h1 with
 | [],h1=>simp at h1
 | [v],h1=>simp at h1
 | v:: u:: x:: vs,h1=>simp at h1
 | [v,u],h1 =>
   simp only[bN,dq,and_true,eK]at h1;obtain⟨⟨rfl,_⟩,rfl,_⟩:=h1;refine (DT ⟨l.toArray⟩ ⟨m.toArray⟩ w (by simp[ByteArray.size];omega) (by simp[ByteArray.size];omega) (fun j b hb=>vc al j b (by simpa using hb)) (fun j b hb=>vc am j b (by simpa using hb))).mono fun e w' q=>by simpa using q
omit [bq] in
def vh[Laid](l m:ae)(hl:l.length≤2^31):bn p_ 216 [.str l,.str m] (.aA [.str (Lib.trimPrefix l m),b_ (Lib.hasPrefix l m)]):=by
 have hle:(Lib.trimPrefix l m).length≤l.length:=by unfold Lib.trimPrefix;split<;>simp
 refine iM (v:=.tuple #[.string ⟨(Lib.trimPrefix l m).toArray⟩,.bool (Lib.hasPrefix l m)]) (by simp[aR]) (by simp) (by simp[aR]) (fun w=>by rw[ar];exact⟨[.string ⟨(Lib.trimPrefix l m).toArray⟩,.bool (Lib.hasPrefix l m)],rfl,by simp[maxLen];omega⟩) ?_;intro ι S w vs h1 hg
 match vs,h1 with
 | [],h1=>simp at h1
 | [v],h1=>simp at h1
 | v:: u:: x:: vs,h1=>simp at h1
 | [v,u],h1 =>
   simp only[bN,dq,and_true,eK]at h1;obtain⟨⟨rfl,_⟩,rfl,_⟩:=h1;refine (Any.strings_CutPrefix lays103 ⟨l.toArray⟩ ⟨m.toArray⟩ w).mono ?_;rintro e w' ⟨rfl,rfl⟩;exact⟨rfl,Below.refl _ _⟩
omit [bq] in
def ER[Laid](l:ae)(v:Int)(hl:l.length≤2^31)(h:Lib.parseIntB 64 l=.ok v):bn p_ 229 [.str l,i_ 10,i_ 64] (.aA [i_ v,.v .nilIface]):=by
 refine iM (v:=.tuple #[.int .i64 v,.nilIface]) (by simp[aR]) (by simp) (by simp[aR]) (fun w=>by rw[ar];exact⟨[.int .i64 v,.nilIface],rfl,by simp⟩) ?_;intro ι S w vs h1 hg
 match vs,h1 with
 | [],h1=>simp at h1
 | [v],h1=>simp at h1
 | [v,u],h1=>simp at h1
 | v:: u:: x:: y:: vs,h1=>simp at h1
 | [v,u,x],h1 =>
   simp only[bN,dq,and_true,eK,cD]at h1;obtain⟨⟨rfl,_⟩,rfl,rfl⟩:=h1;refine (Any.strconv_ParseInt_10_at64_ok laysC174 ⟨l.toArray⟩ (by simp[ByteArray.size];omega) _ (by simpa using h) w).mono ?_;rintro e w' ⟨rfl,rfl|⟨t,rfl⟩⟩
   ·exact⟨rfl,Below.refl _ _⟩
   ·exact⟨rfl,Lib.bytesWorld_below _ _ _⟩
end
section
open Go Go.Aw Go.RowKit
/-! ### Plain -/
def oS(b:UInt8):Nat:=b.toNat-48
def iy(l:ae):Nat:=l.foldl (fun n b=>10*n+oS b) 0
def MO(l:ae)(b:UInt8):iy (l++[b])=10*iy l+oS b:=by unfold iy;rw[ab2];rfl
def G1(h:∀b∈l,m.contains b=false):Lib.indexAny l m=-1:=by
 induction l with
 | nil=>rfl
 | cons b l ih =>
   have h1:=ih fun x hx=>h x (Lt _ hx);unfold Lib.indexAny;rw[h b (ack ..),h1];rfl
/-! ### The walk -/
def Kp{K:AV→Prop}(ex:x=i_ a)(ey:y=i_ b)(c:aK (a*b))(q:K (i_ (a*b))):ag .mul x y K:=by subst ex;subst ey;simpa using⟨c,q⟩
def We{K:AV→Prop}(hk:k≠.i64)(ex:x=.v (.int k a))(ey:y=.v (.int k b))(hc:k.wrap (a-b)=c)(q:K (.v (.int k c))):ag .sub x y K:=by
 subst ex;subst ey;subst hc;refine⟨rfl, ?_⟩;unfold qo qC;cases k<;>first|exact q|exact absurd rfl hk
def TW{K:AV→Prop}(ex:x=.str a)(ey:y=.str b)(h:a.length+b.length≤2^40)(q:K (.str (a++b))):ag .add x y K:=by
 subst ex;subst ey;rw[Q9];exact⟨by unfold maxLen;omega,q⟩
def PE{KH:AV→aa→Prop}(ex:x=.str l)(q:KH (.own h.length 0 l.length 1) (h++[.ah ⟨e,l.map bg,true⟩])):jb e x h KH:=by subst ex;exact q
def KB{K:AV→Prop}{id off len sz:Nat}(ex:x=.own id off len sz)(q:K (i_ len)):br x K:=by subst ex;rw[uE];exact fun _=>q
variable [bq]
end
section
open Go.Shelf
theorem uSo3{α:Type}{a b:α}(h:a=b:=by kernel_rfl):some a=some b:=congrArg some h
def lays137_ren:Go.Shelf.Ren:=⟨fun|137=>72|217=>103|266=>142|n=>n,fun|9=>9|5=>5|3=>3|n=>n,fun|n=>n⟩
theorem lays137:Go.Proofs.Lays.n137 p_ lays137_ren:={
 mixed:=by kernel_rfl
 f137:=Tryz.func72.trans uSo3
 f217:=Tryz.func103.trans uSo3
 f266:=Tryz.func142.trans uSo3
 t3:=Tryz.underlying3
 a3:=Tryz.isAgg3
 z3:=Tryz.sizeOf3
 v3:=Tryz.zeroValue3
 t5:=Tryz.underlying5
 a5:=Tryz.isAgg5
 z5:=Tryz.sizeOf5
 v5:=Tryz.zeroValue5
 t9:=Tryz.underlying9
 a9:=Tryz.isAgg9
 z9:=Tryz.sizeOf9
 v9:=Tryz.zeroValue9 }
end
section
open Go Go.Aw Go.RowKit
abbrev wm(k:Int)(t:ae)(n:Int)(u:ae)(f:Bool):AV:=.agg [u8 k,.str t,i_ n,.str u,b_ f]
abbrev cw(k:Int)(t:ae)(n:Int)(u:ae)(f:Bool):aL:=.ah ⟨70,[u8 k,.str t,i_ n,.str u,b_ f],true⟩
def oK{lo hi:Option AV}{a b:Nat}{K:AV→Prop}(ex:x=.str l)(ha:fc lo 0=some (a:Int))(hb:fc hi l.length=some (b:Int))(hab:a≤b)(hl:b≤l.length)(hr:(l.take b).drop a=r)(q:K (.str r)):eW x lo hi K:=by
 subst ex;subst hr;unfold eW;simp only[ha,hb];exact⟨⟨by omega,by omega,by omega⟩,by simpa using q⟩
def qS[Laid]{K:AV→aa→Prop}(hv:H[V]?=some (cw k0 t0 n0 u0 f0))(q:K (wm k t n u f) (H.set V (cw k t n u f))):
 ao 5 (.op V 0) (wm k t n u f) H fun g=>ak true 5 (.op V 0) g fun r=>K r g:=by
 have hlt:=(eQ.1 hv).1;refine aW (cs:=[u8 k,.str t,i_ n,.str u,b_ f]) (h':=H.set V (cw k t n u f)) rfl hv rfl rfl (by simp) rfl (by simp[bT]) rfl ?_;refine zzV (iD hlt) (by simp) ?_;exact q
def K5[Laid](s:ae)(b:UInt8):bn p_ 72 [.str s,bg b] (i_ (Lib.indexByte s b)):=by
 refine iM (v:=.int .i64 (Lib.indexByte s b)) (by simp[aR,bg]) (by simp) (by simp) (fun w=>by simp) ?_;intro ι S w vs h1 hg
 match vs,h1 with
 | [],h1=>simp at h1
 | [v],h1=>simp at h1
 | v:: u:: x:: vs,h1=>simp at h1
 | [v,u],h1 =>
   simp only[bN,dq,and_true,eK,bg,cD]at h1;obtain⟨⟨rfl,_⟩,rfl⟩:=h1;refine (Any.strings_IndexByte lays137 ⟨s.toArray⟩ (b.toNat:Int) w).mono ?_;rintro e w' ⟨rfl,rfl⟩;exact⟨by simp,Below.refl _ _⟩
def bz{id o:Nat}{K:AV→Prop}(q:K (.op id o)):cg P (.op id o) K:=q
structure Tok where
 k:Int
 t:ae
 n:Int
 u:ae
 f:Bool
abbrev Tok.row(x:Tok):List AV:=[u8 x.k,.str x.t,i_ x.n,.str x.u,b_ x.f]
abbrev Tok.av(x:Tok):AV:=wm x.k x.t x.n x.u x.f
abbrev cU(l:List Tok):List (List AV):=l.map Tok.row
def pq(l:List Tok):(cU l).all (dx 5)=true:=CC (f:=Tok.row) (fun x=>⟨rfl,by simp[bT]⟩) l
theorem kX:∀l:List Tok,cJ (cU l)
 | []=>by simp[cJ]
 | x:: l=>by show cJ (x.row:: cU l);rw[cJ];exact⟨by simp[aR],kX l⟩
end
end Go.Proofs.YtpcnidmmkknndaaGreatDoor
namespace Go.Rt
section
open Go
abbrev ae:=List UInt8
def ay(s:ae)(i:Nat):UInt8:=s.getD i 0
def cu(c:UInt8):Bool:=decide (48≤c.toNat)&&decide (c.toNat≤57)
def xB(c:UInt8):UInt8:=if 65≤c.toNat∧c.toNat≤90 then c+32 else c
def ji(c:UInt8):Int:=if cu c=true then (c.toNat:Int)-48 else if 97≤(xB c).toNat∧(xB c).toNat≤102 then ((xB c).toNat:Int)-97+10 else -1
def eU(c:UInt8):Bool:=decide (c=10)||decide (c=9)||decide (c=32)
def qv(c:UInt8):Bool:=(decide (97≤(xB c).toNat)&&decide ((xB c).toNat≤122))||decide (c=95)||decide (128≤c.toNat)
def eX(c:UInt8):Bool:=qv c||cu c||decide (c=45)
def cC(s:ae)(i:Nat):Bool:=decide (ay s i=92)&&!decide (ay s (i+1)=10)
def lS:ae:=[239,191,189]
def sG(n:Nat):ae:=if n=0∨(55296≤n∧n≤57343)∨1114111<n then lS else if n<128 then [UInt8.ofNat n] else if n<2048 then [UInt8.ofNat (192+n/64),UInt8.ofNat (128+n%64)] else if n<65536 then [UInt8.ofNat (224+n/4096),UInt8.ofNat (128+n/64%64),UInt8.ofNat (128+n%64)] else [UInt8.ofNat (240+n/262144),UInt8.ofNat (128+n/4096%64),UInt8.ofNat (128+n/64%64),UInt8.ofNat (128+n%64)]
def kI(s:ae):Nat→Nat→Nat→Nat×Nat
 | 0,i,n=>(n,i)
 | k+1,i,n=>match s[i]? with
   | some c=>if 0≤ji c then kI s k (i+1) (16*n+(ji c).toNat) else (n,i)
   | none=>(n,i)
theorem HU(s:ae):∀k i n,i≤(kI s k i n).2
 | 0,i,n=>Nat.le_refl _
 | k+1,i,n=>by
   rw[kI];split
   ·split
    ·exact Nat.le_trans (Nat.le_succ _) (HU s k _ _)
    ·exact Nat.le_refl _
   ·exact Nat.le_refl _
def cV(s:ae)(i:Nat):ae×Nat:=match s[i+1]? with
 | none=>(lS,i+1)
 | some c=>if ji c<0 then ([c],i+2) else
   let r:=kI s 6 (i+1) 0
   (sG r.1,if eU (ay s r.2)=true then r.2+1 else r.2)
def fi(s:ae)(i:Nat):i<(cV s i).2:=by
 unfold cV;split
 ·exact Nat.lt_succ_self _
 ·split
  ·exact Nat.lt_succ_of_lt (Nat.lt_succ_self _)
  ·have:=HU s 6 (i+1) 0;dsimp only;split<;>omega
def gd(s:ae)(i:Nat):Bool:=if ay s i=45 then qv (ay s (i+1))||decide (ay s (i+1)=45)||cC s (i+1) else qv (ay s i)||cC s i
def cZ(s:ae)(i:Nat):ae×Nat:=
 if h:i<s.length then
  if eX s[i]=true then let r:=cZ s (i+1);(s[i]:: r.1,r.2)
  else if cC s i=true then let r:=cZ s (cV s i).2;((cV s i).1++r.1,r.2)
  else ([],i)
 else ([],i)
termination_by s.length-i
decreasing_by
 ·omega
 ·have:=fi s i;omega
def kL(s:ae)(i:Nat):Bool:=
 let j:=if ay s i=43∨ay s i=45 then i+1 else i
 cu (ay s (if ay s j=46 then j+1 else j))
def gW(s:ae)(i:Nat):Nat:=i+((s.drop i).takeWhile cu).length
def iP(s:ae)(i:Nat):Nat×Bool:=
 let i1:=gW s (if ay s i=43∨ay s i=45 then i+1 else i)
 let r:=if ay s i1=46∧cu (ay s (i1+1))=true then (gW s (i1+1),false) else (i1,true)
 if ay s r.1=101∨ay s r.1=69 then
  let k:=if ay s (r.1+1)=43∨ay s (r.1+1)=45 then r.1+2 else r.1+1
  if cu (ay s k)=true then (gW s k,false) else r
 else r
def tK(most:Nat):Nat→Nat→Nat
 | 0,n=>n
 | p+1,n=>if 0<n∧n<most then tK most p (min most (10*n)) else n
def kM(x:ae)(r:Option ae×Nat):Option ae×Nat:=(r.1.map (x++·),r.2)
def gL(mark:UInt8)(s:ae)(i:Nat):Option ae×Nat:=
 if h:i<s.length then
  if s[i]=mark then (some [],i+1)
  else if s[i]=10 then (none,i)
  else if s[i]=92 then
   if i+1=s.length then (some [],i+1)
   else if ay s (i+1)=10 then gL mark s (i+2)
   else kM (cV s i).1 (gL mark s (cV s i).2)
  else kM [s[i]] (gL mark s (i+1))
 else (some [],i)
termination_by s.length-i
decreasing_by
 ·omega
 ·have:=fi s i;omega
 ·omega
def dU(s:ae)(i:Nat):Nat:=i+((s.drop i).takeWhile eU).length
def lO(s:ae)(i:Nat):Nat:=
 if h:i<s.length then
  if s[i]=41 then i+1
  else if cC s i=true then lO s (cV s i).2 else lO s (i+1)
 else min s.length (i+1)
termination_by s.length-i
decreasing_by
 ·have:=fi s i;omega
 ·omega
def GJ(c:UInt8):Bool:=decide (c.toNat≤8)||decide (c.toNat=11)||(decide (14≤c.toNat)&&decide (c.toNat≤31))||decide (c.toNat=127)
def iU(s:ae)(i:Nat):Option ae×Nat:=
 if h:i<s.length then
  if s[i]=41 then (some [],i+1)
  else if eU s[i]=true then
   if dU s i<s.length∧ay s (dU s i)≠41 then (none,lO s (dU s i)) else (some [],min s.length (dU s i+1))
  else if s[i]=34∨s[i]=39∨s[i]=40∨GJ s[i]=true∨(s[i]=92∧cC s i=false) then (none,lO s i)
  else if s[i]=92 then kM (cV s i).1 (iU s (cV s i).2)
  else kM [s[i]] (iU s (i+1))
 else (some [],min s.length (i+1))
termination_by s.length-i
decreasing_by
 ·have:=fi s i;omega
 ·omega
def xJ:ae:=[117,114,108]
def mh:ae:=[58,59,44,91,93,40,41,123,125]
def hasB(s:ae)(i:Nat)(x:ae):Bool:=decide ((s.drop i).take x.length=x)
def lP(s:ae)(i:Nat):Nat:=if h:i<s.length then (if hasB s i [42,47]=true then i+2 else lP s (i+1)) else s.length
termination_by s.length-i
theorem ux(s:ae)(i:Nat):min s.length i≤lP s i:=by
 rw[lP];split
 ·split
  ·omega
  ·have:=ux s (i+1);omega
 ·omega
termination_by s.length-i
def fe(s:ae)(i:Nat):Nat:=if h:i<s.length∧hasB s i [47,42]=true then fe s (lP s (i+2)) else i
termination_by s.length-i
decreasing_by
 have:=ux s (i+2);omega
end
end Go.Rt
namespace Go.dN
section
open Go Go.Aw
abbrev ae:=List UInt8
inductive Vl where
 | mk (kind:Int) (text:ae) (num:Int) (unit:ae) (flag:Bool) (list:List Vl)
def Vl.kind:Vl→Int|.mk k _ _ _ _ _=>k
def Vl.text:Vl→ae|.mk _ t _ _ _ _=>t
def Vl.num:Vl→Int|.mk _ _ n _ _ _=>n
def Vl.unit:Vl→ae|.mk _ _ _ u _ _=>u
def Vl.flag:Vl→Bool|.mk _ _ _ _ f _=>f
def Vl.list:Vl→List Vl|.mk _ _ _ _ _ l=>l
abbrev u1(n:Int):AV:=.v (.int .u8 n)
mutual
def jB:Vl→List AV
 | .mk k t n u f l=>[u1 k,.str t,i_ n,.str u,b_ f,.sl 6 (cE l)]
def cE:List Vl→List (List AV)
 | []=>[]
 | v:: l=>jB v:: cE l
end
theorem eG:∀l,cE l=l.map jB
 | []=>by simp[cE]
 | p:: l=>by simp[cE,eG l]
def lK(v:Vl):jB v=[u1 v.kind,.str v.text,i_ v.num,.str v.unit,b_ v.flag,.sl 6 (v.list.map jB)]:=by
 cases v;simp[jB,eG,Vl.kind,Vl.text,Vl.num,Vl.unit,Vl.flag,Vl.list]
mutual
theorem P8:∀x:Vl,aR (jB x)
 | .mk k t n u f l=>by simp[jB,aR,Aw.Pure,lG l]
theorem lG:∀l:List Vl,cJ (cE l)
 | []=>by simp[cE,cJ]
 | v:: l=>by simp[cE,cJ,P8 v,lG l]
end
def bZ(k:Int):Int:=if k=2 then 22 else if k=19∨k=21∨k=23 then k+1 else 0
mutual
def pH:Vl→Nat
 | .mk k _ _ _ _ l=>if bZ k=0 then 0 else di l+1
def di:List Vl→Nat
 | []=>0
 | v:: l=>max (pH v) (di l)
end
mutual
def oq:Vl→Nat
 | .mk k _ _ _ _ l=>if bZ k=0 then 1 else aw l+2
def aw:List Vl→Nat
 | []=>0
 | v:: l=>oq v+aw l
end
mutual
def wV(c:Int):Vl→Bool
 | .mk k _ _ _ _ l=>!decide (c=0)&&decide (k=c)||(if bZ k=0 then !l.isEmpty else eP (bZ k) l)
def eP(c:Int):List Vl→Bool
 | []=>false
 | v:: l=>wV c v||eP c l
end
def je(l:List Vl):Int:=if 16<di l then 20 else if 1500<aw l then 4 else if eP 0 l then 8 else 0
/-! ### A size -/
mutual
def zV:Vl→Nat
 | .mk _ t _ u _ l=>1+t.length+u.length+bV l
def bV:List Vl→Nat
 | []=>0
 | v:: l=>zV v+bV l
end
theorem WA:∀v,0<zV v
 | .mk _ _ _ _ _ _=>by rw[zV];omega
def uY(h:v∈l):zV v≤bV l:=by
 induction l with
 | nil=>cases h
 | cons y l ih =>
   rw[bV];rcases ID.1 h with rfl|h
   ·omega
   ·have:=ih h;omega
theorem mQ:∀l:List Vl,l.length≤bV l
 | []=>by simp
 | v:: l=>by have:=mQ l;have:=WA v;rw[bV,abL];omega
mutual
theorem Qz:∀v,oq v≤2*zV v
 | .mk k t n u f l=>by
   have:=ve l;rw[oq,zV];split<;>omega
theorem ve:∀l,aw l≤2*bV l
 | []=>by simp[aw]
 | v:: l=>by have:=Qz v;have:=ve l;rw[aw,bV];omega
end
mutual
theorem N5:∀v,pH v≤zV v
 | .mk k t n u f l=>by
   have:=tc l;rw[pH,zV];split<;>omega
theorem tc:∀l,di l≤bV l
 | []=>by simp[di]
 | v:: l=>by have:=N5 v;have:=tc l;rw[di,bV];omega
end
theorem qm:∀a b:List Vl,di (a++b)=max (di a) (di b)
 | [],b=>by simp[di]
 | v:: a,b=>by simp[di,qm a b,Nat.max_assoc]
theorem cB:∀a b:List Vl,aw (a++b)=aw a+aw b
 | [],b=>by simp[aw]
 | v:: a,b=>by simp[aw,cB a b,Nat.add_assoc]
theorem rI(c:Int):∀a b:List Vl,eP c (a++b)=(eP c a||eP c b)
 | [],b=>by simp[eP]
 | v:: a,b=>by simp[eP,rI c a b,Bool.or_assoc]
theorem mP:∀a b:List Vl,bV (a++b)=bV a+bV b
 | [],b=>by simp[bV]
 | v:: a,b=>by simp[bV,mP a b,Nat.add_assoc]
section
variable {l:List Vl} {k:Nat} {v:Vl}
def GZ(h:l[k]?=some v):di (l.take (k+1))=max (di (l.take k)) (pH v):=by
 rw[By,h,qm];simp[di]
def Jt(h:l[k]?=some v):aw (l.take (k+1))=aw (l.take k)+oq v:=by
 rw[By,h,cB];simp[aw]
def Jo(c:Int)(h:l[k]?=some v):eP c (l.take (k+1))=(eP c (l.take k)||wV c v):=by
 rw[By,h,rI];simp[eP]
end
def pT(l:List Vl)(k:Nat):bV (l.take k)≤bV l:=by
 have:=mP (l.take k) (l.drop k);rw[List.take_append_drop]at this;omega
end
end Go.dN
namespace Go.Proofs.YtpcnidmmkknndaaGreatDoor
section
open Go Go.Aw Go.dN Go.bu
/-! ### Blocks -/
def gF(o:Tok)(l:List Vl):Vl:=.mk o.k o.t o.n o.u o.f l
def gf(t:Tok)(c:List Vl):List (Tok×List Vl)→Option (List Vl×List (Tok×List Vl))
 | []=>if bZ t.k≠0 then some ([],[(t,c)]) else some (c++[gF t []],[])
 | (o,b):: s=>if t.k=bZ o.k then some (b++[gF o c],s)
  else if bZ t.k≠0 then (if s.length+1=16 then none else some ([],(t,c):: (o,b):: s)) else some (c++[gF t []],(o,b):: s)
def oD(c:List Vl):List (Tok×List Vl)→List Vl
 | []=>c
 | (o,b):: s=>oD (b++[gF o c]) s
def gJ:List Tok→List Vl→List (Tok×List Vl)→Option (List Vl×List (Tok×List Vl))
 | [],c,s=>some (c,s)
 | t:: l,c,s=>match gf t c s with|some (c,s)=>gJ l c s|none=>none
def iv(l:List Tok):List Vl×Int:=if 1500<l.length then ([],4) else match gJ l [] [] with
 | none=>([],20)
 | some (c,s)=>if 1500<l.length+s.length then ([],4) else (oD c s,0)
/-! ### Progressions -/
def dJ:List Tok→List Tok
 | []=>[]
 | t:: r=>if t.k=13 then dJ r else t:: r
def lj(k:Int):List Tok→Option (Tok×List Tok)
 | []=>none
 | t:: r=>if t.k=k then some (t,r) else none
def iT:List Tok→Int×List Tok
 | []=>(0,[])
 | t:: r=>if t.k=9∧t.t=[43] then (1,r) else if t.k=9∧t.t=[45] then (-1,r) else (0,t:: r)
def dc(l:List Tok):(Int×Bool)×List Tok:=match lj 10 l with
 | some (t,r)=>((t.n.tdiv 1000,t.f&&decide (t.n.tmod 1000=0)),r)
 | none=>((0,false),l)
def jQ:ae:=[48,49,50,51,52,53,54,55,56,57]
def bS(s:ae):ae:=s.map bu.dX
def EB(w:ae)(l:List Tok):(Int×Bool)×List Tok:=
 if w=[45] then dc (dJ l)
 else if w≠[] then (if Lib.hasPrefix w [45]=false∨Lib.trimS (Lib.trimPrefix w [45]) jQ≠[] then ((0,false),l) else ((-((min (iy (Lib.trimPrefix w [45])) 1000000000:Nat):Int),true),l))
 else match dJ l with
  | []=>((0,true),[])
  | t:: r=>let s:=iT (t:: r);let w:=dc (dJ s.2)
    if s.1=0 then w else ((s.1*w.1.1,w.1.2&&decide (0≤w.1.1)),w.2)
def fP(w:ae)(l:List Tok):(Int×Bool)×List Tok:=
 if w=[45] then (let r:=dc (dJ l);((-1*r.1.1,r.1.2&&decide (0≤r.1.1)),r.2)) else EB w l
def ib(l:List Tok):((Int×Int)×Bool)×List Tok:=
 let w:=dc l
 if w.1.2=true then (((0,w.1.1),true),w.2)
 else match lj 12 w.2 with
  | some (t,r)=>if Lib.hasPrefix (bS t.u) [110]=true∧t.f=true∧t.n.tmod 1000=0 then
   (let b:=fP (Lib.trimPrefix (bS t.u) [110]) r;(((t.n.tdiv 1000,b.1.1),b.1.2),b.2)) else (((0,0),false),r)
  | none=>let s:=iT w.2
    match lj 1 s.2 with
    | none=>(((0,0),false),s.2)
    | some (t,r)=>if s.1<0 then (((0,0),false),r) else
      let m:=bS t.t
      if s.1=0∧m=[111,100,100] then (((2,1),true),r)
      else if s.1=0∧m=[101,118,101,110] then (((2,0),true),r)
      else
       let neg:Bool:=decide (s.1=0)&&Lib.hasPrefix m [45]
       let q:=if neg=true then Lib.trimPrefix m [45] else m
       if Lib.hasPrefix q [110]=true then (let b:=fP (Lib.trimPrefix q [110]) r;((((if neg=true then -1 else 1:Int),b.1.1),b.1.2),b.2)) else (((0,0),false),r)
def kr(n:Int):Bool:=decide (-1000000000≤n)&&decide (n≤1000000000)
def sO(l:List Tok):Option (Int×Int):=
 let r:=ib (dJ l)
 if r.1.2=true∧dJ r.2=[]∧kr r.1.1.1=true∧kr r.1.1.2=true then some r.1.1 else none
/-! ### Selectors -/
def bW:List Vl→List Vl
 | []=>[]
 | v:: r=>if v.kind=13 then bW r else v:: r
def gU(c:UInt8):List Vl→Option (List Vl)
 | []=>none
 | v:: r=>if v.kind=9∧v.text=[c] then some r else none
def gV(v:List Vl):Int×List Vl:=match gU 62 v with
 | some r=>(2,bW r)
 | none=>match gU 43 v with
   | some r=>(3,bW r)
   | none=>match gU 126 v with
     | some r=>(4,bW r)
     | none=>(0,v)
def dm(k:Int)(n:ae):Sm:=.mk k n 0 [] false 0 0 false []
def dF(n:ae)(o:Int)(w:ae)(f:Bool):Sm:=.mk 3 n o w f 0 0 false []
def pn:ae:=[126,124,94,36,42]
def zY(n:ae)(o:Int)(w:ae):List Vl→Sm×Bool
 | []=>(dF n o w false,true)
 | f:: r=>if f.kind=1 then (dF n o w (decide (bS f.text=[105])),(bW r).isEmpty&&(decide (bS f.text=[105])||decide (bS f.text=[115]))) else (dF n o w false,false)
def rH(n:ae)(o:Int):List Vl→Sm×Bool
 | []=>(dF n o [] false,false)
 | t:: r=>if t.kind=1∨t.kind=5 then zY n o t.text (bW r) else (dF n o [] false,false)
def og(n:ae)(q:List Vl):Sm×Bool:=match q with
 | []=>(dF n 0 [] false,true)
 | t:: r=>match gU 61 (t:: r) with
   | some r=>rH n 1 (bW r)
   | none=>if t.kind=9∧0≤Lib.index pn t.text then (match gU 61 r with
     | some r=>rH n (2+Lib.index pn t.text) (bW r)
     | none=>(dF n 0 [] false,false)) else (dF n 0 [] false,false)
def jA(v:List Vl):Sm×Bool:=match bW v with
 | []=>(dF [] 0 [] false,false)
 | t:: r=>if t.kind=1 then og (bS t.text) (bW r) else (dF (bS t.text) 0 [] false,false)
def dt:List ae:=[[108,105,110,107],[118,105,115,105,116,101,100],[97,110,121,45,108,105,110,107],[114,111,111,116],[101,109,112,116,121],[110,116,104,45,99,104,105,108,100],[110,116,104,45,108,97,115,116,45,99,104,105,108,100],[105,115],[119,104,101,114,101],[110,111,116],[104,97,115]]
def gY(l:List ae)(s:ae):Int:=match l.idxOf? s with|some i=>(i:Int)|none=>-1
def kz(s:ae):Sm×Bool:=
 if bS s=[102,105,114,115,116,45,99,104,105,108,100] then (.mk 9 [] 0 [] false 0 1 false [],true)
 else if bS s=[108,97,115,116,45,99,104,105,108,100] then (.mk 10 [] 0 [] false 0 1 false [],true)
 else (dm (4+max (gY dt (bS s)) 0) [],decide (0≤gY dt (bS s))&&decide (gY dt (bS s)<5))
def Pe(v:Vl):Tok:=⟨v.kind,v.text,v.num,v.unit,v.flag⟩
mutual
def jH:Vl→List Tok
 | .mk k t n u f l=>⟨k,t,n,u,f⟩:: (if bZ k=0 then [] else bO l++[⟨bZ k,[],0,[],false⟩])
def bO:List Vl→List Tok
 | []=>[]
 | v:: l=>jH v++bO l
end
abbrev Sub:=Int→List Vl→Bool→Bool→Option (List Cx×Bool)
def mW(k:Int)(w:Bool)(l:List Cx)(v:List Vl):Sm×Bool:=if je v=0 then (match sO (bO v) with
 | some (a,b)=>(.mk k [] 0 [] false a b w l,true)
 | none=>(.mk k [] 0 [] false 0 0 w l,false)) else (.mk k [] 0 [] false 0 0 w l,false)
def ir(v:Vl):Bool:=decide (v.kind=1)&&decide (bS v.text=[111,102])
def si(sub:Sub)(k:Int)(v:List Vl):Sm×Bool:=match v.findIdx? ir with
 | some i=>(match sub k (v.drop (i+1)) false false with
   | some (l,true)=>mW k true l (v.take i)
   | _=>(dm k [],false))
 | none=>mW k false [] v
def lu(sub:Sub)(s:ae)(v:List Vl):Sm×Bool:=
 let i:=gY dt (bS s)
 if i<5 then (dm 0 [],false)
 else if i<7 then si sub (4+i) v
 else match sub (4+i) v (decide (4+i=14)) (decide (4+i≤12)) with
  | none=>(dm (4+i) [],false)
  | some (l,b)=>(.mk (4+i) [] 0 [] false 0 0 false l,b)
def ij(x:Sm):Option (List Sm×List Vl)→Option (List Sm×List Vl)
 | some (l,r)=>some (x:: l,r)
 | none=>none
def cY(fn:ae→List Vl→Sm×Bool):List Vl→Option (List Sm×List Vl)
 | []=>some ([],[])
 | t:: r =>
   if t.kind=4 then (if t.flag=true then ij (dm 1 t.text) (cY fn r) else none)
   else if t.kind=9∧t.text=[46] then (match r with
    | []=>none
    | u:: q=>if u.kind=1 then ij (dm 2 u.text) (cY fn q) else none)
   else if t.kind=19 then (if (jA t.list).2=true then ij (jA t.list).1 (cY fn r) else none)
   else if t.kind=16 then (match r with
    | []=>none
    | u:: q=>if u.kind=1 then (if (kz u.text).2=true then ij (kz u.text).1 (cY fn q) else none)
      else if u.kind=2 then (if (fn u.text u.list).2=true then ij (fn u.text u.list).1 (cY fn q) else none) else none)
   else some ([],t:: r)
def cL:List Vl→ae×List Vl
 | []=>([],[])
 | t:: r=>if t.kind=1 then (bS t.text,r) else match gU 42 (t:: r) with|some r=>([42],r)|none=>([],t:: r)
def gw(fn:ae→List Vl→Sm×Bool)(ok:Cp→Bool)(lead:Int):Nat→List Cp→List Int→List Vl→Cx×Bool
 | 0,ps,cs,_=>(.mk lead ps cs,false)
 | n+1,ps,cs,v=>match cY fn (cL v).2 with
   | none=>(.mk lead ps cs,false)
   | some (ss,r)=>if ok (.mk (cL v).1 ss)=true then
    (if bW r=[] then (.mk lead (ps++[.mk (cL v).1 ss]) cs,decide (ps.length+1≤64))
    else if (gV (bW r)).1=0 then
     (if (bW r).length=r.length then (.mk lead (ps++[.mk (cL v).1 ss]) cs,false) else gw fn ok lead n (ps++[.mk (cL v).1 ss]) (cs++[1]) (gV (bW r)).2)
    else gw fn ok lead n (ps++[.mk (cL v).1 ss]) (cs++[(gV (bW r)).1]) (gV (bW r)).2)
    else (.mk lead ps cs,false)
def nj(fn:ae→List Vl→Sm×Bool)(ok:Cp→Bool)(rel:Bool)(v:List Vl):Cx×Bool:=
 let c:=gV (bW v)
 if rel=true then gw fn ok (if c.1=0 then 1 else c.1) (c.2.length+1) [] [] c.2 else gw fn ok 0 ((bW v).length+1) [] [] (bW v)
def fh:List Vl→List (List Vl)
 | []=>[[]]
 | v:: r=>if v.kind=18 then []:: fh r else match fh r with
   | h:: t=>(v:: h):: t
   | []=>[[v]]
def ia(cp:List Vl→Cx×Bool)(forg:Bool):List (List Vl)→List Cx→List Cx×Bool
 | [],acc=>(acc,true)
 | p:: ps,acc=>if (cp p).2=true then ia cp forg ps (acc++[(cp p).1]) else if forg=true then ia cp forg ps acc else ([],false)
def mU:Nat→Bool→List Vl→Bool→Bool→List Cx×Bool
 | 0,has,v,rel,forg=>ia (nj (lu fun _ _ _ _=>none) (cS 3 has) rel) forg (fh v) []
 | k+1,has,v,rel,forg=>ia (nj (lu fun kd v rel forg=>if has=true∧kd=14 then none else some (mU k (has||decide (kd=14)) v rel forg)) (cS (3-(k+1)) has) rel) forg (fh v) []
def Iy(v:List Vl):List Cx×Int:=if je v=0 then (let r:=mU 3 false v false false
 if r.2=true then (if 64<number r.1 then ([],4) else (r.1,0)) else ([],12)) else ([],je v)
end
end Go.Proofs.YtpcnidmmkknndaaGreatDoor
namespace Go.Aw
section
open Go Go.RowKit
def Fy{p:Nat→Prop}(h:∃k,p k):∃k,p k∧∀j,p j→k≤j:=by
 obtain⟨k,hk⟩:=h;induction k using Nat.strongRecOn with
 | _ k ih =>
   by_cases q:∃j,j<k∧p j
   ·obtain⟨j,hj,pj⟩:=q;exact ih j hj pj
   ·exact⟨k,hk,fun j pj=>Nat.le_of_not_lt fun z=>q ⟨j,z,pj⟩⟩
open Classical in
def A7(p:Nat→Prop):Nat:=if h:∃k,p k then Classical.choose (Fy h) else 0
def yP{p:Nat→Prop}(h:∃k,p k):p (A7 p)∧∀j,p j→A7 p≤j:=by
 unfold A7;rw[dif_pos h];exact Classical.choose_spec (Fy h)
theorem DU{Q:Exit→Act→World→Prop}{c rest:Code}(l:Nat)(J:Nat→Act→World→Prop)(hf:findLabel c l=some rest)(first:c.wp P (Exit.jump l (fun a w=>∃k,J k a w) Q) a w)
 (pass:∀k a w,J k a w→rest.wp P (Exit.jump l (fun a' w' => ∃k',k'<k∧J k' a' w') Q) a w):(Code.scope c).wp P Q a w:=by
 refine wp_scope_jumps l (fun a w=>∃k,J k a w) (fun a w=>A7 fun k=>J k a w) hf first fun a w h=>?_
 obtain⟨h1,h2⟩:=yP h;refine wp_mono (pass _ a w h1) fun e a' w' z=>?_;cases e with
 | goto l' =>
   obtain⟨rfl,k',hk,hJ⟩:=z;exact⟨rfl,⟨k',hJ⟩,Nat.lt_of_le_of_lt ((yP (p:=fun k=>J k a' w') ⟨k',hJ⟩).2 k' hJ) hk⟩
 | normal=>exact z
 | exit id=>exact z
 | ret=>exact z
 | panic ch=>exact z
 | outgrown=>exact z
end
section
open Go Go.RowKit
variable [Laid]
section
variable {P:Program} {ops:Array Oper} {n:Nat} {Lo Fe Ee Ge:Nat→Bool} {B:Nat→Prop}
def Oq(e:nY f f'):aG f=aG f':=by
 funext x
 cases x with
 | tmp t=>exact e t
 | _=>rfl
theorem B7{Z:Fr→aa→Prop}(hZ:∀f f' h,nY f f'→Z f h→Z f' h):∀(l:List Nat) {f f':Fr} {h:aa},nY f f'→ko P ops n Lo Fe Ee Ge B Z l f h→ko P ops n Lo Fe Ee Ge B Z l f' h
 | [],f,f',h,e,q=>hZ _ _ _ e q
 | i:: l,f,f',h,e,q=>by
   simp only[ko]at q ⊢;cases ho:ops[i]? with
   | none=>rw[ho]at q;exact q.elim
   | some o =>
     rw[ho]at q;simp only at q ⊢;rcases q with⟨hl,hg,own,K0,q,k⟩|⟨hl,x,hy,hf,hee,q⟩
     ·exact .inl ⟨hl,hg,own,K0,by rw[←Oq e];exact q,fun v h' z=>⟨(k v h' z).1,B7 hZ l (e.set n o.dst v) (k v h' z).2⟩⟩
     ·exact .inr ⟨hl,x,hy.same fun t _=>(e t).symm,fun z h' => (hf z h').same fun t _=>(e t).symm,fun z h' hl=>(hee z h' hl).same fun t _=>(e t).symm,B7 hZ l (e.set n o.dst x) q⟩
def DY(P:Program)(ops:Array Oper)(i:Nat):Bool:=match ops[i]? with|some o=>vu P false o.op&&vu P true o.op|none=>false
def Su{fr:Fr}(ho:ops[i]?=some o)(hf:DY P ops i=true)(hy:YA P ops h o x fr)(h':aa):YA P ops h' o x fr:=by
 unfold DY at hf;rw[ho]at hf;simp only[NO]at hf;rcases hy with⟨w,own,q⟩|r
 ·refine .inl ⟨w,own,w8 ?_ q⟩;cases own
  ·exact hf.1
  ·exact hf.2
 ·exact .inr r
theorem LF{Z:Fr→aa→Prop}:∀(l:List Nat) (fr:Fr),(∀i∈l,i<ops.size∧Lo i=false∧Ee i=false∧(Fe i=true→DY P ops i=true))→lY P ops n h (fun fr=>ko P ops n Lo Fe Ee Ge B Z r fr h) (ke ops l) fr→ko P ops n Lo Fe Ee Ge B Z (l++r) fr h
 | [],fr,_,q=>q
 | i:: l,fr,hl,q=>by
   obtain⟨h1,h2,h3,h4⟩:=hl i (by simp);have ho:ops[i]?=some ops[i]:=UP h1;rw[oC ho]at q;obtain⟨x,hy,q⟩:=q;simp only[acs,ko,ho];exact .inr ⟨h2,x,hy,fun z h' => Su ho (h4 z) hy h',fun (z:Ee i=true)=>(by rw[h3]at z;cases z),LF l _ (fun j hj=>hl j (by simp[hj])) q⟩
theorem ma{K:Fr→aa→Prop}:∀(l:List (Nat×Nat×Bool)) (fr:Fr) (h:aa),(∀p∈l,(∀o,ops[p.1]?=some o→o.guard=none)∧(Lo p.1=(match p.2.1 with|0=>false|1=>false|3=>false|_=>true))∧(Fe p.1=true→p.2.1=0)∧(Ee p.1=true→p.2.1=3)∧(Ge p.1=true→p.2.1=4∨(p.2.1≠4∧∃o,ops[p.1]?=some o∧Au o.op=true))) →
 rK P ops n l fr h K→ko P ops n Lo Fe Ee Ge (fun _=>True) K (l.map (·.1)) fr h
 | [],fr,h,_,q=>q
 | (i,k,own):: l,fr,h,hk,q=>by
  obtain⟨hg,hlo,hfe,hee,hge⟩:=hk (i,k,own) (by simp);dsimp only at hg hlo hfe hee hge;have hk':=fun p (hp:p∈l)=>hk p (by simp[hp]);simp only[rK]at q;simp only[GO,ko];cases ho:ops[i]? with
  | none=>rw[ho]at q;exact q.elim
  | some o =>
    rw[ho]at q;simp only at q ⊢;have hw:∀fr,gM ops o fr=some true:=fun fr=>by unfold gM;rw[hg o ho]
    split at q
    ·obtain⟨x,q1,q2⟩:=uw q;refine .inr ⟨hlo,x,.inl ⟨hw fr,own,by simpa using q1 h⟩,fun _ h' => .inl ⟨hw fr,own,by simpa using q1 h'⟩,fun (z:Ee i=true)=>(by have:=hee z;cases this),ma l _ h hk' q2⟩
    ·obtain⟨x,q1,q2⟩:=rh q;refine .inr ⟨hlo,x,.inl ⟨hw fr,own,q1⟩,fun (z:Fe i=true)=>(by have:=hfe z;cases this),fun (z:Ee i=true)=>(by have:=hee z;cases this),ma l _ h hk' q2⟩
    ·obtain⟨x,q1,q2⟩:=vG (B:=fun _=>True) (own:=own) (fun _ _ _ _ _ _=>trivial) q;refine .inr ⟨hlo,x,.inl ⟨hw fr,own,q1 h (fA.refl _)⟩,fun (z:Fe i=true)=>(by have:=hfe z;cases this),fun _ h' hl=>.inl ⟨hw fr,own,q1 h' hl⟩,ma l _ h hk' q2⟩
    ·obtain⟨hgr,q⟩:=aY q;exact .inl ⟨hlo,hg o ho,own,_,Hj hgr q,fun v h' k=>⟨fun _=>k.1,ma l _ h' hk' k.2⟩⟩
    ·rename_i h0 h1 h3 h4;have hlo:Lo i=true:=by
      rw[hlo];split
      ·exact absurd rfl h0
      ·exact absurd rfl h1
      ·exact absurd rfl h3
      ·rfl
     cases hex:Au o.op with
     | true=>exact .inl ⟨hlo,hg o ho,own,_,wi hex q,fun v h' k=>⟨fun _=>by obtain⟨⟨e,rfl⟩,_⟩:=k;exact fA.ext _ _,ma l _ h' hk' k.2⟩⟩
     | false =>
       have hge:Ge i=true→False:=fun z=>by
        rcases hge z with z|⟨_,o2,z1,z2⟩
        ·exact absurd z h4
        ·rw[ho]at z1;cases z1;rw[hex]at z2;cases z2
       exact .inl ⟨hlo,hg o ho,own,_,q,fun v h' k=>⟨fun z=>(hge z).elim,ma l _ h' hk' k⟩⟩
theorem xl{Z Z':Fr→aa→Prop}(hZ:∀f h,Z f h→Z' f h):∀(l:List Nat) {f:Fr} {h:aa},ko P ops n Lo Fe Ee Ge B Z l f h→ko P ops n Lo Fe Ee Ge B Z' l f h
 | [],f,h,q=>hZ _ _ q
 | i:: l,f,h,q=>by
   simp only[ko]at q ⊢;cases ho:ops[i]? with
   | none=>rw[ho]at q;exact q.elim
   | some o =>
     rw[ho]at q;simp only at q ⊢;rcases q with⟨hl,hg,own,K0,q,k⟩|⟨hl,x,hy,hf,hee,q⟩
     ·exact .inl ⟨hl,hg,own,K0,q,fun v h' z=>⟨(k v h' z).1,xl hZ l (k v h' z).2⟩⟩
     ·exact .inr ⟨hl,x,hy,hf,hee,xl hZ l q⟩
theorem tR{m:Nat}{Z:Fr→aa→Prop}{Q':Exit→St→Prop}(hZ:∀fr h,Z fr h→∃f2,nY fr f2∧Q' .normal ⟨n,f2,h⟩):∀(fuel:Nat) (listed:Array Bool) (base:Nat) (ι:List Ix) (S:aZ) (a:Act) (w:World) (fr:Fr) (h:aa),
 m≤h.length→cd base ι S a w ⟨n,fr,h⟩→tN P ops n Lo Ge B Z fuel listed fr h→wpAny P .any ops (dy m base ι S w Q') fuel listed a w
 | 0,listed,base,ι,S,a,w,fr,h,hm,hr,q=>by
   rw[q.1];obtain⟨f2,e,k⟩:=hZ fr h q.2;exact⟨tq,ι,S,⟨n,f2,h⟩,bU.refl _ _ _ _ _,hm,⟨hr.df,hr.sz,fun u=>by rw[←e u];exact hr.fr u,hr.hp⟩,k⟩
 | fuel+1,listed,base,ι,S,a,w,fr,h,hm,hr,q=>by
   have hm':m≤ι.length:=by rw[hr.hp.len];exact hm
   refine⟨fun e=>absurd e q.1,fun i hi=>?_⟩;rcases q.2 i hi with⟨_,k⟩|⟨_,k⟩
   ·refine F8 (m:=m) hm' hr (fun ι' S' a' w' fr' h' hl hE hr' k=>?_) k;have:=tR (m:=m) (Q':=Q') hZ fuel (listed.setIfInBounds i true) base ι' S' a' w' fr' h' (by omega) hr' k;exact dW (fun e a w z=>dy.trans hE z) _ _ _ _ this
   ·refine zu (m:=m) hm' hr (fun ι' S' a' w' fr' hE hr' k=>?_) k;have:=tR (m:=m) (Q':=Q') hZ fuel (listed.setIfInBounds i true) base ι' S' a' w' fr' h hm hr' k;exact dW (fun e a w z=>dy.trans hE z) _ _ _ _ this
end
def xg(l:List dh):List Nat:=(l.map dh.ix).flatten
def Il(l:List dh)(s:List (Nat×Nat×Bool))(j:Nat):Bool:=match (xg l).contains j with|true=>false|false=>kR s j
def HK(P:Program)(ops:Array Oper)(l:List dh)(s:List (Nat×Nat×Bool))(j:Nat):Bool:=match (xg l).contains j with|true=>DY P ops j|false=>tj s j
def HI(l:List dh)(s:List (Nat×Nat×Bool))(j:Nat):Bool:=match (xg l).contains j with|true=>false|false=>ti s j
def Lp(ops:Array Oper)(l:List dh)(s:List (Nat×Nat×Bool))(j:Nat):Bool:=match (xg l).contains j with|true=>false|false=>tv ops s j
def HD(P:Program)(ops:Array Oper)(n:Nat)(l:List dh)(s:List (Nat×Nat×Bool)):Bool:=
 P.follows .mixedOrders&&l.all (lV ops)&&l.all (rS ops n)&&(xg l).all (fun i=>decide (i<ops.size))&&s.all (fun p=>!(xg l).contains p.1&&(match ops[p.1]? with|some o=>o.guard.isNone|none=>false)&&Nat.beq (jJ s p.1) p.2.1) &&
  decide ((xg l++s.map (·.1)).length=ops.size)&&FV ops (Il l s) (HK P ops l s) (HI l s) (Lp ops l s) (xg l++s.map (·.1)) (Array.replicate ops.size false)
def HE(P:Program)(ops:Array Oper)(l:List dh)(s:List (Nat×Nat×Bool))(Q:Exit→St→Prop)(st:St):Prop:=
 cO (HD P ops st.n l s) (pP P ops st.n st.h l st.fr fun fr=>rK P ops st.n s fr st.h fun fr h=>Q .normal ⟨st.n,fr,h⟩)
def G8{m id:Nat}{ops:Array Oper}{Q:Exit→St→Prop}{st:St}(hm:m≤st.h.length)(hq:HE P ops l s Q st):AW P m (.region id ops true) Q st:=by
 intro base ι S a w _ hr;obtain⟨hok,hq⟩:=aY hq;simp only[HD,NO,Of]at hok;obtain⟨⟨⟨⟨⟨⟨k1,k2⟩,k3⟩,k4⟩,k5⟩,k6⟩,k7⟩:=hok;obtain⟨hE,hr'⟩:=hr.drew;refine wp_region_any k1 (dW (fun e a w z=>dy.trans (hE.mono (by rw[hr.hp.len];exact hm) (bY _)) z) _ _ _ _ ?_);have down0:Down ops (Array.replicate ops.size false):=fun i o ho hl=>by
  have hlt:=(AS.1 ho).1;simp[hlt]at hl
 obtain⟨n,fr0,h0⟩:=st;dsimp only at hq hm hr hr' k3
 let Z:Fr→aa→Prop:=fun fr h=>∃f2,nY fr f2∧Q .normal ⟨n,f2,h⟩
 have hZ:∀f f' h,nY f f'→Z f h→Z f' h:=fun f f' h e ⟨f2,e2,q⟩=>⟨f2,fun t=>by rw[←e t];exact e2 t,q⟩;have hk:∀p∈s,(∀o,ops[p.1]?=some o→o.guard=none)∧(Il l s p.1=(match p.2.1 with|0=>false|1=>false|3=>false|_=>true))∧(HK P ops l s p.1=true→p.2.1=0)∧(HI l s p.1=true→p.2.1=3)∧(Lp ops l s p.1=true→p.2.1=4∨(p.2.1≠4∧∃o,ops[p.1]?=some o∧Au o.op=true)):=by
  intro p hp;have:=At.1 k5 p hp;simp only[NO]at this;obtain⟨⟨c1,c2⟩,c3⟩:=this;have c1:(xg l).contains p.1=false:=by simpa using c1
  have c3:=lE c3;refine⟨fun o ho=>?_, ?_, ?_, ?_, ?_⟩
  ·rw[ho]at c2;simpa using c2
  ·unfold Il;rw[c1];show kR s p.1=_;unfold kR;rw[c3];rfl
  ·unfold HK;rw[c1];show tj s p.1=true→_;unfold tj;rw[c3];intro z;split at z
   ·rename_i e;exact e
   ·cases z
  ·unfold HI;rw[c1];show ti s p.1=true→_;unfold ti;rw[c3];intro z;split at z
   ·rename_i e;exact e
   ·cases z
  ·unfold Lp;rw[c1];show tv ops s p.1=true→_;unfold tv;rw[c3];intro z;split at z
   ·rename_i e;exact .inl e
   ·rename_i e;split at z
    ·rename_i o ho;exact .inr ⟨by rw[e];decide,o,ho,z⟩
    ·cases z
   ·cases z
 have q2:kU P ops n h0 l fr0 (fun fr=>ko P ops n (Il l s) (HK P ops l s) (HI l s) (Lp ops l s) (fun _=>True) Z (s.map (·.1)) fr h0):=
  Al l fr0 _ _ (fun fr hfr=>xl (fun f h z=>⟨f,fun _=>rfl,z⟩) _ (ma s fr h0 hk hfr)) (rq _ _ _ hq)
 have q3:=tE (fun f f' e z=>B7 hZ _ e z) l fr0 k2 k3 q2;have q4:ko P ops n (Il l s) (HK P ops l s) (HI l s) (Lp ops l s) (fun _=>True) Z (xg l++s.map (·.1)) fr0 h0:=LF _ _ (fun i hi=>by
  have c:(xg l).contains i=true:=by simpa using hi
  refine⟨oN (At.1 k4 i hi), ?_, ?_, ?_⟩
  ·unfold Il;rw[c]
  ·unfold HI;rw[c]
  ·unfold HK;rw[c];exact fun z=>z) q3
 have q5:=rF _ _ _ _ down0 k7 q4;rw[k6]at q5;exact tR (m:=m) (Q':=Q) (fun fr h z=>z) ops.size _ base ι S a _ fr0 h0 hm hr' q5
def qF(d:Nat)(x:AV):Bool:=match x with|.op id _=>!Nat.beq id d|_=>true
def vT(d:Nat)(x:AV):Bool:=match x with|.own id _ _ _=>Nat.beq id d|_=>true
def xE(d:Nat)(x:AV):Bool:=match x with|.op id _=>Nat.beq id d|_=>false
def Fg(d:Nat)(ev:Operand→AV)(op:Op):Bool:=match op with
 | .store _ x _=>xE d (ev x)
 | .call c=>(match c.callee,c.args.toList with|.builtin .append,[x,_]=>vT d (ev x)|_,_=>false)
 | _=>false
def JW(P:Program)(d:Nat)(ev:Operand→AV)(h:aa)(op:Op)(K:AV→Prop):Prop:=match op with
 | .load t x=>cO (qF d (ev x)) (cO (fS P t) (ak (fy P t) (P.cellsOf t) (ev x) h K))
 | _=>False
def LC{own:Bool}{ev:Operand→AV}{op:Op}{K:AV→Prop}(q:JW P d ev h op K):∃x,(∀h',fA (·≠d) h h'→bE P own ev h' op fun v h2=>v=x∧h2=h')∧K x:=by
 unfold JW at q;split at q
 ·rename_i t x;obtain⟨hb,q⟩:=aY q;refine vG (B:=(·≠d)) (own:=own) (fun t' x' id o e1 e2=>?_) (op:=.load t x) (by unfold Fx;exact q);cases e1;unfold qF at hb;rw[e2]at hb;intro e;subst e;simp at hb
 ·exact q.elim
omit [Laid] in
def Kf{d sz:Nat}{K:aa→Prop}(hx:xE d x=true)(q:ao sz x v h K):ao sz x v h fun h' => fA (·≠d) h h'∧K h':=by
 cases x<;>simp only[ao]at q⊢<;> first|exact q.elim|skip
 rename_i id o;cases e:h[id]? with
 | none=>rw[e]at q;exact q.elim
 | some en =>
   rw[e]at q;cases en with
   | ah b=>exact⟨q.1,fA.W5 (fun z=>z (lE hx)),q.2⟩
   | tok=>exact q.elim
   | dead=>exact q.elim
   | mp=>exact q.elim
   | it=>exact q.elim
def Ny{own:Bool}{ev:Operand→AV}{op:Op}{K:AV→aa→Prop}(hg:Fg d ev op=true)(q:bE P own ev h op K):bE P own ev h op fun v h' => fA (·≠d) h h'∧K v h':=by
 unfold Fg at hg;split at hg
 ·simp only[bE]at q ⊢;obtain⟨hr,q⟩:=aY q;rw[hr];exact Kf hg q
 ·rename_i c;split at hg
  ·rename_i x y hc ha;have hno:∀id o l s,ev x=.own id o l s→¬id≠d:=fun id o l s e=>by
    unfold vT at hg;rw[e]at hg;have:=lE hg;omega
   simp only[bE,hc]at q ⊢;split at q
   ·rename_i t tx x' y' hat hxy;rw[ha]at hxy;simp only[List.cons.injEq,and_true]at hxy;obtain⟨rfl,rfl⟩:=hxy;cases h1:P.underlying t with
    | none=>rw[h1]at q;exact q.elim
    | some d =>
      cases h2:P.underlying tx with
      | none=>rw[h1,h2]at q;cases d<;>exact q.elim
      | some d2 =>
        rw[h1,h2]at q;cases d<;>cases d2<;>simp only at q⊢<;> first|exact q.elim|(obtain⟨hr,q⟩:=aY q;rw[hr];exact wU hno q)
   ·exact q.elim
  ·cases hg
 ·cases hg
def sW(P:Program)(ops:Array Oper)(n d:Nat):List (Nat×Nat×Bool)→Fr→aa→(Fr→aa→Prop)→Prop
 | [],fr,h,K=>K fr h
 | (i,k,own):: r,fr,h,K=>match ops[i]? with
  | none=>False
  | some o=>(match k with
    | 0=>HH P own (aG fr) [] o.op fun v=>sW P ops n d r (bL n fr o.dst v) h K
    | 1=>EU P own (aG fr) h o.op fun v=>sW P ops n d r (bL n fr o.dst v) h K
    | 3=>JW P d (aG fr) h o.op fun v=>sW P ops n d r (bL n fr o.dst v) h K
    | 4=>cO (Fg d (aG fr) o.op) (bE P own (aG fr) h o.op fun v h' => sW P ops n d r (bL n fr o.dst v) h' K)
    | _=>bE P own (aG fr) h o.op fun v h' => sW P ops n d r (bL n fr o.dst v) h' K)
def HC(P:Program)(ops:Array Oper)(l:List (Nat×Nat×Bool))(Q:Exit→St→Prop)(st:St):Prop:=
 cO (xX P ops l) (∃d:Nat,sW P ops st.n d l st.fr st.h fun fr h=>Q .normal ⟨st.n,fr,h⟩)
theorem lZ{ops:Array Oper}{K:Fr→aa→Prop}(hg:∀(i:Nat) (o:Oper),ops[i]?=some o→o.guard=none):∀(l:List (Nat×Nat×Bool)) (fr:Fr) (h:aa),(∀p∈l,jJ L p.1=p.2.1)→sW P ops n d l fr h K→ko P ops n (kR L) (tj L) (ti L) (tv ops L) (·≠d) K (l.map (·.1)) fr h
 | [],fr,h,_,q=>q
 | (i,k,own):: l,fr,h,hk,q=>by
  have hk0:jJ L i=k:=hk (i,k,own) (by simp);have hk':∀p∈l,jJ L p.1=p.2.1:=fun p hp=>hk p (by simp[hp]);simp only[sW]at q;simp only[GO,ko];cases ho:ops[i]? with
  | none=>rw[ho]at q;exact q.elim
  | some o =>
    rw[ho]at q;simp only at q ⊢;have hw:∀fr,gM ops o fr=some true:=fun fr=>by unfold gM;rw[hg i o ho]
    split at q
    ·obtain⟨x,q1,q2⟩:=uw q;refine .inr ⟨by simp[kR,hk0],x,.inl ⟨hw fr,own,by simpa using q1 h⟩,fun _ h' => .inl ⟨hw fr,own,by simpa using q1 h'⟩,fun z=>by simp[ti,hk0]at z,lZ hg l _ h hk' q2⟩
    ·obtain⟨x,q1,q2⟩:=rh q;refine .inr ⟨by simp[kR,hk0],x,.inl ⟨hw fr,own,q1⟩,fun z=>by simp[tj,hk0]at z,fun z=>by simp[ti,hk0]at z,lZ hg l _ h hk' q2⟩
    ·obtain⟨x,q1,q2⟩:=LC (own:=own) q;refine .inr ⟨by simp[kR,hk0],x,.inl ⟨hw fr,own,q1 h (fA.refl _)⟩,fun z=>by simp[tj,hk0]at z,fun _ h' hl=>.inl ⟨hw fr,own,q1 h' hl⟩,lZ hg l _ h hk' q2⟩
    ·obtain⟨hgr,q⟩:=aY q;exact .inl ⟨by simp[kR,hk0],hg i o ho,own,_,Ny hgr q,fun v h' k=>⟨fun _=>k.1,lZ hg l _ h' hk' k.2⟩⟩
    ·rename_i h0 h1 h3 h4;have hlo:kR L i=true:=by
      unfold kR;rw[hk0];split
      ·exact absurd rfl h0
      ·exact absurd rfl h1
      ·exact absurd rfl h3
      ·rfl
     cases hex:Au o.op with
     | true=>exact .inl ⟨hlo,hg i o ho,own,_,wi hex q,fun v h' k=>⟨fun _=>by obtain⟨⟨e,rfl⟩,_⟩:=k;exact fA.ext _ _,lZ hg l _ h' hk' k.2⟩⟩
     | false =>
       have hge:tv ops L i=true→False:=fun z=>by
        unfold tv at z;rw[hk0]at z;split at z
        ·exact absurd rfl h4
        ·rw[ho]at z;simp[hex]at z
        ·exact absurd z (by simp)
       exact .inl ⟨hlo,hg i o ho,own,_,q,fun v h' k=>⟨fun z=>(hge z).elim,lZ hg l _ h' hk' k⟩⟩
def G7{m id:Nat}{ops:Array Oper}{Q:Exit→St→Prop}{st:St}(hm:m≤st.h.length)(hq:HC P ops l Q st):AW P m (.region id ops true) Q st:=by
 intro base ι S a w _ hr;obtain⟨hok,hq⟩:=aY hq;simp only[xX,NO,Of]at hok;obtain⟨⟨⟨⟨k1,k2⟩,k3⟩,k4⟩,k5⟩:=hok;obtain⟨hE,hr'⟩:=hr.drew;refine wp_region_any k1 (dW (fun e a w z=>dy.trans (hE.mono (by rw[hr.hp.len];exact hm) (bY _)) z) _ _ _ _ ?_);have down0:Down ops (Array.replicate ops.size false):=fun i o ho hl=>by
  have hlt:=(AS.1 ho).1;simp[hlt]at hl
 have hg:∀(i:Nat) (o:Oper),ops[i]?=some o→o.guard=none:=fun i o ho=>by
  have:=Array.all_eq_true_iff_forall_mem.1 k2 o (Array.mem_of_getElem? ho);simpa using this
 have hk:∀p∈l,jJ l p.1=p.2.1:=fun p hp=>lE (At.1 k4 p hp);obtain⟨d,hq⟩:=hq;have q2:=lZ hg l st.fr st.h hk hq;have q3:=rF _ _ _ _ down0 k5 q2;rw[abM,k3]at q3;obtain⟨n,fr,h⟩:=st;exact od (m:=m) (Q':=Q) (fun fr h z=>z) ops.size _ base ι S a _ fr h hm hr' q3
end
end Go.Aw
end
