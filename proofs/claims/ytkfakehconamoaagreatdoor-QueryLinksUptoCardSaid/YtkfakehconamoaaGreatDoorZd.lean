/-
 strings.IndexAny on ASCII bytes: the shelf's contract at this translation,in plain words (written by the kit's lay-shelf and lay-plain;this part of it alone).
 No conditions.
-/
import Derived.Shelf.Strings.IndexAnyAll
import Derived.Test.YtkfakehconamoaaGreatDoorProg
import Derived.KernelRfl
import Derived.Shelf.Strings.SlTrimAscii
import Derived.Shelf.Strings.Cut
import Derived.Shelf.Small.Wraps
import Derived.Shelf.Strconv.ParseIntPublic10
import Derived.Lib.AtoiAll
import Derived.Lib.AtoiErrMem
import Derived.Test.YtkfakehconamoaaGreatDoorZc
set_option linter.unusedVariables false
set_option linter.unusedSimpArgs false
set_option linter.unusedSectionVars false
set_option linter.defProp false
set_option autoImplicit true
set_option maxRecDepth 1000000
set_option maxHeartbeats 16000000
open Go.Proofs.Tryz renaming prog→p_
noncomputable section
namespace Go.Proofs.YtkfakehconamoaaGreatDoor
section
open Go.Shelf
theorem uSo1{α:Type}{a b:α}(h:a=b:=by kernel_rfl):some a=some b:=congrArg some h
def lays153_ren:Go.Shelf.Ren:=⟨fun|153=>204|152=>261|226=>262|227=>258|228=>263|137=>97|119=>287|224=>198|225=>197|217=>150|266=>207|n=>n,fun|9=>9|3=>3|4=>4|5=>5|21=>21|117=>294|116=>293|0=>0|46=>240|124=>297|n=>n,fun|n=>n⟩
theorem lays153:Go.Proofs.Lays.n153 p_ lays153_ren:={
 mixed:=by kernel_rfl
 f119:=Tryz.func287.trans uSo1
 f137:=Tryz.func97.trans uSo1
 f152:=Tryz.func261.trans uSo1
 f153:=Tryz.func204.trans uSo1
 f217:=Tryz.func150.trans uSo1
 f224:=Tryz.func198.trans uSo1
 f225:=Tryz.func197.trans uSo1
 f226:=Tryz.func262.trans uSo1
 f227:=Tryz.func258.trans uSo1
 f228:=Tryz.func263.trans uSo1
 f266:=Tryz.func207.trans uSo1
 t0:=Tryz.underlying0
 a0:=Tryz.isAgg0
 z0:=Tryz.sizeOf0
 v0:=Tryz.zeroValue0
 t3:=Tryz.underlying3
 a3:=Tryz.isAgg3
 z3:=Tryz.sizeOf3
 v3:=Tryz.zeroValue3
 t4:=Tryz.underlying4
 a4:=Tryz.isAgg4
 z4:=Tryz.sizeOf4
 v4:=Tryz.zeroValue4
 t5:=Tryz.underlying5
 a5:=Tryz.isAgg5
 z5:=Tryz.sizeOf5
 v5:=Tryz.zeroValue5
 t9:=Tryz.underlying9
 a9:=Tryz.isAgg9
 z9:=Tryz.sizeOf9
 v9:=Tryz.zeroValue9
 t21:=Tryz.underlying21
 a21:=Tryz.isAgg21
 z21:=Tryz.sizeOf21
 v21:=Tryz.zeroValue21
 t46:=Tryz.underlying240
 a46:=Tryz.isAgg240
 z46:=Tryz.sizeOf240
 v46:=Tryz.zeroValue240
 t116:=Tryz.underlying293
 a116:=Tryz.isAgg293
 z116:=Tryz.sizeOf293
 t117:=Tryz.underlying294
 a117:=Tryz.isAgg294
 z117:=Tryz.sizeOf294
 v117:=Tryz.zeroValue294
 t124:=Tryz.underlying297
 a124:=Tryz.isAgg297
 z124:=Tryz.sizeOf297
 v124:=Tryz.zeroValue297 }
open Go.RowKit Go.Lib in
theorem Cs(s chars:ByteArray)(w:World)(hs:s.size<4294967281)(hcs:chars.size<4294967281)(has:∀(j:Nat) b,s.data.toList[j]?=some b→b.toNat<128)(hac:∀(j:Nat) b,chars.data.toList[j]?=some b→b.toNat<128):
 Calls p_ 204 #[.string s,.string chars] w fun e w' => e=.returned (.int .i64 (Lib.indexAny s.data.toList chars.data.toList))∧Below w.heap.size w w':=Any.strings_IndexAny_laid lays153 (by kernel_rfl) s chars w hs hcs has hac
end
section
open Go Go.Aw
def T4(l:List Nat):List AV:=l.map fun n=>.v (.int .u8 (Int.ofNat n))
def M3(l:List Nat):List AV:=l.map fun n=>.v (.int .u64 (Int.ofNat n))
class bB where
 m:Int
 er:Value
 Sp:er=.nilIface∨∃te pe,er=.iface te pe
variable [bB]
def Ik:Nat→Option (List AV):=fun g=>match g with
 | 5=>some (M3 [1,10,100,1000,10000,100000,1000000,10000000,100000000,1000000000,10000000000,100000000000,1000000000000,10000000000000,100000000000000,1000000000000000,10000000000000000,100000000000000000,1000000000000000000,10000000000000000000])
 | 0=>some [i_ bB.m]
 | 4=>some [.v bB.er]
 | 7=>some (T4 [0,1,56,2,57,49,28,3,61,58,42,50,38,29,17,4,62,47,59,36,45,43,51,22,53,39,33,30,24,18,12,5,63,55,48,27,60,41,37,16,46,35,44,21,52,32,23,11,54,26,40,15,34,20,31,10,25,14,19,9,13,8,7,6])
 | _=>none
instance abH:Laid:=⟨Ik,fun g cs h=>by
 unfold Ik at h;split at h
 ·cases h;simp[M3,aq,Aw.Pure]
 ·cases h;simp[aq,Aw.Pure]
 ·cases h;simp[aq,Aw.Pure]
 ·cases h;simp[T4,aq,Aw.Pure]
 ·cases h⟩
end
section
open Go Go.Aw
variable [Laid]
def R5(x0:AV)(h:aa)(K:AV→aa→Prop):Prop:=
 cn x0 fun v1=>ag .gtr v1 (i_ 4000) fun v2=>af v2 (K (.aw [(.str []),(i_ 28)]) h) (bA p_ (.fn (.func 82) [] []) [] h fun v3 g4=>bA p_ (.fn (.func 83) [] []) [v3,x0] g4 fun v5 g6=>K (.aw [v5,(i_ 0)]) g6)
def c62:Code:=(Tryz.f62.body).getD .skip
def Vg(x0:AV):Body p_ 62 [x0] (R5 x0):=⟨c62,.nil,10,[.tmp 2,.tmp 3],⟨Tryz.f62,Tryz.func62,rfl,by kernel_rfl,by kernel_rfl,by kernel_rfl⟩,by simp,fun h K=>by kernel_rfl⟩
def Ws(x0 x1:AV)(h:aa)(K:AV→aa→Prop):Prop:=
 ca p_ x0 fun v1=>aN 0 v1 fun v2=>bA p_ (.fn (.func 139) [] []) [v2,(.fn (.func 140) [x0] [])] h fun v3 g4=>ca p_ x0 fun v5=>aN 3 v5 fun v6=>ae false 1 v6 g4 fun v7=>vK p_ (od p_ "Replace") v7 [x1] g4 fun v8 g9=>K v8 g9
def c83:Code:=(Tryz.f83.body).getD .skip
def V83(x0 x1:AV):Body p_ 83 [x0,x1] (Ws x0 x1):=⟨c83,.nil,17,[.tmp 4],⟨Tryz.f83,Tryz.func83,rfl,by kernel_rfl,by kernel_rfl,by kernel_rfl⟩,by simp,fun h K=>by kernel_rfl⟩
def QO(x0 x1:AV)(h:aa)(K:AV→aa→Prop):Prop:=
 ca p_ x0 fun v1=>aN 0 v1 fun v2=>bA p_ (.fn (.func 194) [] []) [v2] h fun v3 g4=>bT v3 fun v5=>af v5 (bA p_ (.fn (.func 195) [] []) [x0,x1] g4 fun v6 g7=>K (.aw []) g7) (K (.aw []) g4)
def c139:Code:=(Tryz.f139.body).getD .skip
def Xq(x0 x1:AV):Body p_ 139 [x0,x1] (QO x0 x1):=⟨c139,.nil,12,[],⟨Tryz.f139,Tryz.func139,rfl,by kernel_rfl,by kernel_rfl,by kernel_rfl⟩,by simp,fun h K=>by kernel_rfl⟩
def R4(x0 x1:AV)(h:aa)(K:AV→aa→Prop):Prop:=
 ca p_ x0 fun v1=>ae false 1 v1 h fun v2=>CQ false 5 1 v2 x1 h fun v3 g4=>ca p_ x0 fun v5=>ah 1 v5 v3 g4 fun g6=>cn x1 fun v7=>K (.aw [v7,(.v .nilIface)]) g6
def YL:Code:=(Tryz.f398.body).getD .skip
def YB(x0 x1:AV):Body p_ 398 [x0,x1] (R4 x0 x1):=⟨YL,.nil,15,[.tmp 4,.tmp 5],⟨Tryz.f398,Tryz.func398,rfl,by kernel_rfl,by kernel_rfl,by kernel_rfl⟩,by simp,fun h K=>by kernel_rfl⟩
def R1(x0 x1:AV)(h:aa)(K:AV→aa→Prop):Prop:=
 cn x1 fun v1=>jO 5 1 1 (u8 0) (i_ 0) v1 h fun v2 g3=>aB 424 (.v (.slice none 0 0)) g3 fun v4 g5=>ah 1 v4 v2 g5 fun g6=>pE 425 v4 fun v7=>bA p_ (.fn (.func 381) [] []) [x0,v7,x1] g6 fun v8 g9=>ae false 1 v4 g9 fun v10=>dk v10 g9 fun v11=>K v11 g9
def YH:Code:=(Tryz.f380.body).getD .skip
def Yx(x0 x1:AV):Body p_ 380 [x0,x1] (R1 x0 x1):=⟨YH,.nil,15,[.tmp 4],⟨Tryz.f380,Tryz.func380,rfl,by kernel_rfl,by kernel_rfl,by kernel_rfl⟩,by simp,fun h K=>by kernel_rfl⟩
def R2(x0 x1 x2:AV)(h:aa)(K:AV→aa→Prop):Prop:=
 bA p_ (.fn (.func 382) [] []) [x1] h fun v1 g2=>bc [(i_ 0),(.v .nilIface),(i_ 0),ff,(i_ 0)] g2 fun N3 s4 g5 =>
 /- n err last prevMatchEmpty i -/ cn x2 fun v6=>ag .leq (nx s4 4) v6 fun v7=>af v7 (aI (fun J8=>cn x2 fun v9=>ag .neq (nx s4 4) v9 fun v10=>aI (fun J11=>aL v10 true (ca p_ x0 fun v12=>aN 0 v12 fun v13=>aN 1 v13 fun v14=>ae false 1 v14 g5 fun v15=>ag .eql v15 (i_ 0) fun v16=>[x0,x2,(nx s4 0),(nx s4 1),v1,(nx s4 2),(nx s4 3),(nx s4 4)]=[x0,x2,(nx s4 0),(nx s4 1),v1,(nx s4 2),(nx s4 3),(nx s4 4)]∧J11 [tt,v16] g5) ([x0,x2,(nx s4 0),(nx s4 1),v1,(nx s4 2),(nx s4 3),(nx s4 4)]=[x0,x2,(nx s4 0),(nx s4 1),v1,(nx s4 2),(nx s4 3),(nx s4 4)]∧J11 [(bO true v10),un] g5)) fun s17 g18=>bG (nx s17 0) (nx s17 1) ff fun v19=>af v19 (dW x2 (nx s4 4) fun v20=>ca p_ x0 fun v21=>aN 6 v21 fun v22=>fW 256 1 v22 v20 fun v23=>ae false 1 v23 g18 fun v24=>cH .i64 v24 fun v25=>ca p_ x0 fun v26=>aN 5 v26 fun v27=>ae false 1 v27 g18 fun v28=>ag .eql v25 v28 fun v29=>aI (fun J30=>aL v29 false (ca p_ x0 fun v31=>aN 0 v31 fun v32=>aN 4 v32 fun v33=>ae false 1 v33 g18 fun v34=>au 1 v34 v25 fun v35=>ae false 1 v35 g18 fun v36=>iH false (sj v36) fun v37=>[x0,x2,(nx s4 0),(nx s4 1),v1,(nx s4 2),(nx s4 3),(nx s4 4)]=[x0,x2,(nx s4 0),(nx s4 1),v1,(nx s4 2),(nx s4 3),(nx s4 4)]∧J30 [ff,v37] g18) ([x0,x2,(nx s4 0),(nx s4 1),v1,(nx s4 2),(nx s4 3),(nx s4 4)]=[x0,x2,(nx s4 0),(nx s4 1),v1,(nx s4 2),(nx s4 3),(nx s4 4)]∧J30 [(bO false v29),un] g18)) fun s38 g39=>bG (nx s38 0) tt (nx s38 1) fun v40=>af v40 (ag .add (nx s4 4) (i_ 1) fun v41=>[x0,x2,v1]=[x0,x2,v1]∧N3 [(nx s4 0),(nx s4 1),(nx s4 2),(nx s4 3),v41] g39) ([x0,x2,(nx s4 0),(nx s4 1),v1,(nx s4 2),(nx s4 3)]=[x0,x2,(nx s4 0),(nx s4 1),v1,(nx s4 2),(nx s4 3)]∧J8 [(nx s4 4)] g39)) ([x0,x2,(nx s4 0),(nx s4 1),v1,(nx s4 2),(nx s4 3)]=[x0,x2,(nx s4 0),(nx s4 1),v1,(nx s4 2),(nx s4 3)]∧J8 [(nx s4 4)] g18)) fun s42 g43=>eS x2 (some (nx s42 0)) none fun v44=>bA p_ (.fn (.func 383) [] []) [x0,v44,(nx s4 3)] g43 fun v45 g46=>ay 0 v45 fun v47=>ay 1 v45 fun v48=>ay 2 v45 fun v49=>aI (fun J50=>aL v49 true (ag .eql v48 (i_ 0) fun v51=>[x0,x2,(nx s4 0),(nx s4 1),v1,(nx s4 2),(nx s42 0),v47,v48,v49]=[x0,x2,(nx s4 0),(nx s4 1),v1,(nx s4 2),(nx s42 0),v47,v48,v49]∧J50 [tt,v51] g46) ([x0,x2,(nx s4 0),(nx s4 1),v1,(nx s4 2),(nx s42 0),v47,v48,v49]=[x0,x2,(nx s4 0),(nx s4 1),v1,(nx s4 2),(nx s42 0),v47,v48,v49]∧J50 [(bO true v49),un] g46)) fun s52 g53=>bG (nx s52 0) (nx s52 1) ff fun v54=>af v49 (eS x2 (some (nx s4 2)) (some (nx s42 0)) fun v55=>ca p_ (.fn (.method "WriteString") [v1] []) fun v56=>vK p_ (od p_ "WriteString") v1 [v55] g53 fun v57 g58=>ay 0 v57 fun v59=>ay 1 v57 fun v60=>ag .add (nx s4 0) v59 fun v61=>iH true (uA v60) fun v62=>af v62 (K (.aw [v61,v60]) g58) (vK p_ (od p_ "WriteString") v1 [v47] g58 fun v63 g64=>ay 0 v63 fun v65=>ay 1 v63 fun v66=>ag .add v61 v65 fun v67=>iH true (uA v66) fun v68=>af v68 (K (.aw [v67,v66]) g64) (ag .add (nx s42 0) v48 fun v69=>[x0,x2,v1]=[x0,x2,v1]∧N3 [v67,v66,v69,v54,v69] g64))) (ag .add (nx s42 0) (i_ 1) fun v70=>[x0,x2,v1]=[x0,x2,v1]∧N3 [(nx s4 0),(nx s4 1),(nx s4 2),v54,v70] g53)) (cn x2 fun v71=>ag .neq (nx s4 2) v71 fun v72=>af v72 (eS x2 (some (nx s4 2)) none fun v73=>ca p_ (.fn (.method "WriteString") [v1] []) fun v74=>vK p_ (od p_ "WriteString") v1 [v73] g5 fun v75 g76=>ay 0 v75 fun v77=>ay 1 v75 fun v78=>ag .add (nx s4 0) v77 fun v79=>K (.aw [v79,v78]) g76) (K (.aw [(nx s4 0),(nx s4 1)]) g5))
def YI:Code:=(Tryz.f381.body).getD .skip
def Yy(x0 x1 x2:AV):Body p_ 381 [x0,x1,x2] (R2 x0 x1 x2):=⟨YI,(.seq .nil (.seq .nil (.seq .nil (.seq .nil (.seq (.seq .nil (.one (.loop [0,2,8] [6,7,9,11,12] (.seq .nil (.one (.join [0,2,6,7,8,9,11] [12] (.seq (.aO [.op 0 false,.op 1 false,.op 2 false,.op 3 false,.op 4 false,.aA 4 true [(5,false),(6,false),(7,false),(8,false),(9,false),(10,false)] [0,2,6,7,8,9,11,12] [27,33],.op 11 false]) (.two (.seq (.draw 10 [.op 0 false,.op 1 false,.op 2 false,.op 3 false,.op 4 false,.op 5 false,.op 6 false,.op 7 false,.op 8 false,.op 9 false] [] []) (.seq (.aO [.op 0 false,.op 1 false,.op 2 false,.op 3 false,.op 4 false,.op 5 false,.op 6 false,.aA 6 false [(7,false),(8,false),(9,false),(10,false),(11,false),(12,false),(13,false),(14,false),(15,false)] [0,2,6,7,8,9,11,12] [50,59],.op 16 false]) .nil)) .nil)) (.seq .nil (.seq (.aO [.op 0 false,.op 1 false,.aA 1 true [(2,false),(3,false)] [0,2,6,7,8,9,12,14,15,16] [74,76],.op 4 false,.op 5 false]) (.seq (.seq .nil (.two (.seq (.draw 8 [.op 0 false,.op 1 false,.op 2 false,.op 3 false,.op 4 false,.op 5 false,.op 6 false,.op 7 false] [.op 8 false,.op 9 false] [.op 10 false,.op 11 false,.op 12 false,.op 13 false]) .nil) .nil)) .nil))))))))) (.seq (.seq .nil (.two (.seq (.draw 7 [.op 0 false,.op 1 false,.op 2 false,.op 3 false,.op 4 false,.op 5 false,.op 6 false] [.op 7 false,.op 8 false] [.op 9 false,.op 10 false,.op 11 false,.op 12 false]) .nil) .nil)) .nil)))))),131,[.tmp 6,.tmp 7],⟨Tryz.f381,Tryz.func381,rfl,by kernel_rfl,by kernel_rfl,by kernel_rfl⟩,by simp,fun h K=>by kernel_rfl⟩
def R3(x0:AV)(h:aa)(K:AV→aa→Prop):Prop:=
 xZ (DY p_ 429) x0 fun v1=>ay 0 v1 fun v2=>ay 1 v1 fun v3=>bT v3 fun v4=>af v4 (bf (.agg [(.v .nilIface)]) [(0,1,x0)] fun v5=>pE 435 v5 fun v6=>K v6 h) (K v2 h)
def YJ:Code:=(Tryz.f382.body).getD .skip
def Yz(x0:AV):Body p_ 382 [x0] (R3 x0):=⟨YJ,.nil,16,[.tmp 2],⟨Tryz.f382,Tryz.func382,rfl,by kernel_rfl,by kernel_rfl,by kernel_rfl⟩,by simp,fun h K=>by kernel_rfl⟩
def zW(x0 x1 x2:AV)(h:aa)(K:AV→aa→Prop):Prop:=
 ca p_ x0 fun v1=>aN 0 v1 fun v2=>bc [x1,(.str []),(i_ 0),ff,(i_ 0),v2,(i_ 0)] h fun N3 s4 g5 =>
 /- s val keylen found bestPriority node n -/ iH true (sj (nx s4 5)) fun v6=>af v6 (aI (fun J7=>ca p_ (nx s4 5) fun v8=>aN 1 v8 fun v9=>ae false 1 v9 g5 fun v10=>ag .gtr v10 (nx s4 4) fun v11=>aI (fun J12=>aL v11 true ([x0,(nx s4 0),x2,(nx s4 1),(nx s4 2),(nx s4 3),(nx s4 4),(nx s4 5),(nx s4 6)]=[x0,(nx s4 0),x2,(nx s4 1),(nx s4 2),(nx s4 3),(nx s4 4),(nx s4 5),(nx s4 6)]∧J12 [tt,x2] g5) ([x0,(nx s4 0),x2,(nx s4 1),(nx s4 2),(nx s4 3),(nx s4 4),(nx s4 5),(nx s4 6)]=[x0,(nx s4 0),x2,(nx s4 1),(nx s4 2),(nx s4 3),(nx s4 4),(nx s4 5),(nx s4 6)]∧J12 [(bO true v11),un] g5)) fun s13 g14=>aI (fun J15=>aL (nx s13 1) true (ca p_ x0 fun v16=>aN 0 v16 fun v17=>False) ([x0,(nx s4 0),x2,(nx s4 1),(nx s4 2),(nx s4 3),(nx s4 4),(nx s4 5),(nx s4 6),(nx s13 0)]=[x0,(nx s4 0),x2,(nx s4 1),(nx s4 2),(nx s4 3),(nx s4 4),(nx s4 5),(nx s4 6),(nx s13 0)]∧J15 [(bO true (nx s13 1)),un] g14)) fun s18 g19=>aI (fun J20=>aL (nx s13 0) true (bG (nx s18 0) (nx s18 1) ff fun v21=>bT v21 fun v22=>[x0,(nx s4 0),x2,(nx s4 1),(nx s4 2),(nx s4 3),(nx s4 4),(nx s4 5),(nx s4 6)]=[x0,(nx s4 0),x2,(nx s4 1),(nx s4 2),(nx s4 3),(nx s4 4),(nx s4 5),(nx s4 6)]∧J20 [tt,v22] g19) ([x0,(nx s4 0),x2,(nx s4 1),(nx s4 2),(nx s4 3),(nx s4 4),(nx s4 5),(nx s4 6)]=[x0,(nx s4 0),x2,(nx s4 1),(nx s4 2),(nx s4 3),(nx s4 4),(nx s4 5),(nx s4 6)]∧J20 [(bO true (nx s13 0)),un] g19)) fun s23 g24=>bG (nx s23 0) (nx s23 1) ff fun v25=>af v25 (ca p_ (nx s4 5) fun v26=>aN 1 v26 fun v27=>ae false 1 v27 g24 fun v28=>ca p_ (nx s4 5) fun v29=>aN 0 v29 fun v30=>ae false 1 v30 g24 fun v31=>[x0,(nx s4 0),x2,(nx s4 5),(nx s4 6)]=[x0,(nx s4 0),x2,(nx s4 5),(nx s4 6)]∧J7 [v31,(nx s4 6),tt,v28] g24) ([x0,(nx s4 0),x2,(nx s4 5),(nx s4 6)]=[x0,(nx s4 0),x2,(nx s4 5),(nx s4 6)]∧J7 [(nx s4 1),(nx s4 2),(nx s4 3),(nx s4 4)] g24)) fun s32 g33=>ag .eql (nx s4 0) (.str []) fun v34=>af v34 (K (.aw [(nx s32 0),(nx s32 1),(nx s32 2)]) g33) (ca p_ (nx s4 5) fun v35=>aN 4 v35 fun v36=>ae false 1 v36 g33 fun v37=>iH true (sk v37) fun v38=>af v38 (dW (nx s4 0) (i_ 0) fun v39=>ca p_ x0 fun v40=>aN 6 v40 fun v41=>fW 256 1 v41 v39 fun v42=>ae false 1 v42 g33 fun v43=>cH .i64 v43 fun v44=>ca p_ x0 fun v45=>aN 5 v45 fun v46=>ae false 1 v46 g33 fun v47=>ag .eql v44 v47 fun v48=>af v48 (K (.aw [(nx s32 0),(nx s32 1),(nx s32 2)]) g33) (ca p_ (nx s4 5) fun v49=>aN 4 v49 fun v50=>ae false 1 v50 g33 fun v51=>au 1 v51 v43 fun v52=>ae false 1 v52 g33 fun v53=>eS (nx s4 0) (some (i_ 1)) none fun v54=>ag .add (nx s4 6) (i_ 1) fun v55=>[x0,x2]=[x0,x2]∧N3 [v54,(nx s32 0),(nx s32 1),(nx s32 2),(nx s32 3),v53,v55] g33)) (ca p_ (nx s4 5) fun v56=>aN 2 v56 fun v57=>ae false 1 v57 g33 fun v58=>ag .neq v58 (.str []) fun v59=>aI (fun J60=>aL v59 true (ca p_ (nx s4 5) fun v61=>aN 2 v61 fun v62=>ae false 1 v62 g33 fun v63=>bA p_ (.fn (.func 84) [] []) [(nx s4 0),v63] g33 fun v64 g65=>[x0,(nx s4 0),x2,(nx s32 0),(nx s32 1),(nx s32 2),(nx s32 3),(nx s4 5),(nx s4 6)]=[x0,(nx s4 0),x2,(nx s32 0),(nx s32 1),(nx s32 2),(nx s32 3),(nx s4 5),(nx s4 6)]∧J60 [tt,v64] g65) ([x0,(nx s4 0),x2,(nx s32 0),(nx s32 1),(nx s32 2),(nx s32 3),(nx s4 5),(nx s4 6)]=[x0,(nx s4 0),x2,(nx s32 0),(nx s32 1),(nx s32 2),(nx s32 3),(nx s4 5),(nx s4 6)]∧J60 [(bO true v59),un] g33)) fun s66 g67=>bG (nx s66 0) (nx s66 1) ff fun v68=>af v68 (ca p_ (nx s4 5) fun v69=>aN 2 v69 fun v70=>ae false 1 v70 g67 fun v71=>cn v71 fun v72=>ag .add (nx s4 6) v72 fun v73=>ca p_ (nx s4 5) fun v74=>aN 2 v74 fun v75=>ae false 1 v75 g67 fun v76=>cn v76 fun v77=>eS (nx s4 0) (some v77) none fun v78=>ca p_ (nx s4 5) fun v79=>aN 3 v79 fun v80=>ae false 1 v80 g67 fun v81=>[x0,x2]=[x0,x2]∧N3 [v78,(nx s32 0),(nx s32 1),(nx s32 2),(nx s32 3),v81,v73] g67) (K (.aw [(nx s32 0),(nx s32 1),(nx s32 2)]) g67)))) (K (.aw [(nx s4 1),(nx s4 2),(nx s4 3)]) g5)
def YK:Code:=(Tryz.f383.body).getD .skip
def Dh(x0 x1 x2:AV):Body p_ 383 [x0,x1,x2] (zW x0 x1 x2):=⟨YK,(.seq .nil (.seq .nil (.seq .nil (.seq .nil (.seq (.one (.loop [0,2] [1,6,7,8,9,10,11] (.seq .nil (.one (.join [0,1,2,10,11] [6,7,8,9] (.seq (.aO [.op 0 false,.op 1 false,.op 2 false,.op 3 false,.op 4 false,.op 5 false,.op 6 false,.aA 6 true [(7,false),(8,false)] [0,1,2,6,7,8,9,10,11] [24,26],.aA 8 true [(9,false),(10,false),(11,false),(12,false),(13,false)] [0,1,2,6,7,8,9,10,11,24] [26,31],.aA 6 true [(14,false),(15,false)] [0,1,2,6,7,8,9,10,11] [24,33],.op 16 false]) .nil) (.seq .nil (.seq .nil (.two (.seq (.draw 8 [.op 0 false,.op 1 false,.op 2 false,.op 3 false,.op 4 false,.op 5 false,.op 6 false,.op 7 false] [] []) .nil) (.seq (.aO [.op 0 false,.op 1 false,.op 2 false,.op 3 false,.op 4 false,.op 5 false,.aA 5 true [(6,false),(7,false),(8,false),(9,false),(10,false),(11,false)] [0,1,2,6,7,8,9,10,11] [81,87],.op 12 false]) .nil))))))))) .nil))))),107,[.tmp 6,.tmp 7,.tmp 8],⟨Tryz.f383,Tryz.func383,rfl,by kernel_rfl,by kernel_rfl,by kernel_rfl⟩,by simp,fun h K=>by kernel_rfl⟩
end
section
open Go Go.Aw
def eF:List Nat:=[0]++List.replicate 9 4++[1,4,2,3]++List.replicate 242 4
def rb:List AV:=.str []:: i_ 0:: .str []:: .v (.pointer none):: .own 4 0 4 1:: i_ 4:: eF.map fun n=>.v (.int .u8 (Int.ofNat n))
def tb:List AV:=[.op 8 0,.v (.pointer none),.op 7 0,.op 5 0]
def e0:aY:=.ak ⟨9,[.str [13,10],.str [10],.str [13],.str [10],.str [12],.str [10],.str [0],.str [239,191,189]],true⟩
def e1:aY:=.tok 9 1 8
def sw(once mu:Int)(r s:AV):jl:=⟨204,[.v (.int .u32 once),.v (.int .i32 mu),.v (.int .u32 0),r,s],true⟩
def keys:AV:=.sb 1 1 [[.str [13,10]],[.str [10]],[.str [13]],[.str [10]],[.str [12]],[.str [10]],[.str [0]],[.str [239,191,189]]]
def NT:aa:=[.ak ⟨325,[.str [10],i_ 6,.str [10],.op 6 0,.v (.slice none 0 0)],true⟩,.ak ⟨325,[.str [10],i_ 8,.str [],.v (.pointer none),.v (.slice none 0 0)],true⟩,.ak ⟨325,[.str [10],i_ 4,.str [],.v (.pointer none),.v (.slice none 0 0)],true⟩,.ak ⟨325,[.str [239,191,189],i_ 2,.str [],.v (.pointer none),.v (.slice none 0 0)],true⟩]
def Hb(mu:Int):aa:=[e0,e1,.ak (sw 0 mu (.v .nilIface) keys)]
def Ha(once mu:Int):aa:=e0:: e1:: .ak (sw once mu (.fJ 280 (.op 3 0)) (.v (.slice none 0 0))):: .ak ⟨327,rb,true⟩:: .ak ⟨322,tb,true⟩:: NT
end
section
open Go Go.Aw
variable [Laid]
def Wq(h:aa)(K:AV→aa→Prop):Prop:=
 dF 9 8 1 (.str []) [(0,1,(.str [13,10])),(1,1,(.str [10])),(2,1,(.str [13])),(3,1,(.str [10])),(4,1,(.str [12])),(5,1,(.str [10])),(6,1,(.str [0])),(7,1,(.str [239,191,189]))] h fun a b=>iC p_ 138 [a] b fun c d=>K c d
def V82:Body p_ 82 [] (Wq):=mkB Tryz.func82 .nil 3 [.tmp 0]
def QN(a:AV)(h:aa)(K:AV→aa→Prop):Prop:=
 aI (fun b=>aU a fun c=>qBe .rem c 2 fun d=>qBe .eql d 1 fun e=>af e (pE 9 (.str [115,116,114,105,110,103,115,46,78,101,119,82,101,112,108,97,99,101,114,58,32,111,100,100,32,97,114,103,117,109,101,110,116,32,99,111,117,110,116]) fun m=>False) (eC [a] (b [] h))) fun n f=>bN false 9 1 16 qNs a f fun g i=>bf (.agg [.v (.int .u32 0),.v (.int .i32 0),.v (.int .u32 0),(.v .nilIface),qNs]) [(4,1,g)] fun j=>aB 204 j i fun k l=>K k l
def Xp(a:AV):Body p_ 138 [a] (QN a):=mkB Tryz.func138 (sn (.join [0] [] .nil .nil)) 12 [.tmp 2]
def QP(a:AV)(h:aa)(K:AV→aa→Prop):Prop:=
 iC p_ 196 [a] h fun b c=>qSt p_ a 3 b c fun d=>qSt p_ a 4 qNs d fun e=>K (.aw []) e
def Xr(a:AV):Body p_ 140 [a] (QP a):=mkB Tryz.func140 .nil 10 []
def Rp(s:AV)(h:aa)(K:AV→aa→Prop):Prop:=
 qLd p_ s 4 h fun a=>aU a fun t=>qBe .eql t 2 fun u=>qJa u [a] h (fun v=>au 1 a (i_ 0) fun w=>ae false 1 w h fun x=>cn x fun y=>qBe .gtr y 1 fun z=>v z h) fun A i=>af A (au 1 a (i_ 0) fun B=>ae false 1 B i fun C=>au 1 a (i_ 1) fun D=>ae false 1 D i fun E=>iQ p_ 253 [C,E] i fun F=>pE 278 F fun G=>K G i) (bc [tt,i_ 0] i fun H c d =>
 aU a fun I=>ag .lss (nx c 1) I fun J=>af J (aI (fun o=>au 1 a (nx c 1) fun L=>ae false 1 L d fun M=>cn M fun N=>qBe .neq N 1 fun O=>af O (iC p_ 254 [a] d fun P Q=>pE 280 P fun R=>K R Q) (qBe .add (nx c 1) 1 fun S=>au 1 a S fun T=>ae false 1 T d fun U=>cn U fun V=>qBe .neq V 1 fun W=>af W (eC [a,nx c 1] (o [ff] d)) (eC [a,nx c 1] (o [nx c 0] d)))) fun X Y=>qBe .add (nx c 1) 2 fun Z=>eC [a] (H [nx X 0,Z] Y)) (af (nx c 0) (bf (.agg [u8 0,u8 0,u8 0,u8 0,u8 0,u8 0,u8 0,u8 0,u8 0,u8 0,u8 0,u8 0,u8 0,u8 0,u8 0,u8 0,u8 0,u8 0,u8 0,u8 0,u8 0,u8 0,u8 0,u8 0,u8 0,u8 0,u8 0,u8 0,u8 0,u8 0,u8 0,u8 0,u8 0,u8 0,u8 0,u8 0,u8 0,u8 0,u8 0,u8 0,u8 0,u8 0,u8 0,u8 0,u8 0,u8 0,u8 0,u8 0,u8 0,u8 0,u8 0,u8 0,u8 0,u8 0,u8 0,u8 0,u8 0,u8 0,u8 0,u8 0,u8 0,u8 0,u8 0,u8 0,u8 0,u8 0,u8 0,u8 0,u8 0,u8 0,u8 0,u8 0,u8 0,u8 0,u8 0,u8 0,u8 0,u8 0,u8 0,u8 0,u8 0,u8 0,u8 0,u8 0,u8 0,u8 0,u8 0,u8 0,u8 0,u8 0,u8 0,u8 0,u8 0,u8 0,u8 0,u8 0,u8 0,u8 0,u8 0,u8 0,u8 0,u8 0,u8 0,u8 0,u8 0,u8 0,u8 0,u8 0,u8 0,u8 0,u8 0,u8 0,u8 0,u8 0,u8 0,u8 0,u8 0,u8 0,u8 0,u8 0,u8 0,u8 0,u8 0,u8 0,u8 0,u8 0,u8 0,u8 0,u8 0,u8 0,u8 0,u8 0,u8 0,u8 0,u8 0,u8 0,u8 0,u8 0,u8 0,u8 0,u8 0,u8 0,u8 0,u8 0,u8 0,u8 0,u8 0,u8 0,u8 0,u8 0,u8 0,u8 0,u8 0,u8 0,u8 0,u8 0,u8 0,u8 0,u8 0,u8 0,u8 0,u8 0,u8 0,u8 0,u8 0,u8 0,u8 0,u8 0,u8 0,u8 0,u8 0,u8 0,u8 0,u8 0,u8 0,u8 0,u8 0,u8 0,u8 0,u8 0,u8 0,u8 0,u8 0,u8 0,u8 0,u8 0,u8 0,u8 0,u8 0,u8 0,u8 0,u8 0,u8 0,u8 0,u8 0,u8 0,u8 0,u8 0,u8 0,u8 0,u8 0,u8 0,u8 0,u8 0,u8 0,u8 0,u8 0,u8 0,u8 0,u8 0,u8 0,u8 0,u8 0,u8 0,u8 0,u8 0,u8 0,u8 0,u8 0,u8 0,u8 0,u8 0,u8 0,u8 0,u8 0,u8 0,u8 0,u8 0,u8 0,u8 0,u8 0,u8 0,u8 0,u8 0,u8 0,u8 0,u8 0,u8 0,u8 0,u8 0,u8 0,u8 0,u8 0,u8 0,u8 0,u8 0,u8 0,u8 0,u8 0,u8 0,u8 0,u8 0,u8 0,u8 0,u8 0,u8 0]) [] fun a0=>aB 283 (.agg [u8 0,u8 0,u8 0,u8 0,u8 0,u8 0,u8 0,u8 0,u8 0,u8 0,u8 0,u8 0,u8 0,u8 0,u8 0,u8 0,u8 0,u8 0,u8 0,u8 0,u8 0,u8 0,u8 0,u8 0,u8 0,u8 0,u8 0,u8 0,u8 0,u8 0,u8 0,u8 0,u8 0,u8 0,u8 0,u8 0,u8 0,u8 0,u8 0,u8 0,u8 0,u8 0,u8 0,u8 0,u8 0,u8 0,u8 0,u8 0,u8 0,u8 0,u8 0,u8 0,u8 0,u8 0,u8 0,u8 0,u8 0,u8 0,u8 0,u8 0,u8 0,u8 0,u8 0,u8 0,u8 0,u8 0,u8 0,u8 0,u8 0,u8 0,u8 0,u8 0,u8 0,u8 0,u8 0,u8 0,u8 0,u8 0,u8 0,u8 0,u8 0,u8 0,u8 0,u8 0,u8 0,u8 0,u8 0,u8 0,u8 0,u8 0,u8 0,u8 0,u8 0,u8 0,u8 0,u8 0,u8 0,u8 0,u8 0,u8 0,u8 0,u8 0,u8 0,u8 0,u8 0,u8 0,u8 0,u8 0,u8 0,u8 0,u8 0,u8 0,u8 0,u8 0,u8 0,u8 0,u8 0,u8 0,u8 0,u8 0,u8 0,u8 0,u8 0,u8 0,u8 0,u8 0,u8 0,u8 0,u8 0,u8 0,u8 0,u8 0,u8 0,u8 0,u8 0,u8 0,u8 0,u8 0,u8 0,u8 0,u8 0,u8 0,u8 0,u8 0,u8 0,u8 0,u8 0,u8 0,u8 0,u8 0,u8 0,u8 0,u8 0,u8 0,u8 0,u8 0,u8 0,u8 0,u8 0,u8 0,u8 0,u8 0,u8 0,u8 0,u8 0,u8 0,u8 0,u8 0,u8 0,u8 0,u8 0,u8 0,u8 0,u8 0,u8 0,u8 0,u8 0,u8 0,u8 0,u8 0,u8 0,u8 0,u8 0,u8 0,u8 0,u8 0,u8 0,u8 0,u8 0,u8 0,u8 0,u8 0,u8 0,u8 0,u8 0,u8 0,u8 0,u8 0,u8 0,u8 0,u8 0,u8 0,u8 0,u8 0,u8 0,u8 0,u8 0,u8 0,u8 0,u8 0,u8 0,u8 0,u8 0,u8 0,u8 0,u8 0,u8 0,u8 0,u8 0,u8 0,u8 0,u8 0,u8 0,u8 0,u8 0,u8 0,u8 0,u8 0,u8 0,u8 0,u8 0,u8 0,u8 0,u8 0,u8 0,u8 0,u8 0,u8 0,u8 0,u8 0,u8 0,u8 0,u8 0,u8 0,u8 0,u8 0,u8 0,u8 0,u8 0,u8 0,u8 0,u8 0,u8 0,u8 0,u8 0,u8 0]) d fun f a1=>ah 256 f a0 a1 fun a2=>bc [i_ 0] a2 fun a3 k p =>
 qBe .lss (nx k 0) 256 fun a4=>af a4 (cH .u8 (nx k 0) fun a5=>fW 256 1 f (nx k 0) fun a6=>ah 1 a6 a5 p fun a7=>qBe .add (nx k 0) 1 fun a8=>eC [a,f] (a3 [a8] a7)) (aU a fun a9=>qBe .sub a9 2 fun b0=>bc [b0] p fun b1 l m =>
 qBe .geq (nx l 0) 0 fun b2=>af b2 (au 1 a (nx l 0) fun b3=>ae false 1 b3 m fun b4=>dW b4 (i_ 0) fun b5=>qBe .add (nx l 0) 1 fun b6=>au 1 a b6 fun b7=>ae false 1 b7 m fun b8=>dW b8 (i_ 0) fun b9=>fW 256 1 f b5 fun c0=>ah 1 c0 b9 m fun c1=>qBe .sub (nx l 0) 2 fun c2=>eC [a,f] (b1 [c2] c1)) (pE 284 f fun c3=>K c3 m))) (aU a fun c4=>qBe .quo c4 2 fun c5=>jO 9 1 16 (.str []) (i_ 0) c5 d fun c6 c7=>bf (.agg [qNs,qNs,qNs,qNs,qNs,qNs,qNs,qNs,qNs,qNs,qNs,qNs,qNs,qNs,qNs,qNs,qNs,qNs,qNs,qNs,qNs,qNs,qNs,qNs,qNs,qNs,qNs,qNs,qNs,qNs,qNs,qNs,qNs,qNs,qNs,qNs,qNs,qNs,qNs,qNs,qNs,qNs,qNs,qNs,qNs,qNs,qNs,qNs,qNs,qNs,qNs,qNs,qNs,qNs,qNs,qNs,qNs,qNs,qNs,qNs,qNs,qNs,qNs,qNs,qNs,qNs,qNs,qNs,qNs,qNs,qNs,qNs,qNs,qNs,qNs,qNs,qNs,qNs,qNs,qNs,qNs,qNs,qNs,qNs,qNs,qNs,qNs,qNs,qNs,qNs,qNs,qNs,qNs,qNs,qNs,qNs,qNs,qNs,qNs,qNs,qNs,qNs,qNs,qNs,qNs,qNs,qNs,qNs,qNs,qNs,qNs,qNs,qNs,qNs,qNs,qNs,qNs,qNs,qNs,qNs,qNs,qNs,qNs,qNs,qNs,qNs,qNs,qNs,qNs,qNs,qNs,qNs,qNs,qNs,qNs,qNs,qNs,qNs,qNs,qNs,qNs,qNs,qNs,qNs,qNs,qNs,qNs,qNs,qNs,qNs,qNs,qNs,qNs,qNs,qNs,qNs,qNs,qNs,qNs,qNs,qNs,qNs,qNs,qNs,qNs,qNs,qNs,qNs,qNs,qNs,qNs,qNs,qNs,qNs,qNs,qNs,qNs,qNs,qNs,qNs,qNs,qNs,qNs,qNs,qNs,qNs,qNs,qNs,qNs,qNs,qNs,qNs,qNs,qNs,qNs,qNs,qNs,qNs,qNs,qNs,qNs,qNs,qNs,qNs,qNs,qNs,qNs,qNs,qNs,qNs,qNs,qNs,qNs,qNs,qNs,qNs,qNs,qNs,qNs,qNs,qNs,qNs,qNs,qNs,qNs,qNs,qNs,qNs,qNs,qNs,qNs,qNs,qNs,qNs,qNs,qNs,qNs,qNs,qNs,qNs,qNs,qNs,qNs,qNs,qNs,qNs,qNs,qNs,qNs,qNs,qNs,qNs,qNs,qNs,qNs,qNs,qNs]) [(256,1,c6)] fun c8=>aB 287 (.agg [qNs,qNs,qNs,qNs,qNs,qNs,qNs,qNs,qNs,qNs,qNs,qNs,qNs,qNs,qNs,qNs,qNs,qNs,qNs,qNs,qNs,qNs,qNs,qNs,qNs,qNs,qNs,qNs,qNs,qNs,qNs,qNs,qNs,qNs,qNs,qNs,qNs,qNs,qNs,qNs,qNs,qNs,qNs,qNs,qNs,qNs,qNs,qNs,qNs,qNs,qNs,qNs,qNs,qNs,qNs,qNs,qNs,qNs,qNs,qNs,qNs,qNs,qNs,qNs,qNs,qNs,qNs,qNs,qNs,qNs,qNs,qNs,qNs,qNs,qNs,qNs,qNs,qNs,qNs,qNs,qNs,qNs,qNs,qNs,qNs,qNs,qNs,qNs,qNs,qNs,qNs,qNs,qNs,qNs,qNs,qNs,qNs,qNs,qNs,qNs,qNs,qNs,qNs,qNs,qNs,qNs,qNs,qNs,qNs,qNs,qNs,qNs,qNs,qNs,qNs,qNs,qNs,qNs,qNs,qNs,qNs,qNs,qNs,qNs,qNs,qNs,qNs,qNs,qNs,qNs,qNs,qNs,qNs,qNs,qNs,qNs,qNs,qNs,qNs,qNs,qNs,qNs,qNs,qNs,qNs,qNs,qNs,qNs,qNs,qNs,qNs,qNs,qNs,qNs,qNs,qNs,qNs,qNs,qNs,qNs,qNs,qNs,qNs,qNs,qNs,qNs,qNs,qNs,qNs,qNs,qNs,qNs,qNs,qNs,qNs,qNs,qNs,qNs,qNs,qNs,qNs,qNs,qNs,qNs,qNs,qNs,qNs,qNs,qNs,qNs,qNs,qNs,qNs,qNs,qNs,qNs,qNs,qNs,qNs,qNs,qNs,qNs,qNs,qNs,qNs,qNs,qNs,qNs,qNs,qNs,qNs,qNs,qNs,qNs,qNs,qNs,qNs,qNs,qNs,qNs,qNs,qNs,qNs,qNs,qNs,qNs,qNs,qNs,qNs,qNs,qNs,qNs,qNs,qNs,qNs,qNs,qNs,qNs,qNs,qNs,qNs,qNs,qNs,qNs,qNs,qNs,qNs,qNs,qNs,qNs,qNs,qNs,qNs,qNs,qNs,qNs,qNs]) c7 fun b c9=>ah 257 b c8 c9 fun d0=>aU a fun d1=>qBe .sub d1 2 fun d2=>bc [d2] d0 fun d3 g e =>
 qBe .geq (nx g 0) 0 fun d4=>af d4 (au 1 a (nx g 0) fun d5=>ae false 1 d5 e fun d6=>dW d6 (i_ 0) fun j=>qBe .add (nx g 0) 1 fun d7=>au 1 a d7 fun d8=>ae false 1 d8 e fun n=>aI (fun q=>aN 0 b fun d9=>fW 256 1 d9 j fun e0=>ae false 1 e0 e fun e1=>iH false (sk e1) fun e2=>af e2 (iFL 256 false 1 b e fun e3=>dF 5 1 1 (u8 0) [(0,1,j)] e fun e4 r=>dk e4 r fun e5=>dF 9 1 1 (.str []) [(0,1,e5)] r fun e6 e7=>bN false 9 1 16 e3 e6 e7 fun e8 e9=>aN 256 b fun f0=>ah 1 f0 e8 e9 fun f1=>eC [a,b,nx g 0,j,n] (q [] f1)) (eC [a,b,nx g 0,j,n] (q [] e))) fun g0 f2=>jP 5 n f2 fun f3 f4=>aN 0 b fun f5=>fW 256 1 f5 j fun f6=>ah 1 f6 f3 f4 fun f7=>qBe .sub (nx g 0) 2 fun f8=>eC [a,b] (d3 [f8] f7)) (pE 288 b fun f9=>K f9 e))))
def XY(a:AV):Body p_ 196 [a] (Rp a):=mkB Tryz.func196 (sn (sn (.seq (.seq (.aO (oR 0 4 (.aA 3 true (fR 4 5) [3] [22,27]::.op 9 false::[]))) (.two (.seq (.draw 9 (oR 0 9 []) [] []) .nil) .nil)) (sn (.seq (sn (.one (.loop [3] [4,5] (sn (.join [3,5] [4] .nil .nil))))) (.seq (sn (.two (sn (.seq (sn (.one (.loop [3,6] [61] .nil))) (.seq (sn (.one (.loop [3,6] [8] .nil))) .nil))) .nil)) (sn (.seq (sn (.one (.loop [3,11] [12] (sn (.seq (.one (sn (sn (.join [3,11,12,13,14] [] .nil .nil)))) .nil))))) .nil)))))))) 132 [.tmp 2]
def RO(b:AV)(h:aa)(K:AV→aa→Prop):Prop:=
 aB 327 (.agg [.str [],i_ 0,.str [],.v (.pointer none),qNs,i_ 0,u8 0,u8 0,u8 0,u8 0,u8 0,u8 0,u8 0,u8 0,u8 0,u8 0,u8 0,u8 0,u8 0,u8 0,u8 0,u8 0,u8 0,u8 0,u8 0,u8 0,u8 0,u8 0,u8 0,u8 0,u8 0,u8 0,u8 0,u8 0,u8 0,u8 0,u8 0,u8 0,u8 0,u8 0,u8 0,u8 0,u8 0,u8 0,u8 0,u8 0,u8 0,u8 0,u8 0,u8 0,u8 0,u8 0,u8 0,u8 0,u8 0,u8 0,u8 0,u8 0,u8 0,u8 0,u8 0,u8 0,u8 0,u8 0,u8 0,u8 0,u8 0,u8 0,u8 0,u8 0,u8 0,u8 0,u8 0,u8 0,u8 0,u8 0,u8 0,u8 0,u8 0,u8 0,u8 0,u8 0,u8 0,u8 0,u8 0,u8 0,u8 0,u8 0,u8 0,u8 0,u8 0,u8 0,u8 0,u8 0,u8 0,u8 0,u8 0,u8 0,u8 0,u8 0,u8 0,u8 0,u8 0,u8 0,u8 0,u8 0,u8 0,u8 0,u8 0,u8 0,u8 0,u8 0,u8 0,u8 0,u8 0,u8 0,u8 0,u8 0,u8 0,u8 0,u8 0,u8 0,u8 0,u8 0,u8 0,u8 0,u8 0,u8 0,u8 0,u8 0,u8 0,u8 0,u8 0,u8 0,u8 0,u8 0,u8 0,u8 0,u8 0,u8 0,u8 0,u8 0,u8 0,u8 0,u8 0,u8 0,u8 0,u8 0,u8 0,u8 0,u8 0,u8 0,u8 0,u8 0,u8 0,u8 0,u8 0,u8 0,u8 0,u8 0,u8 0,u8 0,u8 0,u8 0,u8 0,u8 0,u8 0,u8 0,u8 0,u8 0,u8 0,u8 0,u8 0,u8 0,u8 0,u8 0,u8 0,u8 0,u8 0,u8 0,u8 0,u8 0,u8 0,u8 0,u8 0,u8 0,u8 0,u8 0,u8 0,u8 0,u8 0,u8 0,u8 0,u8 0,u8 0,u8 0,u8 0,u8 0,u8 0,u8 0,u8 0,u8 0,u8 0,u8 0,u8 0,u8 0,u8 0,u8 0,u8 0,u8 0,u8 0,u8 0,u8 0,u8 0,u8 0,u8 0,u8 0,u8 0,u8 0,u8 0,u8 0,u8 0,u8 0,u8 0,u8 0,u8 0,u8 0,u8 0,u8 0,u8 0,u8 0,u8 0,u8 0,u8 0,u8 0,u8 0,u8 0,u8 0,u8 0,u8 0,u8 0,u8 0,u8 0,u8 0,u8 0,u8 0,u8 0,u8 0,u8 0,u8 0,u8 0,u8 0,u8 0,u8 0,u8 0,u8 0,u8 0,u8 0,u8 0,u8 0,u8 0,u8 0]) h fun a s=>bc [i_ 0] s fun t f g =>
 aU b fun u=>ag .lss (nx f 0) u fun w=>af w (au 1 b (nx f 0) fun x=>ae false 1 x g fun l=>bc [i_ 0] g fun y m o =>
 cn l fun z=>ag .lss (nx m 0) z fun A=>af A (dW l (nx m 0) fun B=>qFd p_ a 6 fun C=>fW 256 1 C B fun D=>ah 1 D (u8 1) o fun E=>qBe .add (nx m 0) 1 fun F=>eC [b,a,nx f 0,l] (y [F] E)) (qBe .add (nx f 0) 2 fun G=>eC [b,a] (t [G] o))) (ca p_ a fun H=>iFL 6 true 256 H g fun p=>bc [i_ 0] g fun I n i =>
 qBe .lss (nx n 0) 256 fun J=>af J (pW false 1 256 p (nx n 0) fun L=>qLd p_ a 5 i fun M=>cH .i64 L fun N=>ag .add M N fun O=>qSt p_ a 5 O i fun P=>qBe .add (nx n 0) 1 fun Q=>eC [b,a,p] (I [Q] P)) (ca p_ a fun R=>iFL 6 true 256 R i fun j=>bc [u8 0,i_ 0] i fun S c d =>
 qBe .lss (nx c 1) 256 fun T=>af T (aI (fun q=>pW false 1 256 j (nx c 1) fun U=>ag .eql U (u8 0) fun V=>af V (qLd p_ a 5 d fun W=>cH .u8 W fun X=>qFd p_ a 6 fun Y=>fW 256 1 Y (nx c 1) fun Z=>ah 1 Z X d fun a0=>eC [b,a,j,nx c 1] (q [nx c 0] a0)) (qFd p_ a 6 fun a1=>fW 256 1 a1 (nx c 1) fun a2=>ah 1 a2 (nx c 0) d fun a3=>ag .add (nx c 0) (u8 1) fun a4=>eC [b,a,j,nx c 1] (q [a4] a3))) fun a5 a6=>qBe .add (nx c 1) 1 fun a7=>eC [b,a,j] (S [nx a5 0,a7] a6)) (qLd p_ a 5 d fun r=>jO 322 1 8 (.v (.pointer none)) r r d fun a8 a9=>qFd p_ a 0 fun b0=>aN 4 b0 fun b1=>ah 1 b1 a8 a9 fun b2=>bc [i_ 0] b2 fun b3 e k =>
 aU b fun b4=>ag .lss (nx e 0) b4 fun b5=>af b5 (qFd p_ a 0 fun b6=>au 1 b (nx e 0) fun b7=>ae false 1 b7 k fun b8=>qBe .add (nx e 0) 1 fun b9=>au 1 b b9 fun c0=>ae false 1 c0 k fun c1=>dX b fun c2=>ag .sub c2 (nx e 0) fun c3=>iC p_ 284 [b6,b8,c1,c3,a] k fun c6 c4=>qBe .add (nx e 0) 2 fun c5=>eC [b,a] (b3 [c5] c4)) (K a k))))
def Yk(a:AV):Body p_ 254 [a] (RO a):=mkB Tryz.func254 (sn (sn (.seq (sn (.one (.loop [0,3] [4] (sn (.seq (.one (sn (sn (.one (.loop [0,3,4,5] [6] (sn (.seq (.one (.draw 7 (oR 0 7 []) [.op 7 false] [])) .nil))))))) .nil))))) (.seq (sn (.one (.loop [0,3,40] [41] .nil))) (sn (.seq (sn (.one (.loop [0,3,57] [9,58] (sn (sn (.join [0,3,57,58] [9] (.one (sn (sn (.two (.draw 10 (oR 0 10 []) [.op 10 false] []) .nil)))) .nil)))))) (sn (.seq (sn (.one (.loop [0,3] [12] (sn (.seq (.one (.draw 17 (oR 0 17 []) [.op 17 true] [])) .nil))))) .nil)))))))) 117 [.tmp 2]
def G8(a b d e c:AV)(h:aa)(K:AV→aa→Prop):Prop:=
 ag .eql b (.str []) fun z=>af z (qLd p_ a 1 h fun A=>qBe .eql A 0 fun B=>af B (qSt p_ a 0 d h fun C=>qSt p_ a 1 e C fun D=>K (.aw []) D) (K (.aw []) h)) (qLd p_ a 2 h fun E=>ag .neq E (.str []) fun F=>af F (aI (fun p=>bc [i_ 0] h fun G g m =>
 qLd p_ a 2 m fun H=>cn H fun I=>ag .lss (nx g 0) I fun J=>qJa J [a,b,d,e,c,nx g 0] m (fun L=>cn b fun M=>ag .lss (nx g 0) M fun N=>L N m) fun O k=>af O (qLd p_ a 2 k fun P=>dW P (nx g 0) fun Q=>dW b (nx g 0) fun R=>ag .neq Q R fun S=>af S (eC [a,b,d,e,c] (p [nx g 0] k)) (qBe .add (nx g 0) 1 fun T=>eC [a,b,d,e,c] (G [T] k))) (eC [a,b,d,e,c] (p [nx g 0] k))) fun i f=>qLd p_ a 2 f fun U=>cn U fun V=>ag .eql (nx i 0) V fun W=>af W (qLd p_ a 3 f fun X=>eS b (some (nx i 0)) none fun Y=>iC p_ 284 [X,Y,d,e,c] f fun g7 Z=>K (.aw []) Z) (qBe .eql (nx i 0) 0 fun a0=>af a0 (aI (fun q=>qLd p_ a 2 f fun a1=>cn a1 fun a2=>qBe .eql a2 1 fun a3=>af a3 (qLd p_ a 3 f fun a4=>eC [a,b,d,e,c] (q [a4] f)) (qLd p_ a 2 f fun a5=>eS a5 (some (i_ 1)) none fun a6=>qLd p_ a 3 f fun a7=>bf (.agg [.str [],i_ 0,.str [],.v (.pointer none),qNs]) [(2,1,a6),(3,1,a7)] fun a8=>aB 325 a8 f fun a9 b0=>eC [a,b,d,e,c] (q [a9] b0))) fun b1 b2=>aB 325 (.agg [.str [],i_ 0,.str [],.v (.pointer none),qNs]) b2 fun r s=>qLd p_ c 5 s fun t=>jO 322 1 8 (.v (.pointer none)) t t s fun b3 b4=>qSt p_ a 4 b3 b4 fun l=>qLd p_ a 4 l fun b5=>qLd p_ a 2 l fun b6=>dW b6 (i_ 0) fun b7=>qFd p_ c 6 fun b8=>fW 256 1 b8 b7 fun b9=>ae false 1 b9 l fun c0=>au 1 b5 c0 fun c1=>ah 1 c1 (nx b1 0) l fun n=>qLd p_ a 4 n fun c2=>dW b (i_ 0) fun c3=>qFd p_ c 6 fun c4=>fW 256 1 c4 c3 fun c5=>ae false 1 c5 n fun c6=>au 1 c2 c6 fun c7=>ah 1 c7 r n fun c8=>qSt p_ a 2 (.str []) c8 fun c9=>qSt p_ a 3 (.v (.pointer none)) c9 fun d0=>eS b (some (i_ 1)) none fun d1=>iC p_ 284 [r,d1,d,e,c] d0 fun g8 d2=>K (.aw []) d2) (qLd p_ a 2 f fun d3=>eS d3 (some (nx i 0)) none fun d4=>qLd p_ a 3 f fun d5=>bf (.agg [.str [],i_ 0,.str [],.v (.pointer none),qNs]) [(2,1,d4),(3,1,d5)] fun d6=>aB 325 d6 f fun u w=>qLd p_ a 2 w fun d7=>eS d7 none (some (nx i 0)) fun d8=>qSt p_ a 2 d8 w fun d9=>qSt p_ a 3 u d9 fun e0=>eS b (some (nx i 0)) none fun e1=>iC p_ 284 [u,e1,d,e,c] e0 fun g9 e2=>K (.aw []) e2))) (qLd p_ a 4 h fun e3=>iH true (sk e3) fun e4=>af e4 (dW b (i_ 0) fun e5=>qFd p_ c 6 fun e6=>fW 256 1 e6 e5 fun e7=>ae false 1 e7 h fun j=>aI (fun x=>qLd p_ a 4 h fun e8=>au 1 e8 j fun e9=>ae false 1 e9 h fun f0=>iH false (sj f0) fun f1=>af f1 (qLd p_ a 4 h fun f2=>aB 325 (.agg [.str [],i_ 0,.str [],.v (.pointer none),qNs]) h fun f3 f4=>au 1 f2 j fun f5=>ah 1 f5 f3 f4 fun f6=>eC [a,b,d,e,c,j] (x [] f6)) (eC [a,b,d,e,c,j] (x [] h))) fun i0 o=>qLd p_ a 4 o fun f7=>au 1 f7 j fun f8=>ae false 1 f8 o fun f9=>eS b (some (i_ 1)) none fun g0=>iC p_ 284 [f9,g0,d,e,c] o fun i1 g1=>K (.aw []) g1) (qSt p_ a 2 b h fun g2=>aB 325 (.agg [.str [],i_ 0,.str [],.v (.pointer none),qNs]) g2 fun g3 g4=>qSt p_ a 3 g3 g4 fun y=>qLd p_ a 3 y fun g5=>iC p_ 284 [g5,.str [],d,e,c] y fun i2 g6=>K (.aw []) g6)))
def K6(a b c d e:AV):Body p_ 284 [a,b,c,d,e] (G8 a b c d e):=mkB Tryz.func284 (sn (sn (.two (sn (.join [0,1,2,3,4] [10] (.one (.loop [0,1,2,3,4] [10] (.seq (.seq (.aO (oR 0 8 (.aA 7 true (fR 8 4) [0,1,2,3,4,10] [42,46]::.op 12 false::[]))) .nil) (.seq (.one (.seq (.draw 10 (oR 0 10 []) [] []) .nil)) .nil)))) (sn (.two (.draw 10 (oR 0 10 []) [.op 10 true] []) (sn (.two (sn (.join [0,1,2,3,4] [11] (sn (.two .nil (.draw 10 (oR 0 10 []) (oR 10 2 []) []))) (sn (sn (.seq (.draw 16 (oR 0 16 []) [.op 16 false] []) (.seq (.draw 13 (oR 0 13 []) [.op 13 false] []) .nil)))))) (.seq (.draw 11 (oR 0 11 []) (oR 11 2 []) []) .nil))))))) (sn (.two (.seq (.draw 8 (oR 0 8 []) [] []) (.join [0,1,2,3,4,14] [] .nil (.draw 12 (oR 0 12 []) [.op 12 true] []))) .nil))))) 241 []
end
end Go.Proofs.YtkfakehconamoaaGreatDoor
namespace Go.Aw
section
open Go Go.RowKit
mutual
inductive Bz:AV→AV→Prop
 | refl (a:AV):Bz a a
 | nil (s:Nat):Bz (.v (.slice none 0 0)) (.sl s [])
 | sl {s:Nat} {r r':List (List AV)}:lI r r'→Bz (.sl s r) (.sl s r')
 | aw {r r':List AV}:gG r r'→Bz (.aw r) (.aw r')
inductive gG:List AV→List AV→Prop
 | nil:gG [] []
 | cons {a b:AV} {as_ bs:List AV}:Bz a b→gG as_ bs→gG (a:: as_) (b:: bs)
inductive lI:List (List AV)→List (List AV)→Prop
 | nil:lI [] []
 | cons {a b:List AV} {as_ bs:List (List AV)}:gG a b→lI as_ bs→lI (a:: as_) (b:: bs)
end
theorem gG.length:∀{as_ bs:List AV},gG as_ bs→as_.length=bs.length
 | _,_,.nil=>rfl
 | _,_,.cons _ k=>by simp[gG.length k]
theorem lI.length:∀{as_ bs:List (List AV)},lI as_ bs→as_.length=bs.length
 | _,_,.nil=>rfl
 | _,_,.cons _ k=>by simp[lI.length k]
theorem gG.refl:∀as_:List AV,gG as_ as_
 | []=>.nil
 | a:: as_=>.cons (.refl a) (gG.refl as_)
variable {ι:List Ix} {S:bj} {w:World}
mutual
theorem ax.pP:∀{a b:AV},Bz a b→∀v,ax ι S w a v→ax ι S w b v
 | _,_,.refl _,v,h=>h
 | _,_,.nil s,v,h=>by
   rw[cE]at h;subst h;rw[ax];exact⟨none,0,rfl,by simp,by simp,.inl rfl⟩
 | _,_,.sl k,v,h=>by
   rw[ax]at h ⊢;obtain⟨a,cap,rfl,h1,h2,h3⟩:=h;refine⟨a,cap,by rw[k.length],by rw[←k.length];exact h1,h2, ?_⟩;rcases h3 with rfl|⟨b,off,e,h3⟩
   ·left;cases k;rfl
   ·exact .inr ⟨b,off,e,cg.pP k _ _ h3⟩
 | _,_,.aw k,v,h=>by
   rw[ax]at h ⊢;obtain⟨vs,e,h1⟩:=h;exact⟨vs,e,aD.pP k _ h1⟩
theorem aD.pP:∀{as_ bs:List AV},gG as_ bs→∀vs,aD ι S w as_ vs→aD ι S w bs vs
 | _,_,.nil,vs,h=>h
 | _,_,.cons k ks,vs,h=>by
   rw[aD]at h ⊢;obtain⟨u,us,e,h1,h2⟩:=h;exact⟨u,us,e,ax.pP k _ h1,aD.pP ks _ h2⟩
theorem bI.pP:∀{as_ bs:List AV},gG as_ bs→∀b off,bI ι S w as_ b off→bI ι S w bs b off
 | _,_,.nil,b,off,h=>h
 | _,_,.cons k ks,b,off,h=>by
   rw[bI]at h ⊢;obtain⟨⟨u,h1,h2,h3⟩,h4⟩:=h;exact⟨⟨u,h1,h2,ax.pP k _ h3⟩,bI.pP ks _ _ h4⟩
theorem cg.pP:∀{sz:Nat} {as_ bs:List (List AV)},lI as_ bs→∀b off,cg ι S w sz as_ b off→cg ι S w sz bs b off
 | _,_,_,.nil,b,off,h=>h
 | sz,_,_,.cons k ks,b,off,h=>by
   rw[cg]at h ⊢;obtain⟨h1,h2,h3⟩:=h;exact⟨by rw[←k.length];exact h1,bI.pP k _ _ h2,cg.pP ks _ _ h3⟩
end
variable [Laid]
end
section
open Go
section
variable {h:aa} {K:AV→aa→Prop}
theorem uI:∀(b p a:List AV),a.length=b.length→bU (p++a) p.length b=p++b
 | [],p,a,h=>by simp at h;subst h;rfl
 | c:: b,p,x:: a,h=>by
   rw[bU];have e:(p++x:: a).set p.length c=(p++[c])++a:=by simp
   have:=uI b (p++[c]) a (by simpa using h);rw[e,show p.length+1=(p++[c]).length by simp,this];simp
def fY(h:a.length=b.length):bU a 0 b=b:=by simpa using uI b [] a h
def N0{t sz:Nat}(q:K .emp h):dF t 0 sz z [] h K:=q
def N2{t sz:Nat}{cs:List AV}(hv:bl v=cs)(hl:cs.length=sz)(hz:(bl z).length=sz)(hs:cs.all bw=true)(q:K (.own h.length 0 1 sz) (h++[.ak ⟨t,cs,true⟩])):dF t 1 sz z [(0,sz,v)] h K:=by
 subst hv;have:dD (eZ 1 (bl z)) [(0,sz,v)]=some (bl v):=by
  simp only[dD,eZ,aal];rw[if_pos ⟨hl,by omega,hs⟩,fY (by omega)]
 unfold dF;rw[this];exact q
def Iy{e sz bytes:Nat}{rows:List (List AV)}(ex:x=.emp)(hs:iL h sz y=some rows)(hr:rows.all (da sz)=true)(hm:gM bytes rows.length)(q:K (.sb h.length sz rows) (h++[.tok e sz rows.length])):bN false e sz bytes x y h K:=by
 subst ex;unfold bN ep;rw[hs];exact⟨hr,hm,q⟩
def Dj{own:Bool}{e sz bytes id k:Nat}{base rows:List (List AV)}(ex:x=.sb id sz base)(ht:h[id]?=some (.tok e sz k))(hk:k=base.length)(hs:iL h sz y=some rows)(hr:rows.all (da sz)=true)(hm:gM bytes (k+rows.length))(q:K (.sb id sz (base++rows)) (h.set id (.tok e sz (k+rows.length)))):bN own e sz bytes x y h K:=by
 subst ex;unfold bN ep;rw[hs];refine⟨hr, ?_⟩;simp only[xD];rw[ht];exact⟨by simp[hk],hm,q⟩
def Iz{own:Bool}{e sz bytes id len:Nat}{cells:List AV}{rows:List (List AV)}(ex:x=.own id 0 len sz)(hb:h[id]?=some (.ak ⟨e,cells,true⟩))(hl:len*sz≤cells.length)(hp:0<len)(hs:iL h sz y=some rows)(hr:rows.all (da sz)=true)(hm:gM bytes (len+rows.length))
 (q:K (.own h.length 0 (len+rows.length) sz) (h.set id .dead++[.ak ⟨e,cells.take (len*sz)++rows.flatten,true⟩])):bN own e sz bytes x y h K:=by
 subst ex;unfold bN ep;rw[hs];refine⟨hr, ?_⟩;simp only[xD];rw[hb];exact⟨by simp[hl],by omega,hm,q⟩
def dY{m id off len:Nat}{K:AV→Prop}{n:Nat}(ex:x=.own id off len m)(ei:i=i_ n)(hn:n<len)(q:K (.op id (off+n*m))):au m x i K:=by
 subst ex;subst ei;exact⟨rfl,⟨by omega,by omega⟩,by simpa using q⟩
section
variable {h':aa} {n:Nat}
def GJ{t sz:Nat}{cs:List AV}(hv:bl v=cs)(hl:cs.length=sz)(hz:(bl z).length=sz)(hs:cs.all bw=true)(hn:h.length=n)(hh:h++[.ak ⟨t,cs,true⟩]=h')(q:K (.own n 0 1 sz) h'):dF t 1 sz z [(0,sz,v)] h K:=by
 subst hn;subst hh;exact N2 hv hl hz hs q
def S7{e sz bytes k:Nat}{rows:List (List AV)}(ex:x=.emp)(hs:iL h sz y=some rows)(hr:rows.all (da sz)=true)(hk:rows.length=k)(hm:gM bytes k)(hn:h.length=n)(hh:h++[.tok e sz k]=h')(q:K (.sb n sz rows) h'):bN false e sz bytes x y h K:=by
 subst hn;subst hh;subst hk;exact Iy ex hs hr hm q
def JN{own:Bool}{e sz bytes id k:Nat}{base rows:List (List AV)}(ex:x=.sb id sz base)(ht:h[id]?=some (.tok e sz k))(hk:k=base.length)(hs:iL h sz y=some rows)(hr:rows.all (da sz)=true)(hm:gM bytes (k+rows.length))(hh:h.set id (.tok e sz (k+rows.length))=h')(q:K (.sb id sz (base++rows)) h'):bN own e sz bytes x y h K:=by
 subst hh;exact Dj ex ht hk hs hr hm q
def JO{own:Bool}{e sz bytes id len:Nat}{cells:List AV}{rows:List (List AV)}(ex:x=.own id 0 len sz)(hb:h[id]?=some (.ak ⟨e,cells,true⟩))(hl:len*sz≤cells.length)(hp:0<len)(hs:iL h sz y=some rows)(hr:rows.all (da sz)=true)(hm:gM bytes (len+rows.length))(hn:h.length=n)
 (hh:h.set id .dead++[.ak ⟨e,cells.take (len*sz)++rows.flatten,true⟩]=h') (q:K (.own n 0 (len+rows.length) sz) h'):bN own e sz bytes x y h K:=by
 subst hn;subst hh;exact Iz ex hb hl hp hs hr hm q
def bq{cs:List AV}(hv:bl v=cs)(e:cs.all bw=true)(hn:h.length=n)(hh:h++[.ak ⟨t,cs,true⟩]=h')(q:K (.op n 0) h'):aB t v h K:=by
 subst hv;subst hn;subst hh;exact gi e q
def aM{sz id o:Nat}{cs:List AV}{KS:aa→Prop}(e:x=.op id o)(hb:h[id]?=some (.ak b))(hw:b.wr=true)(hv:bl v=cs)(hl:o+cs.length≤b.cells.length)(hz:cs.length=sz)(hs:cs.all bw=true)
 (hh:h.set id (.ak ⟨b.ty,bU b.cells o cs,b.wr⟩)=h') (q:KS h'):ah sz x v h KS:=by
 subst hh;exact gd e hb hw hv hl hz hs q
end
def fT{sz:Nat}{rows:List (List AV)}:iL h sz (.sl sz rows)=some rows:=by simp[iL,lQ]
def MY{sz id off len:Nat}(hb:h[id]?=some (.ak b))(hl:off+len*sz≤b.cells.length):iL h sz (.own id off len sz)=some (chunks sz len (b.cells.drop off)):=by
 rw[EN,hb];simp[hl]
def Nj{rows:List (List AV)}{K:AV→Prop}(ex:x=.sl n rows)(hl:1≤rows.length)(q:K (.sl n (rows.drop 1))):iB n x (some (i_ 1)) none K:=by
 subst ex;rw[Nt];simp only[dS];refine⟨by simp,⟨by omega,by omega,by omega⟩, ?_⟩;simpa using q
end
def jb{cs:List AV}{K:AV→Prop}(e:x=.ip cs)(hn:n≤cs.length)(q:K (.agg (cs.take n))):ae true n x h K:=by
 subst e;rw[Gm];exact⟨hn,q⟩
def G2{d id sz:Nat}{rows:List (List AV)}(p:aX rows):tl 0 h d (.sb id sz rows)=.sl sz rows:=by
 cases d<;>simp[tl,dt,yv _ _ _ _ p]
def jf(p:Aw.Pure a):tl 0 h d a=a:=by
 cases d<;>exact yu _ _ _ _ p
theorem sJ{sz:Nat}:∀rows:List (List AV),rows.all (da sz)=true→chunks sz rows.length rows.flatten=rows
 | [],_=>rfl
 | r:: rows,h=>by
   simp only[aaC,On,da,beq_iff_eq]at h;rw[aab,aaM,chunks];have hr:=h.1.1;rw[aaO (by omega),Of (by omega),List.drop_append_of_le_length (by omega),List.drop_of_length_le (by omega),List.nil_append,sJ rows (by simpa[da]using h.2)]
def oy{d id len sz:Nat}{cells:List AV}(hb:h[id]?=some (.ak b))(hc:b.cells=cells)(hl:len*sz≤cells.length):tl 0 h (d+1) (.own id 0 len sz)=.sl sz ((chunks sz len cells).map (List.map (tl 0 h d))):=by
 subst hc;simp only[tl,dt];rw[if_neg (by omega),hb];simp only[aaq,List.drop_zero];rw[if_pos hl]
def Bg{α:Type}{f:α→List AV}{sz:Nat}(hf:∀x,(f x).length=sz∧(f x).all bw=true)(l:List α):(l.map f).all (da sz)=true:=by
 rw[List.all_map,AT];intro x _;simp only[Function.comp,da,On,beq_iff_eq];exact hf x
end
end Go.Aw
namespace Go.Proofs.YtkfakehconamoaaGreatDoor
section
open Go Go.Aw
abbrev n8(n:Nat):AV:=.v (.int .u8 (Int.ofNat n))
def RC(tb:AV)(ts:Nat)(m:List Nat):List AV:=.str []:: i_ 0:: .str []:: .v (.pointer none):: tb:: i_ ts:: m.map n8
def HR(tb:AV)(ts:Nat)(m:List Nat)(t:aa):aa:=e0:: e1:: .ak (sw 0 1 (.v .nilIface) keys):: .ak ⟨327,RC tb ts m,true⟩:: t
abbrev ve:AV:=.v (.slice none 0 0)
abbrev kS:AV:=.v (.pointer none)
def SR:List (List UInt8):=[[13,10],[13],[12],[0]]
def WT:List (List UInt8):=[[10],[10],[10],[239,191,189]]
def fl(m:List Nat)(s:List UInt8):List Nat:=s.foldl (fun m b=>m.set b.toNat 1) m
def mK(k:Nat):List Nat:=(SR.take k).foldl fl (List.replicate 256 0)
theorem DS:∀(s:List UInt8) (m:List Nat),(fl m s).length=m.length
 | [],_=>rfl
 | b:: s,m=>by
   have:=DS s (m.set b.toNat 1);rw[aan]at this;exact this
def Ef:∀k,(mK k).length=256:=by
 have:∀(l:List (List UInt8)) (m:List Nat),(l.foldl fl m).length=m.length:=by
  intro l;induction l with
  | nil=>intro _;rfl
  | cons s l ih=>intro m;exact (ih _).trans (DS s m)
 intro k;exact (this _ _).trans (by simp)
def TP{tb:AV}{ts n v:Nat}:bU (RC tb ts m) (6+n) [n8 v]=RC tb ts (m.set n v):=by
 show (RC tb ts m).set (6+n) (n8 v)=_;unfold RC;rw[Nat.add_comm,List.map_set];rfl
def yD{tb:AV}{ts:Nat}:(RC tb ts m).length=m.length+6:=by unfold RC;simp
def HP{K:AV→Prop}{i:Nat}(h:[[AV.str [13,10]],[.str [10]],[.str [13]],[.str [10]],[.str [12]],[.str [10]],[.str [0]],[.str [239,191,189]]][i]?=some [.str s])(k:K (.ip [.str s])):au 1 keys (i_ i) K:=by
 have hi:=(dO.1 h).1;refine⟨rfl,⟨by omega, ?_⟩, ?_⟩
 ·show (i:Int)<8;simp at hi;omega
 ·show K (.ip (([[AV.str [13,10]],[.str [10]],[.str [13]],[.str [10]],[.str [12]],[.str [10]],[.str [0]],[.str [239,191,189]]]:List (List AV)).getD (i:Int).toNat []));rw[NO,nO,h];exact k
def Nz(k:Nat)(h:k<4):∃y v,SR[k]?=some y∧WT[k]?=some v∧[[AV.str [13,10]],[.str [10]],[.str [13]],[.str [10]],[.str [12]],[.str [10]],[.str [0]],[.str [239,191,189]]][2*k]?=some [.str y]∧[[AV.str [13,10]],[.str [10]],[.str [13]],[.str [10]],[.str [12]],[.str [10]],[.str [0]],[.str [239,191,189]]][2*k+1]?=some [.str v]∧y.length≤2:=by
 match k,h with
 | 0,_|1,_|2,_|3,_=>exact⟨_,_,rfl,rfl,rfl,rfl,by decide⟩
def Js{K:AV→Prop}{j:Nat}(h:s[j]?=some b)(k:K (n8 b.toNat)):dW (.str s) (i_ j) K:=by
 have hj:=(dO.1 h).1;refine⟨⟨by omega,by omega⟩, ?_⟩;rw[NO,nO,h];exact k
def CR{K:AV→Prop}(k:K (i_ 8)):aU keys K:=fun _=>k
def WO{K:AV→Prop}{id o:Nat}(h:n<256)(k:K (.op id (o+n))):fW 256 1 (.op id o) (n8 n) K:=⟨⟨Int.natCast_nonneg n,by show (n:Int)<256;omega⟩,by show K (.op id (o+(n:Int).toNat*1));rw[NO,Nat.mul_one];exact k⟩
def SE{K:AV→Prop}{id o:Nat}(h:n<256)(k:K (.op id (o+n))):fW 256 1 (.op id o) (i_ n) K:=⟨⟨Int.natCast_nonneg n,by show (n:Int)<256;omega⟩,by show K (.op id (o+(n:Int).toNat*1));rw[NO,Nat.mul_one];exact k⟩
def Ii{tb:AV}{ts n v:Nat}{KS:aa→Prop}(hm:m.length=256)(hn:n<256)(k:KS (HR tb ts (m.set n v) t)):ah 1 (.op 3 (6+n)) (n8 v) (HR tb ts m t) KS:=
 aM (cs:=[n8 v]) (h':=HR tb ts (m.set n v) t) rfl (by rfl) rfl rfl (by show 6+n+1≤(RC tb ts m).length;rw[yD];omega) rfl rfl (by show e0:: e1:: _:: .ak ⟨_,bU (RC tb ts m) (6+n) [n8 v],true⟩:: t=_;rw[TP];rfl) k
abbrev lV(v:List UInt8)(p:Int)(pre:List UInt8)(nx:AV):aY:=.ak ⟨325,[.str v,i_ p,.str pre,nx,ve],true⟩
def HT(tbl:List AV)(t:aa):aa:=HR (.own 4 0 4 1) 4 eF (.ak ⟨322,tbl,true⟩:: t)
def jj{id o off:Nat}{K:AV→Prop}(k:K (.op id (o+off))):ca P (.op id o) fun a=>aN off a K:=k
def S3(b:UInt8):eF[b.toNat]?=some (eF.getD b.toNat 0):=by
 have:eF.length=256:=by kernel_rfl
 rw[bY (by have:=b.toNat_lt;omega),nO,bY (by have:=b.toNat_lt;omega)];rfl
section
variable [Laid]
def qi{args:List AV}{K0 K:AV→aa→Prop}(hb:cJ P f=true)(c:cw P f args h K0)(k:∀r h',K0 r h'→K r h'):bA P (.fn (.func f) [] []) args h K:=⟨hb,by simpa using c.mono k⟩
abbrev yB(n:Nat)(k v:List UInt8)(p:Int)(h h':aa):Prop:=cw p_ 284 [.op n 0,.str k,.str v,i_ p,.op 3 0] h fun r H=>r=.aw []∧H=h'
def tX{v v0 pre:List UInt8}{nx:AV}(hn:h[n]?=some (lV v0 0 pre nx))(hh:h.set n (lV v p pre nx)=h'):yB n [] v p h h':=by
 subst hh;have hlt:=(dO.1 hn).1;refine (K6 _ _ _ _ _).bR ?_;unfold G8;refine zzI (zzL rfl (jj (zzU hn rfl (zzG (zzL rfl (jj (aM (cs:=[.str v]) (h':=h.set n (lV v 0 pre nx)) rfl hn rfl rfl (nE rfl) rfl rfl rfl (jj ?_))))))));refine aM (cs:=[i_ p]) (h':=h.set n (lV v p pre nx)) rfl (iF hlt) rfl rfl (nE rfl) rfl rfl (by rw[aam];rfl) ?_;exact⟨_,_,Wk.refl _ _ _ (by simp),rfl,rfl⟩
def II(hn:h[n]?=some (lV v0 p0 [] kS))(hl:h.length=m)(hh:h.set n (lV v0 p0 [c] (.op m 0))++[lV v p [] kS]=h'):yB n [c] v p h h':=by
 subst hh;subst hl;have hlt:=(dO.1 hn).1;refine (K6 _ _ _ _ _).bR ?_;unfold G8;refine zzI (zzK (by simp) (jj (zzU hn rfl (zzJ (zzK rfl (jj (zzU hn rfl (zzK rfl (jj (aM (cs:=[.str [c]]) (h':=h.set n (lV v0 p0 [c] kS)) rfl hn rfl rfl (nE rfl) rfl rfl rfl (bq (cs:=[.str [],i_ 0,.str [],kS,ve]) (n:=h.length) (h':=h.set n (lV v0 p0 [c] kS)++[lV [] 0 [] kS]) rfl rfl (by simp) rfl (jj ?_))))))))))));refine aM (cs:=[.op h.length 0]) (h':=h.set n (lV v0 p0 [c] (.op h.length 0))++[lV [] 0 [] kS]) rfl (by rw[gE (by simpa using hlt),iF hlt]) rfl rfl (nE rfl) rfl rfl (by rw[Mk _ _ (by simpa using hlt),aam];rfl) ?_;refine jj ?_;refine zzU (by rw[gE (by simpa using hlt),iF hlt]) rfl ?_;refine qi (by kernel_rfl) (tX (v:=v) (p:=p) (pre:=[]) (nx:=kS) (v0:=[]) (h':=h.set n (lV v0 p0 [c] (.op h.length 0))++[lV v p [] kS]) (by rw[iD (by simp)];simp) (by rw[Lt _ _ (by simp)];simp)) ?_;rintro _ _ ⟨rfl,rfl⟩;exact⟨_,_,Wk.refl _ _ _ (by simp),rfl,rfl⟩
omit [Laid] in
def SS{tbl:List AV}{t:aa}{b:UInt8}{K:AV→Prop}(k:K (n8 (eF.getD b.toNat 0))):ae false 1 (.op 3 (6+b.toNat)) (HT tbl t) K:=by
 refine zzU (b:=⟨327,RC (.own 4 0 4 1) 4 eF,true⟩) rfl ?_ k;show (RC (.own 4 0 4 1) 4 eF)[6+b.toNat]?=_;unfold RC;rw[Nat.add_comm,show b.toNat+6=b.toNat+1+1+1+1+1+1 from rfl];simp only[List.getElem?_cons_succ];rw[iS,S3];rfl
def tY{b:UInt8}{r v:List UInt8}{p:Int}{m:Nat}{tbl tbl':List AV}{t t':aa}{h':aa}{n:Nat}(hm:eF.getD b.toNat 0=m)(h4:m<4)(hl:tbl.length=4)(hc:(tbl[m]?=some kS∧n=5+t.length∧tbl'=tbl.set m (.op n 0)∧t'=t++[lV [] 0 [] kS])∨(tbl[m]?=some (.op n 0)∧tbl'=tbl∧t'=t))
 (ha:yB n r v p (HT tbl' t') h') (hh:5+t.length≤h'.length):yB 3 (b:: r) v p (HT tbl t) h':=by
 have hlen:(HT tbl t).length=5+t.length:=by unfold HT HR;simp only[aab];omega
 refine (K6 _ _ _ _ _).bR ?_;unfold G8;have e3:∀(tbl:List AV) (t:aa),(HT tbl t)[3]?=some (.ak ⟨327,RC (.own 4 0 4 1) 4 eF,true⟩):=fun _ _=>rfl;have e4:∀(tbl:List AV) (t:aa),(HT tbl t)[4]?=some (.ak ⟨322,tbl,true⟩):=fun _ _=>rfl;refine zzI (zzK (by simp) (jj (zzU (e3 _ _) rfl (zzJ (zzK rfl (jj (zzU (e3 _ _) rfl (zzL rfl (Js (j:=0) rfl (jj (WO b.toNat_lt (SS ?_))))))))))));rw[hm];have ix:∀{K:AV→Prop},K (.op 4 m)→au 1 (.own 4 0 4 1) (n8 m) K:=fun {K} k=>⟨rfl,⟨Int.natCast_nonneg m,by show (m:Int)<4;omega⟩,by show K (.op 4 (0+(m:Int).toNat*1));rw[NO,aaq,Nat.mul_one];exact k⟩;have fin:(tbl'[m]?=some (.op n 0))→ca p_ (.op 3 0) fun v163=>aN 4 v163 fun v164=>ae false 1 v164 (HT tbl' t') fun v165=>au 1 v165 (n8 m) fun v166=>ae false 1 v166 (HT tbl' t') fun v167=>eS (.str (b:: r)) (some (i_ 1)) none fun v168=>bA p_ (.fn (.func 284) [] []) [v167,v168,.str v,i_ p,.op 3 0] (HT tbl' t') fun _ g170=>∃r' h'',Wk (HT tbl t).length [.aw []] g170 [r'] h''∧r'=.aw []∧h''=h':=by
  intro hx;refine jj (zzU (e3 _ _) rfl (ix (zzU (e4 _ _) hx ?_)));have sl:∀{K:AV→Prop},K (.str r)→eS (.str (b:: r)) (some (i_ 1)) none K:=fun {K} k=>by
   unfold eS;refine⟨⟨by decide,by simp only[aab];omega,by simp⟩, ?_⟩;have e:(((b:: r).take ((b:: r).length:Int).toNat).drop (1:Int).toNat)=r:=by rw[NO,Gt];rfl
   exact (congrArg K (congrArg AV.str e)).mpr k
  refine sl (qi (by kernel_rfl) ha ?_);rintro _ _ ⟨rfl,rfl⟩;exact⟨_,_,Wk.refl _ _ _ (by rw[hlen];exact hh),rfl,rfl⟩
 refine aK (jj (zzU (e3 _ _) rfl (ix ?_)));rcases hc with⟨hx,rfl,rfl,rfl⟩|⟨hx,rfl,rfl⟩
 ·refine zzU (e4 _ _) hx (zzL rfl (jj (zzU (e3 _ _) rfl (bq (cs:=[.str [],i_ 0,.str [],kS,ve]) (n:=5+t.length) (h':=HT tbl (t++[lV [] 0 [] kS])) rfl rfl hlen rfl (ix (aM (cs:=[.op (5+t.length) 0]) (h':=HT (tbl.set m (.op (5+t.length) 0)) (t++[lV [] 0 [] kS])) rfl (e4 _ _) rfl rfl (by show m+1≤tbl.length;omega) rfl rfl rfl (ar ?_)))))));exact fin (iF (by omega))
 ·refine zzU (e4 _ _) hx (zzK rfl (ar ?_));exact fin hx
end
def tN(k:Nat):List AV:=[if k=4 then .op 8 0 else kS,kS,if 3≤k then .op 7 0 else kS,if 1≤k then .op 5 0 else kS]
def vl(k:Nat):aa:=(if 1≤k then [lV (if 2≤k then [10] else []) (if 2≤k then 6 else 0) [10] (.op 6 0),lV [10] 8 [] kS] else [])++(if 3≤k then [lV [10] 4 [] kS] else [])++(if k=4 then [lV [239,191,189] 2 [] kS] else [])
def vG(i:Nat):List Nat:=eF.take i++(mK 4).drop i
def Gf(hi:i<256)(hv:eF.getD i 0=v):(vG i).set i v=vG (i+1):=by
 have h1:eF.length=256:=by kernel_rfl
 have h2:=Ef 4;have e:eF[i]?=some v:=by rw[bY (by omega)];rw[nO,bY (by omega)]at hv;exact congrArg some hv
 have hl:(eF.take i).length=i:=by rw[aai];omega
 unfold vG;rw[Lt _ _ (by omega),hl,Nat.sub_self,aaK (by omega),List.set_cons_zero,DO,e];simp
def Ss:∀i,i<256→eF.getD i 0=if (mK 4).getD i 0=0 then 4 else ((mK 4).take i).sum:=fun i hi=>by
 have:=AT.1 (show ((List.range 256).all fun i=>eF.getD i 0 == if (mK 4).getD i 0=0 then 4 else ((mK 4).take i).sum)=true by kernel_rfl) i (by simpa using hi);simpa using this
def Kz:∀i,i≤256→((mK 4).take i).sum≤4∧(mK 4).getD i 0≤1:=fun i hi=>by
 have:=AT.1 (show ((List.range 257).all fun i=>decide (((mK 4).take i).sum≤4∧(mK 4).getD i 0≤1))=true by kernel_rfl) i (by simp;omega);simpa using this
def EU{m:List Nat}{i:Nat}(h:i<m.length):(m.take (i+1)).sum=(m.take i).sum+m.getD i 0:=by
 rw[DO,bY h,Option.toList_some,List.sum_append,List.sum_cons,List.sum_nil,nO,bY h];rfl
def Nu{m:List Nat}{i:Nat}{K:AV→Prop}(hm:m.length=256)(hi:i<256)(k:K (n8 (m.getD i 0))):pW false 1 256 (.agg (m.map n8)) (i_ i) K:=by
 refine⟨⟨by omega,by show (i:Int)<256;omega⟩, ?_⟩;rw[NO,Nat.mul_one,aaK (by rw[aac];omega),List.getElem_map];have e:m.getD i 0=m[i]:=by rw[nO,bY (by omega)];rfl
 rw[←e];exact k
def IP{K:AV→Prop}(hm:k.wrap n=m)(q:K (.v (.int k m))):cH k (.v (.int k' n)) K:=by subst hm;exact⟨k',n,rfl,q⟩
def Se{K:AV→Prop}(h:n<255)(q:K (n8 (n+1))):ag .add (n8 n) (u8 1) K:=by
 refine⟨rfl, ?_⟩;show K (.v (.int .u8 (IntKind.wrap .u8 ((n:Int)+1))));rw[IntKind.wrap_u8,show ((n:Int)+1)%256=((n+1:Nat):Int) by omega];exact q
section
variable [Laid]
omit [Laid] in
def JA{tb:AV}{ts:Nat}{K:AV→Prop}(hm:m.length=256)(k:K (.agg (m.map n8))):ae true 256 (.op 3 6) (HR tb ts m t) K:=by
 refine zzV (b:=⟨327,RC tb ts m,true⟩) rfl (by show 256≤((RC tb ts m).drop 6).length;rw[List.length_drop,yD];omega) ?_;show K (.agg ((m.map n8).take 256));rw[Of (by rw[aac];omega)];exact k
omit [Laid] in
def U6{tb:AV}{ts v:Nat}{KS:aa→Prop}(k:KS (HR tb v m t)):ah 1 (.op 3 5) (i_ v) (HR tb ts m t) KS:=
 aM (cs:=[i_ v]) (h':=HR tb v m t) rfl rfl rfl rfl (by show 6≤(RC tb ts m).length;rw[yD];omega) rfl rfl rfl k
omit [Laid] in
def ke{tb:AV}{ts:Nat}:(HR tb ts m t).length=4+t.length:=by unfold HR;simp only[aab];omega
omit [Laid] in
def SD{K:AV→Prop}(k:K (i_ 8)):dX keys K:=k
omit [Laid] in
def Sy(k:Nat):(HT (tN 0) (vl 0)).length≤(HT (tN k) (vl k)).length:=by
 unfold HT;rw[ke,ke,aab,aab];exact Nat.add_le_add_left (Nat.succ_le_succ (aao _)) 4
def Um:∀k:Nat,k<4→∀{y v:List UInt8},SR[k]?=some y→WT[k]?=some v→yB 3 y v (8-2*(k:Int)) (HT (tN k) (vl k)) (HT (tN (k+1)) (vl (k+1))):=fun k h y v hy hv=>by
 match k,h with
 | 0,_ =>
   cases hy;cases hv;exact tY (m:=3) (n:=5) (tbl:=tN 0) (t:=[]) rfl (by decide) rfl (.inl ⟨rfl,rfl,rfl,rfl⟩) (II (n:=5) (m:=6) (v0:=[]) (p0:=0) rfl rfl rfl) (by decide)
 | 1,_ =>
   cases hy;cases hv;exact tY (m:=3) (n:=5) (tbl:=tN 1) (t:=vl 1) rfl (by decide) rfl (.inr ⟨rfl,rfl,rfl⟩) (tX (v0:=[]) (pre:=[10]) (nx:=.op 6 0) rfl rfl) (by decide)
 | 2,_ =>
   cases hy;cases hv;exact tY (m:=2) (n:=7) (tbl:=tN 2) (t:=vl 2) rfl (by decide) rfl (.inl ⟨rfl,rfl,rfl,rfl⟩) (tX (v0:=[]) (pre:=[]) (nx:=kS) rfl rfl) (by decide)
 | 3,_ =>
   cases hy;cases hv;exact tY (m:=0) (n:=8) (tbl:=tN 3) (t:=vl 3) rfl (by decide) rfl (.inl ⟨rfl,rfl,rfl,rfl⟩) (tX (v0:=[]) (pre:=[]) (nx:=kS) rfl rfl) (by decide)
def Lg:cw p_ 254 [keys] (Hb 1) fun r H=>r=.op 3 0∧H=HT (tN 4) (vl 4):=by
 refine (Yk _).bR ?_;unfold RO;refine bq (cs:=RC ve 0 (mK 0)) (n:=3) (h':=HR ve 0 (mK 0) []) (by rfl) (by rfl) rfl rfl (aG (α:=Nat) (fun k=>k≤4) (fun k=>[i_ ((2*k:Nat):Int)]) (fun k=>HR ve 0 (mK k) []) (fun k=>4-k) 0 (aao _) (Wk.refl _ _ _ (aS _)) ?_);intro k hk;refine CR (zzC ?_);rcases AS k 4 with q|q
 ·obtain⟨y,v,hy,hv,h1,_,hl⟩:=Nz k q;refine zzL (tO (by omega)) (HP h1 (zzW ?_));have hm:=Ef k;have hlen:∀j,(fl (mK k) (y.take j)).length=256:=fun j=>by rw[DS];exact hm
  refine aG (α:=Nat) (fun j=>j≤y.length) (fun j=>[i_ j]) (fun j=>HR ve 0 (fl (mK k) (y.take j)) []) (fun j=>y.length-j) 0 (aao _) (Wk.refl _ _ _ (aS _)) ?_;intro j hj;refine zzZ fun _=>?_;refine zzC ?_;rcases AS j y.length with z|z
  ·obtain⟨b,hb⟩:∃b,y[j]?=some b:=⟨_,bY z⟩;refine zzL (tO (by omega)) (Js hb (jj (WO b.toNat_lt (Ii (v:=1) (hlen j) b.toNat_lt (zzP (by unfold aZ;omega) (ar ?_))))));refine⟨j+1,z, ?_,by omega⟩;have e:fl (mK k) (y.take (j+1))=(fl (mK k) (y.take j)).set b.toNat 1:=by
    rw[DO,hb];unfold fl;rw[aas];rfl
   rw[e];exact Wk.refl _ _ _ (by rw[ke,ke];exact aS _)
  ·obtain rfl:j=y.length:=by omega
   refine zzK (by simp) (zzP (by unfold aZ;omega) (ar ?_));refine⟨k+1,q, ?_,by omega⟩;have e:mK (k+1)=fl (mK k) (y.take y.length):=by
    unfold mK;rw[DO,hy,aas,Gt];rfl
   rw[e,show (2*(k+1):Nat)=2*k+2 from rfl];exact Wk.refl _ _ _ (by rw[ke,ke];exact aS _)
 obtain rfl:k=4:=by omega
 refine zzK rfl ?_;have hm:=Ef 4;refine jj (JA hm (aG (α:=Nat) (fun i=>i≤256) (fun i=>[i_ i]) (fun i=>HR ve ((mK 4).take i).sum (mK 4) []) (fun i=>256-i) 0 (aao _) (Wk.refl _ _ _ (aS _)) ?_));intro i hi;refine zzC ?_;rcases AS i 256 with q|q
 ·have s1:=Kz i hi;refine zzL (tO (by show (i:Int)<256;omega)) (Nu hm q (jj (zzU rfl rfl (IP (m:=(((mK 4).getD i 0:Nat):Int)) (by rw[IntKind.wrap_i64];show ((((mK 4).getD i 0:Nat):Int)+9223372036854775808)%18446744073709551616-9223372036854775808=_;omega) (zzP (by unfold aZ;omega) (jj ?_))))));have e:=EU (m:=mK 4) (i:=i) (by omega);rw[show (((mK 4).take i).sum:Int)+(((mK 4).getD i 0:Nat):Int)=(((mK 4).take (i+1)).sum:Int) by rw[e];omega];refine U6 (zzP (by unfold aZ;omega) (ar ?_));exact⟨i+1,q,Wk.refl _ _ _ (by rw[ke,ke];exact aS _),by omega⟩
 obtain rfl:i=256:=by omega
 refine zzK rfl ?_;rw[show ((mK 4).take 256).sum=4 by kernel_rfl];refine jj (JA hm ?_);have f0:vG 0=mK 4:=rfl;have fl8:∀i,i≤256→(vG i).length=256:=fun i hi=>by
  have h1:eF.length=256:=by kernel_rfl
  unfold vG;rw[BY,aai,List.length_drop];omega
 refine aG (α:=Nat) (fun i=>i≤256) (fun i=>[n8 ((mK 4).take i).sum,i_ i]) (fun i=>HR ve 4 (vG i) []) (fun i=>256-i) 0 (aao _) (by rw[f0];exact Wk.refl _ _ _ (aS _)) ?_;intro i hi;refine zzC ?_;rcases AS i 256 with q|q
 ·have s1:=Kz i hi;have s2:=Ss i q;have e:=EU (m:=mK 4) (i:=i) (by omega);refine zzL (tO (by show (i:Int)<256;omega)) (aK (Nu hm q (zzG ?_)))
  by_cases z:(mK 4).getD i 0=0
  ·rw[if_pos z]at s2;refine zzL (by rw[z];rfl) (jj (zzU rfl rfl (IP (m:=4) rfl (jj (SE q (Ii (v:=4) (fl8 i hi) q (ar (zzP (by unfold aZ;omega) (ar ?_)))))))));refine⟨i+1,q, ?_,by omega⟩;rw[Gf q s2,e,z];exact Wk.refl _ _ _ (by rw[ke,ke];exact aS _)
  ·rw[if_neg z]at s2;refine zzK (oF (by show ¬(((mK 4).getD i 0:Nat):Int)=0;omega)) (jj (SE q (Ii (fl8 i hi) q (Se (by omega) (ar (zzP (by unfold aZ;omega) (ar ?_)))))));refine⟨i+1,q, ?_,by omega⟩;rw[Gf q s2,e,show (mK 4).getD i 0=1 by omega];exact Wk.refl _ _ _ (by rw[ke,ke];exact aS _)
 obtain rfl:i=256:=by omega
 have f1:vG 256=eF:=by kernel_rfl
 rw[f1];refine zzK rfl (jj (zzU rfl rfl ?_));refine⟨⟨by decide,by decide,by decide,by decide⟩, ?_⟩;refine jj (zzA (aM (cs:=[.own 4 0 4 1]) (h':=HT (tN 0) (vl 0)) rfl rfl rfl rfl (by show 5≤(RC ve 4 eF).length;rw[yD];omega) rfl rfl rfl (aG (α:=Nat) (fun k=>k≤4) (fun k=>[i_ ((2*k:Nat):Int)]) (fun k=>HT (tN k) (vl k)) (fun k=>4-k) 0 (aao _) (Wk.refl _ _ _ (by decide)) ?_)));intro k hk;refine CR (zzC ?_);rcases AS k 4 with q|q
 ·obtain⟨y,v,hy,hv,h1,h2,_⟩:=Nz k q;refine zzL (tO (by omega)) (jj (HP h1 (zzW (zzP (by unfold aZ;omega) (HP h2 (zzW (SD (zzf (by unfold aZ;omega) (qi (by kernel_rfl) (Um k q hy hv) ?_)))))))));rintro _ _ ⟨rfl,rfl⟩;refine zzP (by unfold aZ;omega) (ar ?_);refine⟨k+1,q, ?_,by omega⟩;rw[show (2*(k+1):Nat)=2*k+2 from rfl];exact Wk.refl _ _ _ (Sy _)
 ·obtain rfl:k=4:=by omega
  refine zzK rfl ?_;exact⟨_,_,Wk.refl _ _ _ (by decide),rfl,rfl⟩
def Lc:cw p_ 140 [.op 2 0] (Hb 1) fun r hh=>r=.aw []∧hh=Ha 0 1:=by
 refine (Xr _).bR ?_;unfold QP;have hb:cw p_ 196 [.op 2 0] (Hb 1) fun r hh=>r=.fJ 280 (.op 3 0)∧hh=HT (tN 4) (vl 4):=by
  refine (XY _).bR ?_;unfold Rp;refine jj (zzU rfl rfl (CR (zzG (aK (zzM rfl (ar (zzQ (zzK rfl (aG (α:=Unit) (fun _=>True) (fun _=>[tt,i_ 0]) (fun _=>Hb 1) (fun _=>0) () trivial (Wk.refl _ _ _ (by decide)) ?_)))))))));intro _ _;refine CR (zzC (zzL rfl (aK (HP (i:=0) (s:=[13,10]) rfl (zzW ?_)))));refine zzZ fun _=>?_;refine zzH (zzL rfl (qi (by kernel_rfl) Lg ?_));rintro _ _ ⟨rfl,rfl⟩;exact⟨_,_,Wk.refl _ _ _ (by decide),rfl,rfl⟩
 refine qi (by kernel_rfl) hb ?_;rintro _ _ ⟨rfl,rfl⟩;refine jj (aM (cs:=[.fJ 280 (.op 3 0)]) (h':=(HT (tN 4) (vl 4)).set 2 (.ak ⟨204,[.v (.int .u32 0),.v (.int .i32 1),.v (.int .u32 0),.fJ 280 (.op 3 0),keys],true⟩)) rfl rfl rfl rfl (by decide) rfl rfl rfl (jj (aM (cs:=[ve]) (h':=Ha 0 1) rfl rfl rfl rfl (by decide) rfl rfl (by kernel_rfl) ?_)));exact⟨_,_,Wk.refl _ _ _ (by decide),rfl,rfl⟩
def N4:cw p_ 82 [] [] fun r hh=>r=.op 2 0∧hh=Hb 0:=by
 refine (V82).bR ?_;unfold Wq;have mk:∀{K:AV→aa→Prop},K (.own 0 0 8 1) [e0]→dF 9 8 1 (.str []) [(0,1,(.str [13,10])),(1,1,(.str [10])),(2,1,(.str [13])),(3,1,(.str [10])),(4,1,(.str [12])),(5,1,(.str [10])),(6,1,(.str [0])),(7,1,(.str [239,191,189]))] [] K:=fun k=>k;refine mk ?_;have hn:cw p_ 138 [.own 0 0 8 1] [e0] fun r hh=>r=.op 2 0∧hh=Hb 0:=by
  refine (Xp _).bR ?_;unfold QN;refine aK ?_;refine fun _=>?_;refine⟨rfl,by decide, ?_⟩;refine zzG (zzK rfl (ar ?_));have ap:∀{K:AV→aa→Prop},bN false 9 1 16 .emp (.own 0 0 8 1) [e0] K→bN false 9 1 16 ve (.own 0 0 8 1) [e0] K:=fun k=>k;refine ap (S7 (n:=1) (k:=8) (h':=[e0,e1]) rfl (MY (b:=⟨9,[.str [13,10],.str [10],.str [13],.str [10],.str [12],.str [10],.str [0],.str [239,191,189]],true⟩) rfl (by decide)) rfl rfl ⟨by decide,by decide⟩ rfl rfl (bp rfl (bq (cs:=[.v (.int .u32 0),.v (.int .i32 0),.v (.int .u32 0),.v .nilIface,keys]) (n:=2) (h':=Hb 0) rfl rfl rfl rfl ?_)));exact⟨_,_,Wk.refl _ _ _ (by decide),rfl,rfl⟩
 refine qi (by kernel_rfl) hn ?_;rintro _ _ ⟨rfl,rfl⟩;exact⟨_,_,Wk.refl _ _ _ (aao _),rfl,rfl⟩
end
end
section
open Go Go.Aw
variable [Laid]
def cell_of{base:Nat}(hh:cy base ι S w h){i b:Nat}(e:h[i]?=some (.ak x))(hi:ι[i]?=some (.ak b)){o:Nat}(hc:x.cells[o]?=some c):
 ∃v,w.cell? ⟨b,o,none⟩=some v∧ax ι S w c v∧w.frozen? ⟨b,o,none⟩=false:=by
 obtain⟨b',arr,fz,k1,k2,k3,k4,k5,k6,_⟩:=hh.live i x e;rw[hi]at k1;cases k1;obtain⟨v,e1,r⟩:=k6 o c hc;refine⟨v,by rw[hY k3];exact e1,r, ?_⟩;have hlt:o<arr.size:=(By.1 e1).1;have:=k4 o hlt;rw[rW k3];simpa using this
def Lf:cw p_ 195 [.op 2 0,.fn (.func 140) [.op 2 0] []] (Hb 0) fun r hh=>r=.aw []∧hh=Ha 1 0:=by
 intro base ι S w vs h1 h2
 match vs,h1 with
 | [],h1=>simp at h1
 | [v],h1=>simp at h1
 | v:: u:: x:: vs,h1=>simp at h1
 | [v,u],h1 =>
   simp only[bL,di,and_true]at h1;obtain⟨r1,r2⟩:=h1;rw[ax]at r1;rw[ax]at r2;obtain⟨b,hb,rfl⟩:=r1;obtain⟨ps,qs,rfl,r3,r4⟩:=r2
   match ps,r3 with
   | [],r3=>simp at r3
   | p:: q:: ps,r3=>simp at r3
   | [p],r3 =>
     simp only[bL,di,and_true]at r3;rw[ax]at r3;obtain⟨b',hb',rfl⟩:=r3;rw[hb]at hb';cases hb';simp only[di]at r4;subst r4;have hx:(Hb 0)[2]?=some (.ak (sw 0 0 (.v .nilIface) keys)):=rfl;obtain⟨v0,g0,q0,z0⟩:=cell_of h2 hx hb (o:=0) (c:=.v (.int .u32 0)) rfl;obtain⟨v1,g1,q1,z1⟩:=cell_of h2 hx hb (o:=1) (c:=.v (.int .i32 0)) rfl;rw[cE]at q0 q1;subst q0;subst q1;obtain⟨hE1,hH1⟩:=h2.set hx rfl hb (o:=1) (by simp[sw]) (c:=.v (.int .i32 1)) (v:=.int .i32 1) (by simp);have hH1':cy base ι S (w.setCell ⟨b,1,none⟩ (.int .i32 1)) (Hb 1):=hH1;have hl:=h2.len;have hf:=Lc base ι S _ [.pointer (some ⟨b,0,none⟩)] (by simp only[bL,di,and_true];rw[ax];exact⟨b,hb,rfl⟩) hH1';refine (MS b w (fun w' => ∃ι' S',bM 3 base ι S (w.setCell ⟨b,1,none⟩ (.int .i32 1)) ι' S' w'∧cy base ι' S' w' (Ha 0 1)∧ι'[2]?=some (.ak b)) g0 g1 z0 z1 (hf.mono ?_)).mono ?_
     ·rintro e w' ⟨v,ι',S',r,h',rfl,k1,k2,k3,k4,rfl,rfl⟩;rw[ax]at k2;obtain⟨us,rfl,k2⟩:=k2;simp only[di]at k2;subst k2;have hx':(Ha 0 1)[2]?=some (.ak (sw 0 1 (.fJ 280 (.op 3 0)) (.v (.slice none 0 0)))):=rfl;have hb2:ι'[2]?=some (.ak b):=by
       obtain⟨b',arr,fz,m1,_⟩:=k3.live 2 _ hx';have:=k1.pre 2 (by decide);rw[hb,m1]at this;rw[m1];simpa[eW]using this
      obtain⟨v0,g0,q0,z0⟩:=cell_of k3 hx' hb2 (o:=0) (c:=.v (.int .u32 0)) rfl;obtain⟨v1,g1,q1,z1⟩:=cell_of k3 hx' hb2 (o:=1) (c:=.v (.int .i32 1)) rfl;rw[cE]at q1;subst q1;exact⟨rfl,⟨v0,g0⟩,g1,z0,z1,ι',S',k1,k3,hb2⟩
     ·rintro e w'' ⟨rfl,w',⟨ι',S',k1,k3,hb2⟩,rfl⟩;obtain⟨d1,d2⟩:=k3.drew;have hx':(Ha 0 1)[2]?=some (.ak (sw 0 1 (.fJ 280 (.op 3 0)) (.v (.slice none 0 0)))):=rfl;obtain⟨s1,s2⟩:=d2.set hx' rfl hb2 (o:=0) (by simp[sw]) (c:=.v (.int .u32 1)) (v:=.int .u32 1) (by simp);have s2':cy base ι' S' (w'.drew.setCell ⟨b,0,none⟩ (.int .u32 1)) (Ha 1 1):=s2;have hx2:(Ha 1 1)[2]?=some (.ak (sw 1 1 (.fJ 280 (.op 3 0)) (.v (.slice none 0 0)))):=rfl;obtain⟨t1,t2⟩:=s2'.set hx2 rfl hb2 (o:=1) (by simp[sw]) (c:=.v (.int .i32 0)) (v:=.int .i32 0) (by simp);have t2':cy base ι' S' ((w'.drew.setCell ⟨b,0,none⟩ (.int .u32 1)).setCell ⟨b,1,none⟩ (.int .i32 0)) (Ha 1 0):=t2;have hl3:ι.length=3:=hl;have hl9:3≤ι'.length:=by rw[k3.len];decide
      have E0:bM 3 base ι S w ι S (w.setCell ⟨b,1,none⟩ (.int .i32 1)):=hE1.mono (by omega) (aS _);exact⟨_,ι',S',.aw [],Ha 1 0,rfl,((((E0.trans k1).trans (d1.mono hl9 (aS _))).trans (s1.mono hl9 (aS _))).trans (t1.mono hl9 (aS _))),by rw[ax];exact⟨[],rfl,by simp⟩,t2',by decide,rfl,rfl⟩
def Ld:cw p_ 194 [.op 2 0] (Hb 0) fun r hh=>r=b_ false∧hh=Hb 0:=by
 intro base ι S w vs h1 h2
 match vs,h1 with
 | [],h1=>simp at h1
 | v:: u:: vs,h1=>simp at h1
 | [v],h1 =>
   simp only[bL,di,and_true]at h1;rw[ax]at h1;obtain⟨b,hb,rfl⟩:=h1;have hx:(Hb 0)[2]?=some (.ak (sw 0 0 (.v .nilIface) keys)):=rfl;obtain⟨v0,g0,q0,z0⟩:=cell_of h2 hx hb (o:=0) (c:=.v (.int .u32 0)) rfl;rw[cE]at q0;subst q0;refine (B4 _ w g0).mono ?_;rintro e w' ⟨rfl,rfl⟩;exact⟨_,ι,S,b_ false,_,rfl,bM.refl _ _ _ _ _,by simp,h2,aS _,rfl,rfl⟩
def La:cw p_ 139 [.op 2 0,.fn (.func 140) [.op 2 0] []] (Hb 0) fun r hh=>r=.aw []∧hh=Ha 1 0:=by
 refine (Xq _ _).bR ?_;unfold QO;simp only[mR,qS];refine⟨by kernel_rfl,Ld.mono ?_⟩;rintro r hh ⟨rfl,rfl⟩;simp only[SC,Pn];refine⟨fun _=>⟨by kernel_rfl,Lf.mono ?_⟩,fun q=>by cases q⟩;rintro r hh ⟨rfl,rfl⟩;exact⟨_,_,Wk.refl _ _ _ (by decide),rfl,rfl⟩
omit [Laid] in
def sR:rb.drop 4=.own 4 0 4 1:: rb.drop 5:=by kernel_rfl
omit [Laid] in
def sS:rb.drop 5=i_ 4:: rb.drop 6:=by kernel_rfl
omit [Laid] in
def Ts:rb.length=262:=by kernel_rfl
omit [Laid] in
def Tt(n:Nat)(h:n<256):rb.drop (6+n)=u8 (eF.getD n 0):: rb.drop (6+n+1):=by
 have hl:6+n<rb.length:=by rw[Ts];omega
 rw[aaK hl]
 congr 1
 have:eF.length=256:=by kernel_rfl
 simp[rb,show 6+n=n+1+1+1+1+1+1 by omega,this,h]
omit [Laid] in
def S4(n:Nat)(h:n<256)(h0:n≠0)(h1:n≠12)(h2:n≠13):eF.getD n 0=4∨eF.getD n 0=1:=by
 have:=AT.1 (show ((List.range 256).all fun n=>n == 0||n == 12||n == 13||eF.getD n 0 == 4||eF.getD n 0 == 1)=true by kernel_rfl) n (by simpa using h);simp only[aaH,beq_iff_eq]at this;omega
end
section
open Go Go.Aw
variable [bB]
def G(x y:aY):aa:=e0:: e1:: .ak (sw 1 0 (.fJ 280 (.op 3 0)) (.v (.slice none 0 0))):: .ak ⟨327,rb,true⟩:: .ak ⟨322,tb,true⟩:: (NT++[x,y])
omit [bB] in
@[simp] theorem Ni(x y:aY):(G x y).length=11:=rfl
omit [bB] in
@[simp] theorem G_3(x y:aY):(G x y)[3]?=some (.ak ⟨327,rb,true⟩):=rfl
omit [bB] in
@[simp] theorem G_4(x y:aY):(G x y)[4]?=some (.ak ⟨322,tb,true⟩):=rfl
omit [bB] in
@[simp] theorem G_9(x y:aY):(G x y)[9]?=some x:=rfl
omit [bB] in
@[simp] theorem abI(x y:aY):(G x y)[10]?=some y:=rfl
omit [bB] in
@[simp] theorem abK(x y z:aY):(G x y).set 9 z=G z y:=rfl
omit [bB] in
@[simp] theorem abE(x y z:aY):(G x y).set 10 z=G x z:=rfl
omit [bB] in
def rp:rb.tail=i_ 0:: rb.drop 2:=by kernel_rfl
omit [bB] in
@[simp] theorem abJ(x y:aY)(l:aa):(G x y++l)[3]?=some (.ak ⟨327,rb,true⟩):=rfl
omit [bB] in
@[simp] theorem abB(x y:aY)(l:aa):(G x y++l)[10]?=some y:=rfl
omit [bB] in
@[simp] theorem abD(x y z:aY):(G x y++[z])[11]?=some z:=rfl
omit [bB] in
@[simp] theorem ZC(x y z:aY)(l:aa):(G x y++l).set 10 z=G x z++l:=rfl
omit [bB] in
def pU(s:List UInt8):(s.map fun b=>[bS b]).flatten=s.map bS:=by
 induction s with
 | nil=>rfl
 | cons b s ih=>simp[ih]
omit [bB] in
def Zb:tb.tail=.v (.pointer none):: tb.drop 2:=by kernel_rfl
omit [bB] in
def PB:od p_ "WriteString" 425=some 398:=by kernel_rfl
omit [bB] in
def PA:od p_ "Replace" 280=some 380:=by kernel_rfl
def YC(h:aa):cw p_ 382 [.fJ 425 (.op 10 0)] h fun r hh=>r=.fJ 425 (.op 10 0)∧hh=h:=by
 refine (Yz _).bR ?_;unfold R3;have:DY p_ 429 425=true:=by kernel_rfl
 simp[this];exact Wk.refl _ _ _ (aS _)
omit [bB] in
def py(s:List UInt8):zG (s.map bS)=some s:=by
 induction s with
 | nil=>rfl
 | cons b s ih=>simp[zG,bS]at ih ⊢;simp[ih]
def Hn(s:List UInt8)(hl:4000<s.length):aV p_ 62 [.str s] (.aw [.str [],i_ 28]):=by
 refine (Vg _).aQ (by simp) (by simp) ?_;unfold R5;have hn:(4000:Int)<(s.length:Int):=by omega
 simp[hn];exact fun _=>.pure (by simp) rfl
end
section
open Go Go.Aw Go.RowKit
variable [bB]
section
variable [Laid]
omit [Laid] in
omit [bB] in
def M8{K:AV→Prop}(ex:x=i_ a)(ey:y=i_ b)(q:K (i_ (dn .or .i64 a b))):ag .or x y K:=by
 subst ex;subst ey;simpa[ag]using q
def ik(b f t:Int):Bool:=decide (f≤b)&&decide (b≤t)
omit [bB] in
def oG(b f t:Int):aV p_ 202 [i_ b,i_ f,i_ t] (b_ (ik b f t)):=by
 refine (X1 _ _ _).aQ (by simp) (by simp) ?_;unfold Rs
 by_cases h1:f≤b
 ·simp[h1];exact .pure (by simp) (by simp[ik,h1])
 ·simp[h1];exact .pure (by simp) (by simp[ik,h1])
omit [bB] in
def mJ(n:Int):aV p_ 145 [i_ n] (b_ (ik n 48 57)):=by
 refine (Xv _).aQ (by simp) (by simp) ?_;unfold QT;refine uCon (oG n 48 57) ?_;exact .pure (by simp) rfl
def ek_(n:Int):Bool:=(ik (dn .or .i64 n 32) 97 122&&decide (n<128)&&decide (64<n))||decide (n=95)||decide (128≤n)
omit [bB] in
def vz(n:Int):aV p_ 144 [i_ n] (b_ (ek_ n)):=by
 refine (Xu _).aQ (by simp) (by simp) ?_;unfold QS;refine M8 rfl rfl (uCon (oG (dn .or .i64 n 32) 97 122) ?_)
 by_cases c1:n<128
 all_goals by_cases c2:64<n
 all_goals by_cases c3:n=95
 all_goals cases h1:ik (dn .or .i64 n 32) 97 122
 all_goals
  repeat first|((with_reducible apply aK))|((with_reducible apply ar))|((with_reducible apply gZ);rfl)|((with_reducible apply iZ);rfl)|((with_reducible apply cX);rfl)|((with_reducible apply bu);rfl)|((with_reducible apply bt);rfl)|((with_reducible apply oQ true);rfl;rfl;exact tO (by omega))|((with_reducible apply oQ false);rfl;rfl;exact oF (by omega))|((with_reducible apply me true);rfl;rfl;exact tO (by omega))|((with_reducible apply me false);rfl;rfl;exact oF (by omega))|((with_reducible apply nH true);rfl;rfl;exact tO (by omega))|((with_reducible apply nH false);rfl;rfl;exact oF (by omega))|((with_reducible apply mc true);rfl;rfl;exact tO (by omega))|((with_reducible apply mc false);rfl;rfl;exact oF (by omega))|((with_reducible apply lu true);rfl;rfl;exact tO (by omega))|((with_reducible apply lu false);rfl;rfl;exact oF (by omega))
  exact .pure (by simp) (by first|(simp[ek_,h1,c1,c2,c3];done)|(simp[ek_,h1,c1,c2,c3];omega)|(exfalso;omega))
def tM(n:Int):Bool:=decide (n=32)||decide (n=9)||decide (n=10)
omit [bB] in
def rQ(n:Int):aV p_ 87 [i_ n] (b_ (tM n)):=by
 refine (V87 _).aQ (by simp) (by simp) ?_;unfold Wv
 by_cases c1:n=32
 all_goals by_cases c2:n=9
 all_goals by_cases c3:n=10
 all_goals
  repeat first|((with_reducible apply aK))|((with_reducible apply ar))|((with_reducible apply gZ);rfl)|((with_reducible apply iZ);rfl)|((with_reducible apply cX);rfl)|((with_reducible apply bu);rfl)|((with_reducible apply bt);rfl)|((with_reducible apply oQ true);rfl;rfl;exact tO (by omega))|((with_reducible apply oQ false);rfl;rfl;exact oF (by omega))|((with_reducible apply me true);rfl;rfl;exact tO (by omega))|((with_reducible apply me false);rfl;rfl;exact oF (by omega))|((with_reducible apply nH true);rfl;rfl;exact tO (by omega))|((with_reducible apply nH false);rfl;rfl;exact oF (by omega))|((with_reducible apply mc true);rfl;rfl;exact tO (by omega))|((with_reducible apply mc false);rfl;rfl;exact oF (by omega))|((with_reducible apply lu true);rfl;rfl;exact tO (by omega))|((with_reducible apply lu false);rfl;rfl;exact oF (by omega))
  exact .pure (by simp) (by first|(simp[tM,c1,c2,c3];done)|(exfalso;omega))
omit [bB] in
def yP(n:Int):aV p_ 90 [i_ n] (b_ (ek_ n||ik n 48 57||decide (n=45))):=by
 refine (V90 _).aQ (by simp) (by simp) ?_;unfold Wy;refine uCon (vz n) ?_;cases h1:ek_ n
 ·repeat first|((with_reducible apply aK))|((with_reducible apply ar))|((with_reducible apply gZ);rfl)|((with_reducible apply iZ);rfl)|((with_reducible apply cX);rfl)|((with_reducible apply bu);rfl)|((with_reducible apply bt);rfl)|((with_reducible apply oQ true);rfl;rfl;exact tO (by omega))|((with_reducible apply oQ false);rfl;rfl;exact oF (by omega))|((with_reducible apply me true);rfl;rfl;exact tO (by omega))|((with_reducible apply me false);rfl;rfl;exact oF (by omega))|((with_reducible apply nH true);rfl;rfl;exact tO (by omega))|((with_reducible apply nH false);rfl;rfl;exact oF (by omega))|((with_reducible apply mc true);rfl;rfl;exact tO (by omega))|((with_reducible apply mc false);rfl;rfl;exact oF (by omega))|((with_reducible apply lu true);rfl;rfl;exact tO (by omega))|((with_reducible apply lu false);rfl;rfl;exact oF (by omega))
  refine uCon (mJ n) ?_;cases h2:ik n 48 57;all_goals by_cases c1:n=45
  all_goals
   repeat first|((with_reducible apply aK))|((with_reducible apply ar))|((with_reducible apply gZ);rfl)|((with_reducible apply iZ);rfl)|((with_reducible apply cX);rfl)|((with_reducible apply bu);rfl)|((with_reducible apply bt);rfl)|((with_reducible apply oQ true);rfl;rfl;exact tO (by omega))|((with_reducible apply oQ false);rfl;rfl;exact oF (by omega))|((with_reducible apply me true);rfl;rfl;exact tO (by omega))|((with_reducible apply me false);rfl;rfl;exact oF (by omega))|((with_reducible apply nH true);rfl;rfl;exact tO (by omega))|((with_reducible apply nH false);rfl;rfl;exact oF (by omega))|((with_reducible apply mc true);rfl;rfl;exact tO (by omega))|((with_reducible apply mc false);rfl;rfl;exact oF (by omega))|((with_reducible apply lu true);rfl;rfl;exact tO (by omega))|((with_reducible apply lu false);rfl;rfl;exact oF (by omega))
   exact .pure (by simp) (by simp[c1])
 ·repeat first|((with_reducible apply aK))|((with_reducible apply ar))|((with_reducible apply gZ);rfl)|((with_reducible apply iZ);rfl)|((with_reducible apply cX);rfl)|((with_reducible apply bu);rfl)|((with_reducible apply bt);rfl)|((with_reducible apply oQ true);rfl;rfl;exact tO (by omega))|((with_reducible apply oQ false);rfl;rfl;exact oF (by omega))|((with_reducible apply me true);rfl;rfl;exact tO (by omega))|((with_reducible apply me false);rfl;rfl;exact oF (by omega))|((with_reducible apply nH true);rfl;rfl;exact tO (by omega))|((with_reducible apply nH false);rfl;rfl;exact oF (by omega))|((with_reducible apply mc true);rfl;rfl;exact tO (by omega))|((with_reducible apply mc false);rfl;rfl;exact oF (by omega))|((with_reducible apply lu true);rfl;rfl;exact tO (by omega))|((with_reducible apply lu false);rfl;rfl;exact oF (by omega))
  exact .pure (by simp) (by simp)
omit [bB] in
def OP(l m:List UInt8):aV p_ 141 [.str l,.str m] (b_ (decide (m.length≤l.length)&&decide (l.take m.length=m))):=by
 refine (Xs _ _).aQ (by simp) (by simp) ?_;unfold QQ
 by_cases h1:m.length≤l.length
 ·simp[h1];refine fun _ _=>.pure (by simp) (by simp)
 ·simp[h1];refine fun _ _=>.pure (by simp) (by simp)
omit [bB] in
def qJ(l m:List UInt8):aV p_ 84 [.str l,.str m] (b_ (decide (m.length≤l.length)&&decide (l.take m.length=m))):=by
 refine (V84 _ _).aQ (by simp) (by simp) ?_;unfold Wt;refine uCon (OP l m) ?_;exact .pure (by simp) rfl
end
/-! Forms that the kernel runs. -/
def jC_(m:List UInt8):List UInt8→Bool:=List.rec (motive:=fun _=>List UInt8→Bool) (fun _=>true) (fun y _ ih l=>match l with|[]=>false|x:: l=>match Nat.beq x.toNat y.toNat with|true=>ih l|false=>false) m
end
section
open Go Go.Aw Go.Qt
variable [Laid]
def HD(c:UInt8):aV p_ 157 [bS c] (b_ (cx c)):=by
 refine (XG _).aQ (by simp[bS,Aw.Pure]) (by simp) ?_;unfold Q5;refine zzF (jR (b2:=decide ((c.toNat:Int)≤122)) rfl rfl (fun _ F k=>kv rfl rfl ⟨rfl,k⟩) (HQ (p:=decide ((48:Int)≤c.toNat)) (q:=decide ((c.toNat:Int)≤57)) rfl rfl (fun _=>rfl) rfl (fun F k=>fk rfl rfl ⟨rfl,k⟩) (fun _ s F k=>kv rfl rfl ⟨rfl,k⟩) (dJ (b2:=decide ((c.toNat:Int)=45)) rfl rfl (fun _ F k=>bK rfl rfl ⟨rfl,k⟩) (dJ (b2:=decide ((c.toNat:Int)=95)) rfl rfl (fun _ F k=>bK rfl rfl ⟨rfl,k⟩) (CS (b2:=decide ((128:Int)≤c.toNat)) rfl (fun _ F k=>fk rfl rfl k) ?_)))));exact .pure (by simp) rfl
def yT(s:Qt.ao):aV p_ 106 [.str s] (b_ (fK s)):=by
 refine (W4 _).aQ (by simp) (by simp) ?_;unfold Qw;refine zzZ fun hm=>?_;refine zzC ?_;have ix:∀{K:AV→Prop},decide ((s.length:Int)<1)=false→K (bS (s.getD 0 0))→dW (.str s) (i_ 0) K:=fun h k=>by
  have h:=At h;exact qx (n:=0) rfl rfl (by rw[bY (by omega),nO,bY (by omega)];rfl) k
 refine dJ (b2:=decide ((64:Int)<s.length)) rfl rfl (fun _ F k=>gR rfl fun _=>cS rfl rfl ⟨rfl,k⟩) (dJ (b2:=decide (((s.getD 0 0).toNat:Int)<97)) rfl rfl (fun h F k=>ix (by simp only[aaS]at h;exact h.1) (zzC ⟨rfl,k⟩)) (dJ (b2:=decide ((122:Int)<(s.getD 0 0).toNat)) rfl rfl (fun h F k=>ix (by simp only[aaS]at h;exact h.1.1) (zzE ⟨rfl,k⟩)) ?_));refine aW rfl (fun e=>?_) fun e=>?_
 ·refine .pure (by simp) ?_;simp only[aaH,OF]at e;have:fK s=false:=by
   unfold fK Jn;simp only[Bool.and_eq_false_iff,decide_eq_false_iff_not];omega
  rw[this]
 simp only[aaS,decide_eq_false_iff_not]at e;have hn:fK s=s.all cx:=by
  unfold fK Jn;rw[tO (by omega),tO (by omega),tO (by omega),tO (by omega)];rfl
 rw[hn];refine zzZ fun _=>?_;refine aG (α:=Nat) (fun k=>k≤s.length∧(s.take k).all cx=true) (fun k=>[i_ k]) (fun _=>[]) (fun k=>s.length-k) 0 ⟨aao _,rfl⟩ (Wk.refl _ _ _ (by simp)) ?_;rintro k ⟨hk,ha⟩;refine zzC ?_;refine aW rfl (fun q=>?_) fun q=>?_
 ·have q:k<s.length:=by have:=uP q;omega
  refine qx (n:=k) rfl rfl (bY q) ?_;refine uCon (HD _) (zzO ?_);refine aW rfl (fun z=>?_) fun z=>?_
  ·refine .pure (by simp) ?_;have z:cx s[k]=false:=by simpa using z
   rw[show s.all cx=false by rw[List.all_eq_false];exact⟨s[k],aaw q,by rw[z];decide⟩]
  ·refine zzP (by unfold aZ;omega) ?_;have z:cx s[k]=true:=by simpa using z
   refine⟨rfl,k+1,⟨q, ?_⟩,Wk.refl _ _ _ (by simp),by omega⟩;rw[List.take_succ_eq_append_getElem q,List.all_append,ha];simp[z]
 ·have q:¬k<s.length:=fun h=>by have:=At q;omega
  refine .pure (by simp) ?_;obtain rfl:k=s.length:=by omega
  rw[Gt]at ha;rw[ha]
theorem Aa(l:List (Qt.ao×Qt.ao)):aV p_ 107 [.sl 2 (l.map eO)] (b_ (gH l)):=by
 refine (W5 _).aQ (by simp only[aq,Aw.Pure,and_true];exact eJ xf _) (by simp) ?_;unfold Qx;refine zzg (n:=l.length) (by simp) fun hm=>?_;refine aG (α:=Nat×aa) (fun p=>p.1≤l.length∧(List.range p.1).all (vY l)=true) (fun p=>[i_ p.1]) (fun p=>p.2) (fun p=>l.length-p.1) (0,[]) ⟨aao _,rfl⟩ (Wk.refl _ _ _ (by simp)) ?_;have hm':l.length<2^63:=by unfold maxLen at hm;omega
 rintro⟨k,H⟩ ⟨hk,ha⟩;simp only at hk ha ⊢;refine zzC ?_;refine aW rfl (fun q=>?_) fun q=>?_
 ·have q:k<l.length:=by have:=uP q;omega
  obtain⟨a,hl⟩:∃a,l[k]?=some a:=⟨_,bY q⟩;have hd:l.getD k ([],[])=a:=by rw[nO,hl];rfl
  refine zzc (l:=l) (f:=eO) rfl rfl hl (jb rfl (aS 2) (bq (cs:=[.str [],.str []]) rfl (by simp[bw]) rfl rfl (aM (b:=⟨69,[.str [],.str []],true⟩) (cs:=eO a) (h':=H++[.ak ⟨69,eO a,true⟩]) rfl (by simp) rfl rfl (aS 2) rfl (by simp[eO,bw]) (by simp[eO,bU]) ?_)));have hG:(H++[.ak ⟨69,eO a,true⟩])[H.length]?=some (.ak ⟨69,eO a,true⟩):=by simp
  refine zzA (zzU hG rfl ?_);refine zzT (by kernel_rfl) (yT _) (zzO (CT (b2:=decide ((400:Int)<a.2.length)) rfl (fun _ F k=>aR rfl (zzU hG rfl (Gp rfl (zzE (k _ rfl))))) ?_));refine Nv (p:=decide ((0:Int)<(k:Int))) (q:=!Op.bytesLess (l.getD (k-1) ([],[])).1 a.1) rfl rfl (fun _ F c=>cS rfl rfl (c _ rfl)) (fun h _ s F c=>?_) ?_
  ·have h:0<k:=by have:=uP h;omega
   refine zzf (by unfold aZ;omega) ?_;have hp:l[k-1]?=some (l.getD (k-1) ([],[])):=by rw[nO,bY (by omega)];rfl
   refine zzc (n:=k-1) (l:=l) (f:=eO) rfl (by rw[Int.natCast_sub (by omega)];rfl) hp ?_;refine zzX (zzW ?_);refine zzA (zzU hG rfl ?_);exact SH rfl rfl (c _ rfl)
  have eb:vY l k=!((!fK a.1||decide ((400:Int)<a.2.length))||(decide ((0:Int)<(k:Int))&&!Op.bytesLess (l.getD (k-1) ([],[])).1 a.1)):=by
   unfold vY;rw[hd,show decide (a.2.length≤400)=!decide ((400:Int)<a.2.length) by rw[Bool.eq_iff_iff];simp;omega,show decide (k=0)=!decide ((0:Int)<(k:Int)) by rw[Bool.eq_iff_iff];simp];cases fK a.1<;>cases decide ((400:Int)<a.2.length)<;>cases decide ((0:Int)<(k:Int))<;>cases Op.bytesLess (l.getD (k-1) ([],[])).1 a.1<;>rfl
  refine aW rfl (fun z=>?_) fun z=>?_
  ·refine .pure (by simp) ?_;have:gH l=false:=by
    unfold gH;rw[show (List.range l.length).all (vY l)=false by rw[List.all_eq_false];exact⟨k,ID.2 q,by rw[eb,z];decide⟩];rfl
   rw[this]
  ·refine zzP (by unfold aZ;omega) ?_;refine⟨(by trivial),(k+1,_),⟨q, ?_⟩,Wk.refl _ _ _ (by simp),by simp only;omega⟩;rw[List.range_succ,List.all_append,ha,Bool.true_and,aaC,List.all_nil,Bool.and_true,eb,z];rfl
 ·have q:¬k<l.length:=fun h=>by have:=At q;omega
  obtain rfl:k=l.length:=by omega
  refine zzg (n:=l.length) (by simp) fun hm=>?_;refine zzD (.pure (by simp) ?_);have:gH l=decide ((l.length:Int)≤16):=by
   unfold gH;rw[ha,Bool.true_and,Bool.eq_iff_iff];simp;omega
  rw[this]
end
section
open Go Go.Aw
variable [Laid]
def Q6(a b:AV)(h:aa)(K:AV→aa→Prop):Prop:=
 iC p_ 217 [a,b] h fun c d=>qBe .geq c 0 fun e=>K e d
def XH(a b:AV):Body p_ 158 [a,b] (Q6 a b):=mkB Tryz.func158 .nil 9 [.tmp 4]
def RF(c e:AV)(h:aa)(K:AV→aa→Prop):Prop:=
 aU c fun d=>bc [i_ 0] h fun f a b =>
 ag .lss (nx a 0) d fun g=>af g (au 1 c (nx a 0) fun i=>ae false 1 i b fun j=>ag .eql e j fun k=>af k (K (nx a 0) b) (qBe .add (nx a 0) 1 fun l=>eC [c,e,d] (f [l] b))) (K (i_ (-1)) b)
def Yc(a b:AV):Body p_ 217 [a,b] (RF a b):=mkB Tryz.func217 (sn (.seq (sn (.one (.loop [0,1,7] [8] .nil))) .nil)) 19 [.tmp 4]
end
end Go.Proofs.YtkfakehconamoaaGreatDoor
section
namespace Go.Qt
open Go Go.Aw
def BV(l:List Int)(x:Int):Int:=if x∈l then (l.idxOf x:Int) else -1
theorem SF(l:List Int)(x:Int):decide ((0:Int)≤BV l x)=l.contains x:=by
 unfold BV
 by_cases h:x∈l
 ·rw[if_pos h,tO (by omega)];simp[h]
 ·rw[if_neg h,oF (by omega)];simp[h]
end Go.Qt
namespace Go.Proofs.YtkfakehconamoaaGreatDoor
open Go Go.Aw Go.Qt
variable [Laid]
abbrev dI(l:List Int):List (List AV):=l.map fun c=>[i_ c]
theorem Ho(l:List Int)(x:Int):aV p_ 217 [.sl 1 (dI l),i_ x] (i_ (BV l x)):=by
 refine (Yc _ _).aQ (by simp only[aq,Aw.Pure,and_true];exact eJ (fun c=>by simp[aq,Aw.Pure]) _) (by simp) ?_;unfold RF;refine zzg (n:=l.length) (by simp) fun hm=>?_;refine aG (α:=Nat) (fun k=>k≤l.length∧∀i,i<k→l[i]?≠some x) (fun k=>[i_ k]) (fun _=>[]) (fun k=>l.length-k) 0 ⟨aao _,fun i h=>absurd h (aap i)⟩ (Wk.refl _ _ _ (by simp)) ?_;have hm':l.length<2^63:=by unfold maxLen at hm;omega
 rintro k ⟨hk,ha⟩;refine zzC ?_;refine aW rfl (fun q=>?_) fun q=>?_
 ·have q:k<l.length:=by have:=uP q;omega
  obtain⟨c,hl⟩:∃c,l[k]?=some c:=⟨_,bY q⟩;refine zzc (l:=l) (f:=fun c=>[i_ c]) rfl rfl hl (zzW (zzG ?_));refine aW rfl (fun z=>?_) fun z=>?_
  ·obtain rfl:x=c:=uP z;refine .pure (by simp) ?_;have e:BV l x=k:=by
    unfold BV;rw[if_pos (eQ hl)]
    congr 1
    have h1:l.idxOf x<l.length:=List.idxOf_lt_length_of_mem (eQ hl);have h2:l[l.idxOf x]?=some x:=by rw[bY h1];simp
    rcases Nat.lt_trichotomy (l.idxOf x) k with h|h|h
    ·exact absurd h2 (ha _ h)
    ·exact h
    ·exfalso;have:=List.not_of_lt_findIdx (p:=(· == x)) (xs:=l) (i:=k) (by rw[List.idxOf]at h;exact h);rw[bY q]at hl;simp at this;exact this (GO hl)
   rw[e];rfl
  ·have z:¬x=c:=At z;refine zzP (by unfold aZ;omega) ?_;refine⟨rfl,k+1,⟨q,fun i h=>?_⟩,Wk.refl _ _ _ (by simp),by omega⟩;rcases AS i k with hi|hi
   ·exact ha i hi
   ·obtain rfl:i=k:=by omega
    rw[hl];exact fun e=>z (GO e).symm
 ·have q:¬k<l.length:=fun h=>by have:=At q;omega
  refine .pure (by simp) ?_;have e:BV l x=-1:=by
   unfold BV;rw[if_neg fun hx=>by
    obtain⟨i,hi,e⟩:=List.mem_iff_getElem.1 hx;exact ha i (by omega) (by rw[bY hi,e])]
  rw[e]
theorem Co(l:List Int)(x:Int):aV p_ 158 [.sl 1 (dI l),i_ x] (b_ (l.contains x)):=by
 refine (XH _ _).aQ (by simp only[aq,Aw.Pure,and_true];exact eJ (fun c=>by simp[aq,Aw.Pure]) _) (by simp) ?_;unfold Q6;refine uCon (Ho l x) (zzF (.pure (by simp) ?_));show b_ (decide ((0:Int)≤BV l x))=_;rw[SF]
end Go.Proofs.YtkfakehconamoaaGreatDoor
end
section
namespace Go.Qt
open Go Go.Aw
def lr(n:Nat)(S:List Int):List AV:=(List.range n).map fun c:Nat=>b_ (S.contains (c:Int))
theorem Kp(n:Nat)(S:List Int):(lr n S).length=n:=by simp[lr]
theorem MO{n:Nat}{S:List Int}{c:Int}(h0:0≤c)(h:c<n):(lr n S)[c.toNat]?=some (b_ (S.contains c)):=by
 unfold lr;rw[iS,aah (by omega)];show some (b_ (S.contains ((c.toNat:Nat):Int)))=_;rw[Int.toNat_of_nonneg h0]
theorem Kq{n:Nat}{S:List Int}{c:Int}(h0:0≤c)(h:c<n):(lr n S).set c.toNat tt=lr n (S++[c]):=by
 apply List.ext_getElem?;intro k;rw[List.getElem?_set];unfold lr
 by_cases hk:k<n
 ·rw[iS,iS,aah hk]
  by_cases e:c.toNat=k
  ·rw[if_pos e,if_pos (by simp;omega)];have:((k:Nat):Int)=c:=by omega
   simp[this]
  ·rw[if_neg e];have:¬((k:Nat):Int)=c:=by omega
   simp[this]
 ·rw[if_neg (by omega),lE (by simp;omega),lE (by simp;omega)]
end Go.Qt
namespace Go.Proofs.YtkfakehconamoaaGreatDoor
open Go Go.Aw Go.Qt
variable [Laid]
theorem HA{t:bg}(h64:t.length≤64){i:Nat}(hi:i<t.length)(hc:(nd t i).ch.length≤2^40):aV p_ 108 [cV t,i_ i] (b_ (vS t i)):=by
 refine (W6 _ _).aQ (by simp only[aq,Aw.Pure,and_true];exact dh t) (by simp) ?_;unfold Qy;have hnd:∀{c:Int},0≤c→c<t.length→t[c.toNat]?=some (nd t c):=fun h0 h=>by unfold nd;rw[nO,bY (by omega)];rfl
 have hn:t[i]?=some (nd t i):=by have:=hnd (c:=(i:Int)) (by omega) (by omega);rwa [NO]at this
 obtain⟨x,hx⟩:∃x,nd t i=x:=⟨_,rfl⟩;have lkE:vS t i=(xc t i x.par&&(!decide (0≤x.par)||(nd t x.par).ch.contains i)&&(List.range x.ch.length).all (zn t i x.ch)):=by unfold vS;rw[hx]
 rw[lkE];rw[hx]at hn hc;refine bq (cs:=[.sl 4 (t.map bx)]) rfl (by simp[bw]) rfl rfl ?_;refine zzA (zzU rfl rfl ?_);refine zzc (l:=t) (f:=bx) rfl rfl hn (jb rfl (aS 4) (bq rfl (by simp[bw]) rfl rfl (aM (cs:=bx x) (h':=[.ak ⟨24,[.sl 4 (t.map bx)],true⟩,.ak ⟨38,bx x,true⟩]) rfl rfl rfl rfl (aS 4) rfl (by simp[bx,bw]) rfl ?_)));have ldT:∀{H:aa} {K:AV→Prop},H[0]?=some (.ak ⟨24,[.sl 4 (t.map bx)],true⟩)→K (.sl 4 (t.map bx))→aN 0 (.op 0 0) fun a=>ae false 1 a H K:=fun hb k=>aR rfl (zzU hb rfl k);refine zzA (zzU rfl rfl ?_);refine zzC (dJ (b2:=decide ((t.length:Int)≤x.par)) rfl rfl (fun _ F k=>aR rfl (zzU rfl rfl (ldT rfl (zzg (n:=t.length) (by simp) fun _=>fk rfl rfl ⟨rfl,k⟩)))) (HQ (p:=decide ((i:Int)=0)) (q:=!decide (x.par=-1)) rfl rfl (fun _=>rfl) rfl (fun F k=>bK rfl rfl ⟨rfl,k⟩) (fun _ s F k=>aR rfl (zzU rfl rfl (zzH ⟨rfl,k⟩))) ?_));have eP:xc t i x.par=!((decide (x.par < -1)||decide ((t.length:Int)≤x.par))||(decide ((i:Int)=0)&&!decide (x.par=-1))):=by
  unfold xc;rw[show decide (-1≤x.par)=!decide (x.par < -1) by rw[Bool.eq_iff_iff];simp,show decide (x.par<t.length)=!decide ((t.length:Int)≤x.par) by rw[Bool.eq_iff_iff];simp];cases decide (x.par < -1)<;>cases decide ((t.length:Int)≤x.par)<;>cases decide ((i:Int)=0)<;>cases decide (x.par=-1)<;>rfl
 refine aW rfl (fun e=>.pure (by simp) (by rw[eP,e];rfl)) fun e=>?_;rw[eP,e];simp only[aaS,decide_eq_false_iff_not]at e;have hp:¬(t.length:Int)≤x.par:=e.1.2;refine zzA (zzU rfl rfl ?_);refine zzF ?_;refine jR (b2:=!(nd t x.par).ch.contains (i:Int)) rfl rfl (fun h F k=>?_) ?_
 ·have h0:0≤x.par:=uP h;refine ldT rfl (zzA (zzU rfl rfl ?_));refine zzc (n:=x.par.toNat) (l:=t) (f:=bx) rfl (by show i_ x.par=_;rw[Int.toNat_of_nonneg h0]) (hnd h0 (by omega)) ?_;refine zzX (zzW ?_);exact uCon (Co _ _) (zzO ⟨rfl,k⟩)
 refine aW rfl (fun z=>.pure (by simp) (by
  rw[On]at z;have z2:(nd t x.par).ch.contains (i:Int)=false:=by simpa using z.2
  rw[z.1,z2];rfl)) fun z=>?_
 have z1:(!decide (0≤x.par)||(nd t x.par).ch.contains (i:Int))=true:=by
  cases h:decide (0≤x.par) with
  | false=>rfl
  | true=>rw[h,Bool.true_and]at z;simpa using z
 rw[z1,Bool.not_false,Bool.true_and,Bool.true_and];refine ldT rfl (zzg (n:=t.length) (by simp) fun hm=>?_);rw[wR];refine⟨⟨by omega,Int.le_refl _,by omega,by omega⟩, ?_⟩;have hB2:∀S:List Int,eZ ((t.length:Int)).toNat (bl ff)=lr t.length []:=fun _=>by
  unfold lr;rw[NO];generalize t.length=n;apply List.ext_getElem?;intro k;have hr:∀m,eZ m (bl ff)=List.replicate m ff:=fun m=>by
   induction m with
   | zero=>rfl
   | succ m ih=>rw[eZ,ih];rfl
  rw[hr,iS,List.getElem?_replicate]
  by_cases hk:k<n
  ·rw[if_pos hk,aah hk];rfl
  ·rw[if_neg hk,lE (by simp;omega)];rfl
 rw[hB2 []];refine zzA (zzU rfl rfl ?_);refine zzg (n:=x.ch.length) (by simp) fun hm2=>?_;refine aG (α:=Nat) (fun k=>k≤x.ch.length∧(List.range k).all (zn t i x.ch)=true) (fun k=>[i_ k]) (fun k=>[.ak ⟨24,[.sl 4 (t.map bx)],true⟩,.ak ⟨38,bx x,true⟩,.ak ⟨4,lr t.length (x.ch.take k),true⟩]) (fun k=>x.ch.length-k) 0 ⟨aao _,rfl⟩ (Wk.refl _ _ _ (by simp)) ?_;rintro k ⟨hk,ha⟩;refine zzC ?_;refine aW rfl (fun q=>?_) fun q=>?_
 ·have q:k<x.ch.length:=by have:=uP q;omega
  obtain⟨c,hl⟩:∃c,x.ch[k]?=some c:=⟨_,bY q⟩;have hd:x.ch.getD k 0=c:=by rw[nO,hl];rfl
  refine zzc (l:=x.ch) (f:=fun c=>[i_ c]) rfl rfl hl (zzW (zzC (dJ (b2:=decide ((t.length:Int)≤c)) rfl rfl (fun _ F k=>ldT rfl (zzg (n:=t.length) (by simp) fun _=>fk rfl rfl ⟨rfl,k⟩)) ?_)));have ix:∀{K:AV→Prop},0≤c→c<t.length→K (.op 2 c.toNat)→au 1 (.own 2 0 t.length 1) (i_ c) K:=fun h0 h k=>dY (n:=c.toNat) rfl (by rw[Int.toNat_of_nonneg h0]) (by omega) (by rw[Nat.mul_one,aaq];exact k);refine dJ (b2:=(x.ch.take k).contains c) rfl rfl (fun h F z=>?_) ?_
  ·simp only[aaS,decide_eq_false_iff_not]at h;exact ix (by omega) (by omega) (zzU rfl (MO (by omega) (by omega)) ⟨rfl,z⟩)
  refine dJ (b2:=!decide ((nd t c).par=i)) rfl rfl (fun h F z=>?_) ?_
  ·simp only[aaS,decide_eq_false_iff_not]at h;refine ldT rfl (zzc (n:=c.toNat) (l:=t) (f:=bx) rfl (by rw[Int.toNat_of_nonneg (by omega)]) (hnd (by omega) (by omega)) ?_);exact zzX (zzW (zzH ⟨rfl,z⟩))
  have eC:zn t i x.ch k=!(((decide (c<0)||decide ((t.length:Int)≤c))||(x.ch.take k).contains c)||!decide ((nd t c).par=i)):=by
   unfold zn iE;rw[hd,show decide (0≤c)=!decide (c<0) by rw[Bool.eq_iff_iff];simp,show decide (c<t.length)=!decide ((t.length:Int)≤c) by rw[Bool.eq_iff_iff];simp];cases decide (c<0)<;>cases decide ((t.length:Int)≤c)<;>cases (x.ch.take k).contains c<;>cases decide ((nd t c).par=i)<;>rfl
  refine aW rfl (fun z=>?_) fun z=>?_
  ·refine .pure (by simp) ?_;rw[show (List.range x.ch.length).all (zn t i x.ch)=false by rw[List.all_eq_false];exact⟨k,ID.2 q,by rw[eC,z];decide⟩]
  ·have z':=z;simp only[aaS,decide_eq_false_iff_not]at z';have h0:0≤c:=by omega
   have h1:c<t.length:=by omega
   refine ix h0 h1 (aM (b:=⟨4,lr t.length (x.ch.take k),true⟩) (cs:=[tt]) rfl rfl rfl rfl (by rw[Kp];simp only[aab,aaN];omega) rfl rfl rfl (zzP (by unfold aZ;omega) ?_));refine⟨rfl,k+1,⟨q, ?_⟩, ?_,by omega⟩
   ·rw[List.range_succ,List.all_append,ha,Bool.true_and,aaC,List.all_nil,Bool.and_true,eC,z];rfl
   ·have e1:x.ch.take (k+1)=x.ch.take k++[c]:=by rw[DO,hl];rfl
    have e2:bU (lr t.length (x.ch.take k)) c.toNat [tt]=lr t.length (x.ch.take (k+1)):=by rw[e1,←Kq h0 h1];rfl
    rw[←e2];exact Wk.refl _ _ _ (by simp)
 ·have q:¬k<x.ch.length:=fun h=>by have:=At q;omega
  obtain rfl:k=x.ch.length:=by omega
  exact .pure (by simp) (by rw[ha])
end Go.Proofs.YtkfakehconamoaaGreatDoor
end
section
namespace Go.Qt
open Go Go.Aw
theorem kA{t:bg}{c:Int}(h0:0≤c)(h:c<t.length):t[c.toNat]?=some (nd t c):=by unfold nd;rw[nO,bY (by omega)];rfl
theorem pn{t:bg}{i:Nat}(h:i<t.length):t[i]?=some (nd t i):=by have:=kA (t:=t) (c:=(i:Int)) (by omega) (by omega);rwa [NO]at this
theorem ri{t:bg}(h:(List.range t.length).all (rf t)=true){c:Int}(h0:0≤c)(hc:c<t.length):-1≤(nd t c).par∧(nd t c).par<t.length:=by
 have:=AT.1 h c.toNat (ID.2 (by omega));unfold rf vS xc at this;simp only[On,OF]at this;rw[Int.toNat_of_nonneg h0]at this;exact this.2.1.1.1
end Go.Qt
namespace Go.Proofs.YtkfakehconamoaaGreatDoor
open Go Go.Aw Go.Qt
variable [Laid]
theorem pS{t:bg}(hs:eH t):aV p_ 67 [cV t] (i_ (lR t)):=by
 refine (V67 _).aQ (by simp only[aq,Aw.Pure,and_true];exact dh t) (by simp) ?_;unfold Wd;obtain⟨B,hB⟩:∃B:aY,B=.ak ⟨24,[.sl 4 (t.map bx)],true⟩:=⟨_,rfl⟩;refine bq (cs:=[.sl 4 (t.map bx)]) (h':=[B]) rfl (by simp[bw]) rfl (by rw[hB];rfl) ?_;have ldT:∀{H:aa} {K:AV→Prop},H[0]?=some B→K (.sl 4 (t.map bx))→aN 0 (.op 0 0) fun a=>ae false 1 a H K:=fun hb k=>aR rfl (zzU (by rw[hb,hB]) rfl k);have bad:cU t=false→∀H,cf (i_ (lR t)) (i_ 8) H:=fun h H=>.pure (by simp) (by unfold lR;rw[h];rfl);refine ldT rfl (zzg (n:=t.length) (by simp) fun _=>bZ rfl rfl ?_);refine dJ (b2:=decide ((64:Int)<t.length)) rfl rfl (fun _ F k=>ldT rfl (zzg (n:=t.length) (by simp) fun _=>cS rfl rfl ⟨rfl,k⟩)) ?_;refine aW rfl (fun e=>bad ?_ _) fun e=>?_
 ·unfold cU;simp only[aaH,OF]at e;simp only[Bool.and_eq_false_iff,decide_eq_false_iff_not];omega
 simp only[aaS,decide_eq_false_iff_not]at e;have h1:1≤t.length:=by omega
 have h64:t.length≤64:=by omega
 have okE:cU t=((List.range t.length).all (rf t)&&(List.range t.length).all fun i=>fy t t.length i):=by unfold cU;rw[tO h1,tO h64];rfl
 have len0:∀{H:aa},H[0]?=some B→1≤H.length:=fun h=>by have:=(dO.1 h).1;omega
 refine ldT rfl (zzg (n:=t.length) (by simp) fun _=>?_);refine aG (α:=Nat×aa) (fun p=>p.2[0]?=some B∧p.1≤t.length∧(List.range p.1).all (rf t)=true) (fun p=>[i_ p.1]) (fun p=>p.2) (fun p=>t.length-p.1) (0,[B]) ⟨rfl,aao _,rfl⟩ (Wk.refl _ _ _ (by simp)) ?_;rintro⟨k,H⟩ ⟨hH,hk,ha⟩;simp only at hH hk ha ⊢;have hl:=len0 hH;refine zzC ?_;refine aW rfl (fun q=>?_) fun q=>?_
 ·have q:k<t.length:=by have:=uP q;omega
  obtain⟨x,hx⟩:∃x,nd t k=x:=⟨_,rfl⟩;have hn:=pn q;rw[hx]at hn;refine zzc (l:=t) (f:=bx) rfl rfl hn (jb rfl (aS 4) (bq rfl (by simp[bw]) rfl rfl (aM (b:=⟨38,[.str [],.v (.slice none 0 0),i_ 0,.v (.slice none 0 0)],true⟩) (cs:=bx x) (h':=H++[.ak ⟨38,bx x,true⟩]) rfl (by simp) rfl rfl (aS 4) rfl (by simp[bx,bw]) (by simp[bx,bU]) ?_)));have hG:(H++[.ak ⟨38,bx x,true⟩])[H.length]?=some (.ak ⟨38,bx x,true⟩):=by simp
  have hG0:(H++[.ak ⟨38,bx x,true⟩])[0]?=some B:=by rw[gE (by omega)];exact hH
  refine zzA (zzU hG rfl ?_);refine uCon (yT _) (zzO (dJ (b2:=!gH x.dZ) rfl (by trivial) (fun _ F z=>aR rfl (zzU hG rfl (uCon (Aa _) (zzO ⟨(by trivial),z⟩)))) (dJ (b2:=!vS t k) rfl (by trivial) (fun _ F z=>cK (b:=⟨24,[.sl 4 (t.map bx)],true⟩) rfl (hG0.trans (by rw[hB])) (aS 1) (uCon (HA h64 q (hs _)) (zzO ⟨(by trivial),z⟩))) ?_)));have eN:rf t k=!((!fK x.tag||!gH x.dZ)||!vS t k):=by
   unfold rf;rw[hx];cases fK x.tag<;>cases gH x.dZ<;>cases vS t k<;>rfl
  refine aW rfl (fun z=>bad ?_ _) fun z=>?_
  ·rw[okE,show (List.range t.length).all (rf t)=false by rw[List.all_eq_false];exact⟨k,ID.2 q,by rw[eN,z];decide⟩];rfl
  ·refine zzP (by unfold aZ;omega) ?_;refine⟨(by trivial),(k+1,_),⟨hG0,q, ?_⟩,Wk.refl _ _ _ (by simp),by simp only;omega⟩;simp only;rw[List.range_succ,List.all_append,ha,Bool.true_and,aaC,List.all_nil,Bool.and_true,eN,z];rfl
 have q:¬k<t.length:=fun h=>by have:=At q;omega
 obtain rfl:k=t.length:=by omega
 rw[ha,Bool.true_and]at okE;refine ldT hH (zzg (n:=t.length) (by simp) fun _=>?_);refine aG (α:=Nat) (fun k=>k≤t.length∧(List.range k).all (fun i=>fy t t.length i)=true) (fun k=>[i_ k]) (fun _=>H) (fun k=>t.length-k) 0 ⟨aao _,rfl⟩ (Wk.refl _ _ _ (aS _)) ?_;rintro k ⟨hk,hu⟩;refine zzC ?_;refine aW rfl (fun q=>?_) fun q=>?_
 ·have q:k<t.length:=by have:=uP q;omega
  refine aG (α:=Nat×Int) (fun p=>p.1≤t.length∧-1≤p.2∧p.2<t.length∧fy t t.length k=fy t (t.length-p.1) p.2) (fun p=>[i_ p.1,i_ p.2]) (fun _=>H) (fun p=>t.length-p.1) (0,(k:Int)) ⟨aao _,by simp only;omega,by simp only;omega,rfl⟩ (Wk.refl _ _ _ (aS _)) ?_;rintro⟨m,c⟩ ⟨hm,hc1,hc2,hup⟩;simp only at hm hc1 hc2 hup ⊢;refine zzF ?_;refine aW rfl (fun z=>?_) fun z=>?_
  ·have z:0≤c:=uP z;refine zzP (by unfold aZ;omega) ?_;refine ldT hH (zzg (n:=t.length) (by simp) fun _=>cS rfl rfl ?_);refine aW rfl (fun y=>bad ?_ _) fun y=>?_
   ·have y:(t.length:Int)<m+1:=uP y;have hu0:fy t t.length k=false:=by
     rw[hup,show t.length-m=0 by omega,fy,oF (by omega)]
    rw[okE,List.all_eq_false];exact⟨k,ID.2 q,by rw[hu0];decide⟩
   ·have y:¬(t.length:Int)<m+1:=At y;refine ldT hH (zzc (n:=c.toNat) (l:=t) (f:=bx) rfl (by show i_ c=_;rw[Int.toNat_of_nonneg z]) (kA z hc2) ?_);refine zzX (zzW ?_);have hp:=ri ha z hc2;refine⟨(by trivial),(m+1,(nd t c).par),⟨by simp only;omega,hp.1,hp.2, ?_⟩,Wk.refl _ _ _ (aS _),by simp only;omega⟩;simp only;rw[hup,show t.length-m=(t.length-(m+1))+1 by omega,fy,if_neg (by omega)]
  ·have z:¬0≤c:=At z;refine zzP (by unfold aZ;omega) ?_;refine⟨(by trivial),k+1,⟨q, ?_⟩,Wk.refl _ _ _ (aS _),by omega⟩;have hu1:fy t t.length k=true:=by
    rw[hup];cases t.length-m with
    | zero=>rw[fy];exact tO (by omega)
    | succ n=>rw[fy,if_pos (by omega)]
   rw[List.range_succ,List.all_append,hu,Bool.true_and,aaC,List.all_nil,Bool.and_true];exact hu1
 ·have q:¬k<t.length:=fun h=>by have:=At q;omega
  obtain rfl:k=t.length:=by omega
  refine .pure (by simp) ?_;unfold lR;rw[okE,hu];rfl
end Go.Proofs.YtkfakehconamoaaGreatDoor
end
section
namespace Go.Qt
open Go Go.Aw
theorem gD{t:bg}(h:cU t=true):1≤t.length∧t.length≤64:=by
 unfold cU at h;simp only[On,OF]at h;exact h.1.1
theorem lW{t:bg}(h:cU t=true):(List.range t.length).all (rf t)=true:=by
 unfold cU at h;simp only[On,OF]at h;exact h.1.2
theorem NH{t:bg}(h:cU t=true){c:Int}(h0:0≤c)(hc:c<t.length):fy t t.length c=true:=by
 unfold cU at h;simp only[On,OF]at h;have:=AT.1 h.2 c.toNat (ID.2 (by omega))
 rwa [Int.toNat_of_nonneg h0]at this
theorem Es{t:bg}(h:cU t=true){c:Int}(h0:0≤c)(hc:c<t.length):fy t (t.length-1) (nd t c).par=true:=by
 have:=NH h h0 hc;obtain⟨n,hn⟩:∃n,t.length=n+1:=⟨t.length-1,by have:=(gD h).1;omega⟩;rw[hn,fy,if_neg (by omega)]at this;rw[hn];exact this
theorem vu{t:bg}{i:Int}(h:fB t [i]=0):cU t=true∧0≤i∧i<t.length:=by
 unfold fB at h;split at h
 ·rename_i q;split at h
  ·rename_i z;simp only[aaC,List.all_nil,Bool.and_true]at z;unfold iE at z;simp only[On,OF]at z;exact⟨q,z⟩
  ·exact absurd h (by decide)
 ·exact absurd h (by decide)
end Go.Qt
namespace Go.Proofs.YtkfakehconamoaaGreatDoor
open Go Go.Aw Go.Qt
variable [Laid]
theorem IZ{t:bg}(hs:eH t)(l:List Int)(hl:l.length≤2^40):aV p_ 50 [cV t,.sl 1 (dI l)] (i_ (fB t l)):=by
 refine (V50 _ _).aQ (by simp only[aq,Aw.Pure,and_true];exact⟨dh t,eJ (fun c=>by simp[aq,Aw.Pure]) _⟩) (by simp) ?_;unfold VT;refine bq (cs:=[.sl 4 (t.map bx)]) rfl (by simp[bw]) rfl rfl (zzV (b:=⟨24,[.sl 4 (t.map bx)],true⟩) rfl (aS 1) (uCon (pS hs) (zzH ?_)));cases hk:cU t with
 | false =>
   have e:lR t=8:=by unfold lR;rw[hk];rfl
   rw[e];refine zzL rfl (.pure (by simp) ?_);unfold fB;rw[hk];rfl
 | true =>
   have e:lR t=0:=by unfold lR;rw[hk];rfl
   rw[e];refine zzK rfl ?_;have ea:fB t l=if l.all (iE t) then 0 else 2:=by unfold fB;rw[hk];rfl
   refine zzg (n:=l.length) (by simp) fun _=>?_;refine aG (α:=Nat) (fun k=>k≤l.length∧(l.take k).all (iE t)=true) (fun k=>[i_ k]) (fun _=>_) (fun k=>l.length-k) 0 ⟨aao _,rfl⟩ (Wk.refl _ _ _ (aS _)) ?_;rintro k ⟨hk,ha⟩;refine zzC ?_;refine aW rfl (fun q=>?_) fun q=>?_
   ·have q:k<l.length:=by have:=uP q;omega
    obtain⟨c,hc⟩:∃c,l[k]?=some c:=⟨_,bY q⟩;refine zzc (l:=l) (f:=fun c=>[i_ c]) rfl rfl hc (zzW (zzC (dJ (b2:=decide ((t.length:Int)≤c)) rfl rfl (fun _ F k=>aR rfl (zzU (b:=⟨24,[.sl 4 (t.map bx)],true⟩) rfl rfl (zzg (n:=t.length) (by simp) fun _=>fk rfl rfl ⟨rfl,k⟩))) ?_)));have ei:iE t c=!(decide (c<0)||decide ((t.length:Int)≤c)):=by
     unfold iE;rw[show decide (0≤c)=!decide (c<0) by rw[Bool.eq_iff_iff];simp,show decide (c<t.length)=!decide ((t.length:Int)≤c) by rw[Bool.eq_iff_iff];simp];cases decide (c<0)<;>cases decide ((t.length:Int)≤c)<;>rfl
    refine aW rfl (fun z=>.pure (by simp) ?_) fun z=>?_
    ·rw[ea,if_neg (by rw[Bool.not_eq_true,List.all_eq_false];exact⟨c,eQ hc,by rw[ei,z];decide⟩)]
    ·refine zzP (by unfold aZ;omega) ?_;refine⟨rfl,k+1,⟨q, ?_⟩,Wk.refl _ _ _ (aS _),by omega⟩;rw[DO,hc,List.all_append,ha,Bool.true_and];show [c].all (iE t)=true;rw[aaC,List.all_nil,Bool.and_true,ei,z];rfl
   ·have q:¬k<l.length:=fun h=>by have:=At q;omega
    obtain rfl:k=l.length:=by omega
    rw[Gt]at ha;exact .pure (by simp) (by rw[ea,ha];rfl)
theorem oW{t:bg}(hs:eH t)(i:Int):aV p_ 32 [cV t,i_ i] (.aw [i_ (ie t i).1,i_ (ie t i).2]):=by
 refine (ZX _ _).aQ (by simp only[aq,Aw.Pure,and_true];exact dh t) (by simp[Aw.Pure,aq]) ?_;unfold VB;refine bq (cs:=[.sl 4 (t.map bx)]) rfl (by simp[bw]) rfl rfl (zzV (b:=⟨24,[.sl 4 (t.map bx)],true⟩) rfl (aS 1) (Uw ?_));refine qR (by kernel_rfl) (IZ hs [i] (show (1:Nat)≤2^40 by decide)) ?_ (by simp[Flat]) ?_
 ·show iz [tl 0 _ 3 (cV t),tl 0 _ 3 (.own 1 0 1 1)] _;rw[jf (dh t),oy (b:=⟨3,[i_ i],true⟩) rfl rfl (aS 1)];exact⟨Le.refl _,Le.refl _,(by trivial)⟩
 refine zzH ?_;refine aW rfl (fun z=>?_) fun z=>?_
 ·refine .pure (by simp[aq,Aw.Pure]) ?_;have z:¬fB t [i]=0:=by simpa using z
  unfold ie;rw[if_neg z]
 have z:fB t [i]=0:=by simpa using z
 obtain⟨ba,h0,h1⟩:=vu z;obtain⟨l1,l64⟩:=gD ba;have e:ie t i=(((nk t (t.length-1) (nd t i).par:Nat):Int),0):=by unfold ie;rw[if_pos z]
 rw[e];have hp:∀{c:Int},0≤c→c<t.length→-1≤(nd t c).par∧(nd t c).par<t.length:=fun a b=>ri (lW ba) a b;have ld:∀{H:aa} {c:Int} {K:AV→Prop},H[0]?=some (.ak ⟨24,[.sl 4 (t.map bx)],true⟩)→0≤c→c<t.length→K (i_ (nd t c).par)→aN 0 (.op 0 0) fun a=>ae false 1 a H fun b=>au 4 b (i_ c) fun d=>aN 2 d fun e=>ae false 1 e H K:=fun {H c K} hb c0 c1 k =>
  zzA (zzU hb rfl (zzc (n:=c.toNat) (l:=t) (f:=bx) rfl (by rw[Int.toNat_of_nonneg c0]) (kA c0 c1) (zzX (zzW k))))
 refine ld rfl h0 h1 (aG (α:=Nat×Int×Nat) (fun p=>p.2.2≤t.length∧p.1≤t.length-p.2.2∧-1≤p.2.1∧p.2.1<t.length∧fy t p.2.2 p.2.1=true∧p.1+nk t p.2.2 p.2.1=nk t (t.length-1) (nd t i).par) (fun p=>[i_ p.1,i_ p.2.1]) (fun _=>_) (fun p=>p.2.2) (0,(nd t i).par,t.length-1) ⟨Nat.sub_le _ _,aao _,(hp h0 h1).1,(hp h0 h1).2,Es ba h0 h1,aaq _⟩ (Wk.refl _ _ _ (aS _)) ?_);rintro⟨n,k,m⟩ ⟨hm,hnm,k1,k2,hu,hd⟩;simp only at hm hnm k1 k2 hu hd ⊢;refine zzF ?_;refine aW rfl (fun y=>?_) fun y=>?_
 ·have y:0≤k:=uP y;cases m with
  | zero=>rw[fy]at hu;have:=uP hu;omega
  | succ m =>
    rw[fy,if_neg (by omega)]at hu;rw[nk,if_neg (by omega)]at hd;refine zzP (by unfold aZ;omega) (ld rfl y k2 ?_);have hk:=hp y k2;refine⟨(by trivial),(n+1,(nd t k).par,m),⟨by simp only;omega,by simp only;omega,hk.1,hk.2,hu,by simp only;omega⟩,Wk.refl _ _ _ (aS _),by simp only;omega⟩
 ·have y:¬0≤k:=At y;refine .pure (by simp[aq,Aw.Pure]) ?_;have:nk t m k=0:=by
   cases m with
   | zero=>rfl
   | succ m=>rw[nk,if_pos (by omega)]
  rw[←hd,this];rfl
end Go.Proofs.YtkfakehconamoaaGreatDoor
end
namespace Go.Proofs.YtkfakehconamoaaGreatDoor
section
open Go Go.Aw
variable [Laid]
def Vw(c f:AV)(h:aa)(K:AV→aa→Prop):Prop:=
 aB 24 c h fun d a=>ae true 1 d a fun e=>iC p_ 32 [e,f] a fun b g=>ay 0 b fun j=>ay 1 b fun i=>K i g
def ZS(a b:AV):Body p_ 27 [a,b] (Vw a b):=mkB Tryz.func27 .nil 14 [.tmp 4]
def Vp(k d:AV)(h:aa)(K:AV→aa→Prop):Prop:=
 aB 24 k h fun b c=>ae true 1 b c fun l=>iC p_ 27 [l,d] c fun e f=>qBe .neq e 0 fun m=>af m (K (.aw [qNs,e]) f) (aB 29 qNs f fun g n=>aB 65 (.v .nilFunc) n fun a o=>ah 1 a (.fn (.func 31) [] [g,b,a]) o fun i=>ae false 1 a i fun p=>bA p_ p [d] i fun r j=>ae false 1 g j fun q=>K (.aw [q,i_ 0]) j)
def ZL(a b:AV):Body p_ 19 [a,b] (Vp a b):=mkB Tryz.func19 .nil 20 [.tmp 4,.tmp 5]
def VA(f e n i:AV)(h:aa)(K:AV→aa→Prop):Prop:=
 ae false 1 e h fun j=>bz 1 1 (i_ 0) [(0,1,f)] fun k=>bN false 3 1 8 j k h fun l m=>ah 1 e l m fun b=>iFL 0 false 1 n b fun o=>au 4 o f fun p=>iFL 3 false 1 p b fun c=>aU c fun g=>bc [i_ 0] b fun q d a =>
 ag .lss (nx d 0) g fun r=>af r (au 1 c (nx d 0) fun s=>ae false 1 s a fun t=>ae false 1 i a fun u=>bA p_ u [t] a fun x v=>qBe .add (nx d 0) 1 fun w=>eC [i,c,g] (q [w] v)) (K (.aw []) a)
def ZW(a b c d:AV):Body p_ 31 [a,b,c,d] (VA a b c d):=mkB Tryz.func31 (.seq (.aO (oR 0 2 (.op 2 true::oR 3 2 []))) (sn (.one (.loop [3,16,17] [18] .nil)))) 26 []
def Vn(j f:AV)(h:aa)(K:AV→aa→Prop):Prop:=
 aB 24 j h fun b e=>ae true 1 b e fun k=>iC p_ 27 [k,f] e fun g c=>qBe .neq g 0 fun l=>af l (K (.aw [qNs,g]) c) (iFL 0 false 1 b c fun m=>au 4 m f fun n=>iFL 2 false 1 n c fun o=>bc [qNs,o] c fun p a i =>
 qBe .geq (nx a 1) 0 fun q=>af q (bz 1 1 (i_ 0) [(0,1,(nx a 1))] fun r=>bN false 3 1 8 (nx a 0) r i fun s d=>iFL 0 false 1 b d fun t=>au 4 t (nx a 1) fun u=>iFL 2 false 1 u d fun v=>eC [b] (p [s,v] d)) (K (.aw [nx a 0,i_ 0]) i))
def ZJ(a b:AV):Body p_ 16 [a,b] (Vn a b):=mkB Tryz.func16 (sn (sn (sn (.seq (sn (.one (.loop [2] [7,8] (sn (.seq (.one (.aO (oR 0 2 (.op 2 true::oR 3 2 [])))) .nil))))) .nil)))) 34 [.tmp 4,.tmp 5]
end
section
open Go Go.Aw Go.Qt
variable [Laid]
theorem yR{t:bg}(hs:eH t)(i:Int):aV p_ 27 [cV t,i_ i] (i_ (ie t i).2):=by
 refine (ZS _ _).aQ (by simp only[aq,Aw.Pure,and_true];exact dh t) (by simp) ?_;unfold Vw;refine bq (cs:=[.sl 4 (t.map bx)]) rfl (by simp[bw]) rfl rfl (zzV (b:=⟨24,[.sl 4 (t.map bx)],true⟩) rfl (aS 1) (uCon (oW hs i) (zzB rfl (zzB rfl ?_))));exact .pure (by simp) rfl
end
section
open Go Go.Aw
variable [Laid]
def VP(c:AV)(h:aa)(K:AV→aa→Prop):Prop:=
 iC p_ 65 [c,u8 0] h fun d e=>aB 129 (.agg [i_ 0,i_ 0,ff]) e fun b f=>ah 3 b d f fun a=>iFL 0 false 1 b a fun g=>qBe .gtr g 16 fun i=>af i (K (i_ 20) a) (iFL 1 false 1 b a fun j=>qBe .gtr j 1500 fun k=>af k (K (i_ 4) a) (iFL 2 false 1 b a fun l=>af l (K (i_ 8) a) (K (i_ 0) a)))
def V47(a:AV):Body p_ 47 [a] (VP a):=mkB Tryz.func47 .nil 17 [.tmp 2]
def Wb(c e:AV)(h:aa)(K:AV→aa→Prop):Prop:=
 aB 129 (.agg [i_ 0,i_ 0,ff]) h fun b E=>aB 129 (.agg [i_ 0,i_ 0,ff]) E fun a F=>aU c fun f=>bc [i_ 0] F fun G d l =>
 ag .lss (nx d 0) f fun H=>af H (aI (fun q=>au 6 c (nx d 0) fun I=>ae true 6 I l fun J=>aB 87 (.agg [u8 0,.str [],i_ 0,.str [],ff,qNs]) l fun g L=>ah 6 g J L fun r=>iFL 1 false 1 a r fun M=>qBe .add M 1 fun N=>aN 1 a fun O=>ah 1 O N r fun s=>aN 0 g fun P=>iFL 0 false 1 P s fun Q=>iC p_ 46 [Q] s fun i n=>aI (fun t=>ag .neq e (u8 0) fun R=>qJa R [e,b,a,g,i,c,f,nx d 0] n (fun S=>aN 0 g fun T=>iFL 0 false 1 T n fun U=>ag .eql U e fun V=>S V n) fun u v=>aI (fun w=>aL u false (ag .eql i (u8 0) fun W=>eC [e,b,a,g,i,c,f,nx d 0] (w [ff,W] v)) (eC [e,b,a,g,i,c,f,nx d 0] (w [bO false u,un] v))) fun k o=>aI (fun x=>aL (nx k 1) true (iFL 5 false 1 g o fun X=>aU X fun Y=>qBe .gtr Y 0 fun Z=>eC [e,b,a,g,i,c,f,nx d 0,nx k 0] (x [tt,Z] o)) (eC [e,b,a,g,i,c,f,nx d 0,nx k 0] (x [(bO true (nx k 1)),un] o))) fun y z=>qJo (nx k 0) [e,b,a,g,i,c,f,nx d 0] z (fun a0=>bG (nx y 0) (nx y 1) ff fun a1=>a0 a1 z) fun a2 A=>af a2 (aN 2 a fun a3=>ah 1 a3 tt A fun a4=>eC [e,b,a,g,i,c,f,nx d 0] (t [] a4)) (eC [e,b,a,g,i,c,f,nx d 0] (t [] A))) fun c6 p=>ag .eql i (u8 0) fun a5=>af a5 (eC [e,b,a,c,f,nx d 0] (q [] p)) (iFL 5 false 1 g p fun a6=>iC p_ 65 [a6,i] p fun a7 a8=>aB 129 (.agg [i_ 0,i_ 0,ff]) a8 fun m a9=>ah 3 m a7 a9 fun j=>iFL 0 false 1 a j fun b0=>iFL 0 false 1 m j fun b1=>qBe .add b1 1 fun b2=>iy b0 b2 fun B=>iFL 1 false 1 a j fun b3=>iFL 1 false 1 m j fun b4=>ag .add b3 b4 fun b5=>qBe .add b5 1 fun C=>iFL 2 false 1 a j fun b6=>qJo b6 [e,b,a,c,f,nx d 0,B,C] j (fun b7=>iFL 2 false 1 m j fun b8=>b7 b8 j) fun b9 c0=>bf (.agg [i_ 0,i_ 0,ff]) [(0,1,B),(1,1,C),(2,1,b9)] fun c1=>ah 3 a c1 c0 fun c2=>eC [e,b,a,c,f,nx d 0] (q [] c2))) fun c7 c3=>qBe .add (nx d 0) 1 fun c4=>eC [e,b,a,c,f] (G [c4] c3)) (ae true 3 a l fun c5=>ah 3 b c5 l fun D=>ae true 3 b D fun r91=>K r91 D)
def V65(a b:AV):Body p_ 65 [a,b] (Wb a b):=mkB Tryz.func65 (sn (sn (.seq (sn (.one (.loop [1,4,5,10,11] [12] (sn (sn (.join [1,4,5,10,11,12] [] (.one (sn (sn (sn (.join [1,4,5,7,8,10,11,12] [] (.seq (.aO (oR 0 3 (.aA 2 true (fR 3 5) [1,4,5,7,8,10,11,12] [26,31]::oR 8 2 (.aA 9 false (fR 10 3) [1,4,5,7,8,10,11,12] [33,36]::.aA 12 true (fR 13 4) [1,4,5,7,8,10,11,12,33] [36,40]::.aA 9 false [(17,false)] [1,4,5,7,8,10,11,12] [33,41]::.op 18 false::[])))) .nil) (sn (sn (.aO (oR 0 15 (.aA 14 false (fR 15 2) [1,4,5,10,11,12,55,61] [64,66]::oR 17 3 [])))))))))) .nil)))))) .nil))) 71 [.cell 4 129]
def Wu(a b:AV)(h:aa)(K:AV→aa→Prop):Prop:=
 qLd p_ a 1 h fun c=>ag .add c b fun d=>qLd p_ a 0 h fun e=>iT e fun f=>ag .lss d f fun g=>af g (qLd p_ a 0 h fun i=>qLd p_ a 1 h fun j=>ag .add j b fun k=>dW i k fun l=>cH .i64 l fun m=>K m h) (K (i_ (-1)) h)
def V86(a b:AV):Body p_ 86 [a,b] (Wu a b):=mkB Tryz.func86 (sn (.seq (.seq (.draw 12 (oR 0 12 []) [] []) (.two (.seq (.draw 13 (oR 0 13 []) [] []) .nil) .nil)) .nil)) 29 [.tmp 4]
def Ww(a c:AV)(h:aa)(K:AV→aa→Prop):Prop:=
 bc [] h fun d m e =>
 iC p_ 86 [a,i_ 0] e fun f g=>bA p_ c [f] g fun i b=>af i (qLd p_ a 1 b fun j=>qBe .add j 1 fun k=>qSt p_ a 1 k b fun l=>eC [a,c] (d [] l)) (K (.aw []) b)
def V88(a b:AV):Body p_ 88 [a,b] (Ww a b):=mkB Tryz.func88 (.one (.loop [0,1] [] .nil)) 15 []
def Wz(a b:AV)(h:aa)(K:AV→aa→Prop):Prop:=
 iC p_ 86 [a,b] h fun d c=>qBe .eql d 92 fun e=>qKa e c (fun f=>qBe .add b 1 fun g=>iC p_ 86 [a,g] c fun i j=>qBe .neq i 10 fun k=>f k j) fun l m=>K l m
def V91(a b:AV):Body p_ 91 [a,b] (Wz a b):=mkB Tryz.func91 (sn (.seq (.aO (oR 0 5 (.aA 4 true (fR 5 5) [] [9,14]::oR 10 2 []))) .nil)) 16 [.tmp 4]
def WA(a b:AV)(h:aa)(K:AV→aa→Prop):Prop:=
 iC p_ 86 [a,b] h fun g c=>qBe .neq g 45 fun i=>af i (iC p_ 86 [a,b] c fun j k=>iC p_ 144 [j] k fun l d=>qKo l d (fun m=>iC p_ 91 [a,b] d m) fun n o=>K n o) (qBe .add b 1 fun p=>iC p_ 86 [a,p] c fun q r=>iC p_ 144 [q] r fun s e=>qJo s [a,b] e (fun t=>qBe .add b 1 fun u=>iC p_ 86 [a,u] e fun v w=>qBe .eql v 45 fun x=>t x w) fun y f=>qKo y f (fun z=>qBe .add b 1 fun A=>iC p_ 91 [a,A] f z) fun B C=>K B C)
def V92(a b:AV):Body p_ 92 [a,b] (WA a b):=mkB Tryz.func92 (sn (.seq (sn (.two (.seq (.aO (oR 0 5 (.aA 4 false (fR 5 3) [] [13,16]::oR 8 2 []))) .nil) .nil)) (.seq (.aO (oR 0 6 (.aA 5 false (fR 6 5) [0,1] [23,28]::oR 11 2 (.aA 12 false (fR 13 4) [] [30,34]::oR 17 2 [])))) .nil))) 36 [.tmp 4]
def WC(a:AV)(h:aa)(K:AV→aa→Prop):Prop:=
 bc [qNs] h fun f b i =>
 iC p_ 86 [a,i_ 0] i fun c j=>iC p_ 90 [c] j fun k d=>af k (cH .u8 c fun l=>bz 1 1 (u8 0) [(0,1,l)] fun m=>bN false 5 1 1 (nx b 0) m d fun n g=>qLd p_ a 1 g fun o=>qBe .add o 1 fun p=>qSt p_ a 1 p g fun q=>eC [a] (f [n] q)) (qBe .neq c (-1) fun r=>qJa r [a,nx b 0] d (fun s=>iC p_ 91 [a,i_ 0] d s) fun t e=>af t (iC p_ 143 [a,nx b 0] e fun u v=>eC [a] (f [u] v)) (dk (nx b 0) e fun w=>K w e))
def V93(a:AV):Body p_ 93 [a] (WC a):=mkB Tryz.func93 (sn (sn (.one (.loop [0] [3] (.one (sn (.one (sn (.two (.seq (.aO (oR 0 3 (.op 3 true::oR 4 2 []))) .nil) (.seq (.aO (oR 0 3 (.aA 2 true (fR 3 2) [0,3] [27,29]::oR 5 2 []))) .nil)))))))))) 34 [.tmp 2]
def WD(a:AV)(h:aa)(K:AV→aa→Prop):Prop:=
 aI (fun c=>iC p_ 86 [a,i_ 0] h fun d e=>qBe .eql d 43 fun j=>qJo j [a,i_ 0] e (fun k=>qBe .eql d 45 fun l=>k l e) fun m f=>af m (qBe .add (i_ 0) 1 fun n=>eC [a] (c [n] f)) (eC [a] (c [i_ 0] f))) fun b o=>aI (fun g=>iC p_ 86 [a,nx b 0] o fun p i=>qBe .eql p 46 fun q=>af q (qBe .add (nx b 0) 1 fun r=>eC [a] (g [r] i)) (eC [a] (g [nx b 0] i))) fun s t=>iC p_ 86 [a,nx s 0] t fun u v=>iC p_ 145 [u] v fun w x=>K w x
def V94(a:AV):Body p_ 94 [a] (WD a):=mkB Tryz.func94 (sn (sn (.join [0] [3] (sn (.seq (.aO (oR 0 3 (.aA 2 false (fR 3 2) [0,3] [9,11]::.op 5 false::[]))) .nil)) (.join [0] [3] .nil .nil)))) 25 [.tmp 2]
def QU(a:AV)(h:aa)(K:AV→aa→Prop):Prop:=
 aI (fun f=>iC p_ 86 [a,i_ 0] h fun g i=>qBe .eql g 43 fun s=>qJo s [a] i (fun t=>qBe .eql g 45 fun u=>t u i) fun v c=>af v (qLd p_ a 1 c fun w=>qBe .add w 1 fun x=>qSt p_ a 1 x c fun y=>eC [a] (f [] y)) (eC [a] (f [] c))) fun a7 z=>iC p_ 88 [a,.fn (.func 145) [] []] z fun a8 A=>aI (fun j=>iC p_ 86 [a,i_ 0] A fun B k=>qBe .eql B 46 fun C=>qJa C [a,tt] k (fun D=>iC p_ 86 [a,i_ 1] k fun E F=>iC p_ 145 [E] F D) fun G d=>af G (qLd p_ a 1 d fun H=>qBe .add H 1 fun I=>qSt p_ a 1 I d fun J=>iC p_ 88 [a,.fn (.func 145) [] []] J fun a9 L=>eC [a] (j [ff] L)) (eC [a] (j [tt] d))) fun b M=>iC p_ 86 [a,i_ 0] M fun N l=>qBe .eql N 101 fun O=>qJo O [a,nx b 0] l (fun P=>iC p_ 86 [a,i_ 0] l fun Q R=>qBe .eql Q 69 fun S=>P S R) fun T m=>af T (aI (fun n=>iC p_ 86 [a,i_ 1] m fun o p=>qBe .eql o 43 fun U=>qJo U [a,nx b 0,i_ 1] p (fun V=>qBe .eql o 45 fun W=>V W p) fun X q=>af X (qBe .add (i_ 1) 1 fun Y=>eC [a,nx b 0] (n [Y] q)) (eC [a,nx b 0] (n [i_ 1] q))) fun r Z=>iC p_ 86 [a,nx r 0] Z fun a0 a1=>iC p_ 145 [a0] a1 fun a2 e=>af a2 (qLd p_ a 1 e fun a3=>ag .add a3 (nx r 0) fun a4=>qSt p_ a 1 a4 e fun a5=>iC p_ 88 [a,.fn (.func 145) [] []] a5 fun b0 a6=>K ff a6) (K (nx b 0) e)) (K (nx b 0) m)
def Xw(a:AV):Body p_ 146 [a] (QU a):=mkB Tryz.func146 (sn (.join [0] [] (sn (.seq (.aO (oR 0 3 (.aA 2 false (fR 3 2) [0] [11,13]::.op 5 false::[]))) .nil)) (sn (sn (.join [0] [4] (.seq (.aO (oR 0 4 (.aA 3 true (fR 4 3) [0,4] [27,30]::.op 7 false::[]))) .nil) (.seq (.seq (.aO (oR 0 4 (.aA 3 false (fR 4 3) [0,4] [44,47]::.op 7 false::[]))) (.two (sn (.join [0,4] [5] (sn (.seq (.aO (oR 0 3 (.aA 2 false (fR 3 2) [0,4,5] [53,55]::.op 5 false::[]))) .nil)) .nil)) .nil)) .nil)))))) 74 [.tmp 2]
def WE(b:AV)(h:aa)(K:AV→aa→Prop):Prop:=
 aB 83 (.agg [u8 0,.str [],i_ 0,.str [],ff]) h fun c f=>qLd p_ b 1 f fun k=>iC p_ 146 [b] f fun l a=>qLd p_ b 0 a fun m=>qLd p_ b 1 a fun n=>eS m (some k) (some n) fun o=>pf p_ (.fn (.func 147) [] []) [o] a fun p=>bf (.agg [u8 0,.str [],i_ 0,.str [],ff]) [(0,1,(u8 10)),(2,1,p),(4,1,l)] fun q=>(fun (r:aa)=>ah 5 (AV.op (a.length+1+0) 0) q r fun s=>aI (fun d=>iC p_ 92 [b,i_ 0] s fun t g=>af t (iC p_ 93 [b] g fun u v=>aN 0 (AV.op (a.length+1+0) 0) fun w=>ah 1 w (u8 12) v fun x=>aN 3 (AV.op (a.length+1+0) 0) fun y=>ah 1 y u x fun z=>eC [c,(AV.op (a.length+1+0) 0)] (d [] z)) (iC p_ 86 [b,i_ 0] g fun A e=>qBe .eql A 37 fun B=>af B (qLd p_ b 1 e fun C=>qBe .add C 1 fun D=>qSt p_ b 1 D e fun E=>aN 0 (AV.op (a.length+1+0) 0) fun F=>ah 1 F (u8 11) E fun G=>aN 4 (AV.op (a.length+1+0) 0) fun H=>ah 1 H ff G fun I=>eC [c,(AV.op (a.length+1+0) 0)] (d [] I)) (eC [c,(AV.op (a.length+1+0) 0)] (d [] e)))) fun L i=>ae true 5 (AV.op (a.length+1+0) 0) i fun J=>ah 5 c J i fun j=>ae true 5 c j fun r46=>K r46 j) (a++[.dead]++[.ak ⟨83,[u8 0,.str [],i_ 0,.str [],ff],true⟩])
def V95(a:AV):Body p_ 95 [a] (WE a):=mkB Tryz.func95 (sn (sn (sn (.seq (.HH 14 [13] (fR 0 14) [.op 14 false] []) (.join [2,5] [] .nil .nil))))) 46 [.cell 2 83]
def WG(b:AV)(h:aa)(K:AV→aa→Prop):Prop:=
 aB 83 (.agg [u8 0,.str [],i_ 0,.str [],ff]) h fun a o=>iC p_ 93 [b] o fun c p=>iC p_ 86 [b,i_ 0] p fun q d=>qBe .neq q 40 fun r=>af r (bf (.agg [u8 0,.str [],i_ 0,.str [],ff]) [(0,1,(u8 1)),(1,1,c)] fun s=>ah 5 a s d fun g=>ae true 5 a g fun r10=>K r10 g) (qLd p_ b 1 d fun t=>qBe .add t 1 fun u=>qSt p_ b 1 u d fun v=>aI (fun i=>iC p_ 148 [c,.str [117,114,108]] v fun w e=>af w (ca p_ b fun x=>ae true 2 x e fun y=>aB 126 (.agg [.str [],i_ 0]) e fun f z=>ah 2 f y z fun A=>iC p_ 88 [f,.fn (.func 87) [] []] A fun L B=>iC p_ 86 [f,i_ 0] B fun j k=>qBe .neq j 34 fun C=>qJa C [b,a,c] k (fun D=>qBe .neq j 39 fun E=>D E k) fun F l=>af F (iC p_ 149 [b] l fun G H=>ah 5 a G H fun m=>ae true 5 a m fun r39=>K r39 m) (eC [a,c] (i [] l))) (eC [a,c] (i [] e))) fun M I=>bf (.agg [u8 0,.str [],i_ 0,.str [],ff]) [(0,1,(u8 2)),(1,1,c)] fun J=>ah 5 a J I fun n=>ae true 5 a n fun r44=>K r44 n)
def V96(a:AV):Body p_ 96 [a] (WG a):=mkB Tryz.func96 (sn (sn (sn (sn (.join [2,3] [] (sn (.two (sn (sn (sn (.seq (.aO (oR 0 3 (.aA 2 true (fR 3 2) [0,2,3] [29,31]::.op 5 false::[]))) .nil)))) .nil)) .nil))))) 37 [.cell 2 83]
def Wa(a:AV)(h:aa)(K:AV→aa→Prop):Prop:=
 aB 83 (.agg [u8 0,.str [],i_ 0,.str [],ff]) h fun b f=>iQ p_ 86 [a,i_ 0] f fun c=>qLd p_ a 0 f fun I=>qLd p_ a 1 f fun J=>eS I (some J) none fun d=>iC p_ 87 [c] f fun L i=>af L (iC p_ 88 [a,.fn (.func 87) [] []] i fun e5 M=>bf (.agg [u8 0,.str [],i_ 0,.str [],ff]) [(0,1,(u8 13))] fun N=>ah 5 b N M fun n=>ae true 5 b n fun r17=>K r17 n) (qBe .eql c 34 fun O=>qJo O [a,b,c,d] i (fun P=>qBe .eql c 39 fun Q=>P Q i) fun R j=>af R (iC p_ 89 [a] j fun S T=>ah 5 b S T fun o=>ae true 5 b o fun r27=>K r27 o) (qBe .eql c 35 fun p=>aI (fun q=>aL p true (iC p_ 86 [a,i_ 1] j fun U V=>iC p_ 90 [U] V fun W X=>eC [a,b,c,d] (q [tt,W] X)) (eC [a,b,c,d] (q [bO true p,un] j))) fun e r=>aI (fun s=>aL (nx e 1) false (iC p_ 91 [a,i_ 1] r fun Y Z=>eC [a,b,c,d,nx e 0] (s [ff,Y] Z)) (eC [a,b,c,d,nx e 0] (s [(bO false (nx e 1)),un] r))) fun t u=>qJa (nx e 0) [a,b,c,d] u (fun a0=>bG (nx t 0) tt (nx t 1) fun a1=>a0 a1 u) fun a2 v=>af a2 (iC p_ 92 [a,i_ 1] v fun a3 w=>qLd p_ a 1 w fun a4=>qBe .add a4 1 fun a5=>qSt p_ a 1 a5 w fun a6=>iC p_ 93 [a] a6 fun a7 a8=>bf (.agg [u8 0,.str [],i_ 0,.str [],ff]) [(0,1,(u8 4)),(1,1,a7),(4,1,a3)] fun a9=>ah 5 b a9 a8 fun x=>ae true 5 b x fun r59=>K r59 x) (iC p_ 94 [a] v fun b0 y=>af b0 (iC p_ 95 [a] y fun b1 b2=>ah 5 b b1 b2 fun z=>ae true 5 b z fun r65=>K r65 z) (iC p_ 84 [d,.str [45,45,62]] y fun b3 k=>af b3 (qLd p_ a 1 k fun b4=>qBe .add b4 3 fun b5=>qSt p_ a 1 b5 k fun b6=>bf (.agg [u8 0,.str [],i_ 0,.str [],ff]) [(0,1,(u8 15))] fun b7=>ah 5 b b7 b6 fun A=>ae true 5 b A fun r77=>K r77 A) (iC p_ 84 [d,.str [60,33,45,45]] k fun b8 g=>af b8 (qLd p_ a 1 g fun b9=>qBe .add b9 4 fun c0=>qSt p_ a 1 c0 g fun c1=>bf (.agg [u8 0,.str [],i_ 0,.str [],ff]) [(0,1,(u8 14))] fun c2=>ah 5 b c2 c1 fun B=>ae true 5 b B fun r89=>K r89 B) (qBe .eql c 64 fun c3=>qJa c3 [a,b,c,d] g (fun c4=>iC p_ 92 [a,i_ 1] g c4) fun c5 l=>af c5 (qLd p_ a 1 l fun c6=>qBe .add c6 1 fun c7=>qSt p_ a 1 c7 l fun c8=>iC p_ 93 [a] c8 fun c9 d0=>bf (.agg [u8 0,.str [],i_ 0,.str [],ff]) [(0,1,(u8 3)),(1,1,c9)] fun d1=>ah 5 b d1 d0 fun C=>ae true 5 b C fun r108=>K r108 C) (iC p_ 92 [a,i_ 0] l fun d2 m=>af d2 (iC p_ 96 [a] m fun d3 d4=>ah 5 b d3 d4 fun D=>ae true 5 b D fun r114=>K r114 D) (qLd p_ a 1 m fun d5=>qBe .add d5 1 fun d6=>qSt p_ a 1 d6 m fun d7=>cH .u8 c fun d8=>iC p_ 97 [.str [58,59,44,91,93,40,41,123,125],d8] d7 fun E F=>qBe .geq E 0 fun d9=>af d9 (cH .u8 E fun e0=>ag .add (u8 16) e0 fun e1=>bf (.agg [u8 0,.str [],i_ 0,.str [],ff]) [(0,1,e1)] fun e2=>ah 5 b e2 F fun G=>ae true 5 b G fun r130=>K r130 G) (eS d none (some (i_ 1)) fun e3=>bf (.agg [u8 0,.str [],i_ 0,.str [],ff]) [(0,1,(u8 9)),(1,1,e3)] fun e4=>ah 5 b e4 F fun H=>ae true 5 b H fun r134=>K r134 H)))))))))
def V64(a:AV):Body p_ 64 [a] (Wa a):=mkB Tryz.func64 (sn (.seq (.draw 13 (oR 0 13 []) [] []) (.seq (.one (sn (.two .nil (.seq (.aO (oR 0 3 (.aA 2 false (fR 3 2) [0,2,3,4] [27,29]::oR 5 2 []))) (.two .nil (.seq (.aO (oR 0 3 (.aA 2 true (fR 3 4) [0,2,3,4] [36,40]::.aA 6 false (fR 7 2) [0,2,3,4,36] [40,42]::.aA 2 true [(9,false)] [0,2,3,4] [36,43]::oR 10 2 []))) (.two .nil (sn (.two .nil (sn (.two .nil (sn (.two .nil (.seq (.aO (oR 0 3 (.aA 2 true (fR 3 2) [0,2,3,4] [88,90]::oR 5 2 []))) .nil)))))))))))))) .nil))) 126 [.cell 2 83]
def V6(b:AV)(h:aa)(K:AV→aa→Prop):Prop:=
 bc [] h fun d v a =>
 qLd p_ b 0 a fun e=>qLd p_ b 1 a fun f=>eS e (some f) none fun g=>iQ p_ 84 [g,.str [47,42]] a fun i=>af i (qLd p_ b 0 a fun j=>qLd p_ b 1 a fun k=>qBe .add k 2 fun l=>eS j (some l) none fun m=>iQ p_ 85 [m,.str [42,47]] a fun c=>qBe .lss c 0 fun n=>af n (qLd p_ b 0 a fun o=>cn o fun p=>qSt p_ b 1 p a fun q=>K (.aw []) q) (qLd p_ b 1 a fun r=>qBe .add c 4 fun s=>ag .add r s fun t=>qSt p_ b 1 t a fun u=>eC [b] (d [] u))) (K (.aw []) a)
def V63(a:AV):Body p_ 63 [a] (V6 a):=mkB Tryz.func63 (.one (.loop [0] [] (.seq (.seq (.draw 10 (oR 0 10 []) [] []) .nil) (.one (.seq (.draw 12 (oR 0 12 []) [] []) .nil))))) 43 []
def QR(a b:AV)(h:aa)(K:AV→aa→Prop):Prop:=
 qLd p_ a 1 h fun q=>qBe .add q 1 fun r=>qSt p_ a 1 r h fun s=>iC p_ 86 [a,i_ 0] s fun e j=>qBe .eql e (-1) fun t=>af t (iC p_ 200 [b,.v (.int .i32 65533)] j fun u w=>K u w) (iC p_ 201 [e] j fun x f=>qBe .lss x 0 fun y=>af y (qLd p_ a 1 f fun z=>qBe .add z 1 fun A=>qSt p_ a 1 A f fun B=>cH .u8 e fun C=>bz 1 1 (u8 0) [(0,1,C)] fun D=>bN false 5 1 1 b D B fun E F=>K E F) (aI (fun k=>bc [i_ 0,i_ 0] f fun G c l =>
 qBe .lss (nx c 1) 6 fun H=>af H (iC p_ 86 [a,i_ 0] l fun I J=>iC p_ 201 [I] J fun m g=>qBe .lss m 0 fun L=>af L (eC [a,b] (k [nx c 0] g)) (ag .shl (nx c 0) (.v (.int .u64 4)) fun M=>ag .or M m fun N=>qLd p_ a 1 g fun O=>qBe .add O 1 fun P=>qSt p_ a 1 P g fun Q=>qBe .add (nx c 1) 1 fun R=>eC [a,b] (G [N,R] Q))) (eC [a,b] (k [nx c 0] l))) fun d S=>aI (fun n=>iC p_ 86 [a,i_ 0] S fun T U=>iC p_ 87 [T] U fun V i=>af V (qLd p_ a 1 i fun W=>qBe .add W 1 fun X=>qSt p_ a 1 X i fun Y=>eC [b,nx d 0] (n [] Y)) (eC [b,nx d 0] (n [] i))) fun a5 o=>aI (fun p=>qBe .eql (nx d 0) 0 fun Z=>af Z (eC [b] (p [i_ 65533] o)) (eC [b] (p [nx d 0] o))) fun a0 a1=>cH .i32 (nx a0 0) fun a2=>iC p_ 200 [b,a2] a1 fun a3 a4=>K a3 a4))
def Xt(a b:AV):Body p_ 143 [a,b] (QR a b):=mkB Tryz.func143 (sn (sn (sn (sn (.seq (sn (.two (sn (.seq (.aO (oR 0 3 (.op 3 true::oR 4 2 []))) .nil)) .nil)) (sn (.join [0,1] [6] (sn (.one (.loop [0,1] [6,36] (sn (sn (.seq (.one (sn (sn (.draw 13 (oR 0 13 []) [.op 13 false] [])))) .nil)))))) (.join [1,6] [] .nil (.join [1] [6] .nil .nil))))))))) 72 [.tmp 4]
def Ru(a:AV)(h:aa)(K:AV→aa→Prop):Prop:=
 aB 83 (.agg [u8 0,.str [],i_ 0,.str [],ff]) h fun b j=>bc [] j fun e y k =>
 iC p_ 86 [a,i_ 0] k fun l f=>qBe .eql l (-1) fun m=>af m (bf (.agg [u8 0,.str [],i_ 0,.str [],ff]) [(0,1,(u8 8))] fun n=>ah 5 b n f fun g=>ae true 5 b g fun r11=>K r11 g) (iC p_ 91 [a,i_ 0] f fun o d=>af o (iC p_ 143 [a,qNs] d fun z p=>eC [a,b] (e [] p)) (qLd p_ a 1 d fun q=>qBe .add q 1 fun r=>qSt p_ a 1 r d fun c=>qLd p_ a 0 c fun s=>qLd p_ a 1 c fun t=>qBe .sub t 1 fun u=>dW s u fun v=>ag .eql v (u8 41) fun w=>af w (bf (.agg [u8 0,.str [],i_ 0,.str [],ff]) [(0,1,(u8 8))] fun x=>ah 5 b x c fun i=>ae true 5 b i fun r34=>K r34 i) (eC [a,b] (e [] c))))
def X2(a:AV):Body p_ 206 [a] (Ru a):=mkB Tryz.func206 (sn (.one (.loop [0,2] [] (.one (sn (sn (.seq (.draw 11 (oR 0 11 []) [] []) .nil))))))) 32 [.cell 2 83]
def QX(a:AV)(h:aa)(K:AV→aa→Prop):Prop:=
 aB 83 (.agg [u8 0,.str [],i_ 0,.str [],ff]) h fun b B=>iC p_ 88 [a,.fn (.func 87) [] []] B fun c8 C=>bc [qNs] C fun i d D =>
 iC p_ 86 [a,i_ 0] D fun j E=>aI (fun k=>iC p_ 87 [j] E fun F l=>af F (iC p_ 88 [a,.fn (.func 87) [] []] l fun c9 G=>iC p_ 86 [a,i_ 0] G fun f m=>qBe .neq f 41 fun H=>qJa H [a,b,nx d 0,f] m (fun I=>qBe .neq f (-1) fun J=>I J m) fun L n=>af L (iC p_ 206 [a] n fun M N=>ah 5 b M N fun o=>ae true 5 b o fun r26=>K r26 o) (eC [a,b,nx d 0] (k [f] n))) (eC [a,b,nx d 0] (k [j] l))) fun c e=>qBe .eql (nx c 0) (-1) fun O=>af O (dk (nx d 0) e fun P=>bf (.agg [u8 0,.str [],i_ 0,.str [],ff]) [(0,1,(u8 7)),(1,1,P)] fun Q=>ah 5 b Q e fun p=>ae true 5 b p fun r33=>K r33 p) (qBe .eql (nx c 0) 41 fun R=>af R (qLd p_ a 1 e fun S=>qBe .add S 1 fun T=>qSt p_ a 1 T e fun q=>dk (nx d 0) q fun U=>bf (.agg [u8 0,.str [],i_ 0,.str [],ff]) [(0,1,(u8 7)),(1,1,U)] fun V=>ah 5 b V q fun r=>ae true 5 b r fun r45=>K r45 r) (qBe .eql (nx c 0) 34 fun W=>qJo W [a,b,nx d 0,nx c 0] e (fun X=>qBe .eql (nx c 0) 39 fun Y=>X Y e) fun Z s=>qJo Z [a,b,nx d 0,nx c 0] s (fun a0=>qBe .eql (nx c 0) 40 fun a1=>a0 a1 s) fun a2 t=>qJo a2 [a,b,nx d 0,nx c 0] t (fun a3=>qBe .leq (nx c 0) 8 fun a4=>a3 a4 t) fun a5 u=>qJo a5 [a,b,nx d 0,nx c 0] u (fun a6=>qBe .eql (nx c 0) 11 fun a7=>a6 a7 u) fun a8 v=>qJo a8 [a,b,nx d 0,nx c 0] v (fun a9=>iC p_ 202 [nx c 0,i_ 14,i_ 31] v a9) fun b0 w=>qJo b0 [a,b,nx d 0,nx c 0] w (fun b1=>qBe .eql (nx c 0) 127 fun b2=>b1 b2 w) fun b3 g=>af b3 (iC p_ 206 [a] g fun b4 b5=>ah 5 b b4 b5 fun x=>ae true 5 b x fun r81=>K r81 x) (qBe .neq (nx c 0) 92 fun b6=>af b6 (cH .u8 (nx c 0) fun b7=>bz 1 1 (u8 0) [(0,1,b7)] fun b8=>bN false 5 1 1 (nx d 0) b8 g fun b9 y=>qLd p_ a 1 y fun c0=>qBe .add c0 1 fun c1=>qSt p_ a 1 c1 y fun c2=>eC [a,b] (i [b9] c2)) (iC p_ 91 [a,i_ 0] g fun c3 z=>af c3 (iC p_ 143 [a,nx d 0] z fun c4 c5=>eC [a,b] (i [c4] c5)) (iC p_ 206 [a] z fun c6 c7=>ah 5 b c6 c7 fun A=>ae true 5 b A fun r101=>K r101 A)))))
def Xz(a:AV):Body p_ 149 [a] (QX a):=mkB Tryz.func149 (sn (sn (sn (.one (.loop [0,2] [3] (.one (sn (.join [0,2,3] [4] (sn (.two (sn (sn (.seq (.aO (oR 0 3 (.aA 2 true (fR 3 2) [0,2,3,4] [17,19]::.op 5 false::[]))) .nil))) .nil)) (.one (sn (.two .nil (sn (.two .nil (.seq (.aO (oR 0 3 (.aA 2 false (fR 3 2) [0,2,3,4] [47,49]::oR 5 2 (.aA 6 false (fR 7 2) [0,2,3,4] [51,53]::oR 9 2 (.aA 10 false (fR 11 2) [0,2,3,4] [55,57]::oR 13 2 (.aA 14 false (fR 15 2) [0,2,3,4] [59,61]::oR 17 2 (.aA 18 false (fR 19 2) [0,2,3,4] [63,65]::oR 21 2 (.aA 22 false (fR 23 2) [0,2,3,4] [67,69]::oR 25 2 [])))))))) (.two .nil (sn (.two (.seq (.aO (oR 0 3 (.op 3 true::oR 4 2 []))) .nil) .nil))))))))))))))))) 94 [.cell 2 83]
def Rr(a:AV)(h:aa)(K:AV→aa→Prop):Prop:=
 iC p_ 145 [a] h fun f b=>af f (qBe .sub a 48 fun g=>K g b) (qBe .neq a (-1) fun i=>qJa i [a] b (fun j=>qBe .or a 32 fun k=>iC p_ 202 [k,i_ 97,i_ 102] b j) fun l c=>qJa l [a] c (fun m=>qBe .gtr a 64 fun n=>m n c) fun o d=>qJa o [a] d (fun p=>qBe .lss a 128 fun q=>p q d) fun r e=>af r (qBe .or a 32 fun s=>qBe .sub s 97 fun t=>qBe .add t 10 fun u=>K u e) (K (i_ (-1)) e))
def X0(a:AV):Body p_ 201 [a] (Rr a):=mkB Tryz.func201 (sn (.seq (.one (sn (.two .nil (.seq (.aO (oR 0 3 (.aA 2 true (fR 3 3) [0] [11,14]::oR 6 2 (.aA 7 true (fR 8 2) [0] [16,18]::oR 10 2 (.aA 11 true (fR 12 2) [0] [20,22]::oR 14 2 []))))) .nil)))) .nil)) 28 [.tmp 2]
def Rq(b a:AV)(h:aa)(K:AV→aa→Prop):Prop:=
 cH .u32 a fun c=>ag .leq c (.v (.int .u32 127)) fun d=>af d (cH .u8 a fun e=>bz 1 1 (u8 0) [(0,1,e)] fun f=>bN false 5 1 1 b f h fun g i=>K g i) (iC p_ 256 [b,a] h fun j k=>K j k)
def XZ(a b:AV):Body p_ 200 [a,b] (Rq a b):=mkB Tryz.func200 (sn (.seq (sn (.two (.seq (.aO (oR 0 3 (.op 3 true::oR 4 2 []))) .nil) .nil)) .nil)) 16 [.tmp 4]
def RP(c a:AV)(h:aa)(K:AV→aa→Prop):Prop:=
 cH .u32 a fun b=>ag .leq b (.v (.int .u32 2047)) fun g=>af g (ag .shr a (.v (.int .u64 6)) fun i=>cH .u8 i fun j=>ag .or (u8 192) j fun k=>cH .u8 a fun l=>ag .and l (u8 63) fun m=>ag .or (u8 128) m fun n=>bz 2 1 (u8 0) [(0,1,k),(1,1,n)] fun o=>bN false 5 1 1 c o h fun p q=>K p q) (aI (fun e=>ag .lss b (.v (.int .u32 55296)) fun r=>af r (eC [c,a,b] (e [tt] h)) (ag .lss (.v (.int .u32 57343)) b fun s=>qJa s [c,a,b] h (fun t=>ag .leq b (.v (.int .u32 65535)) fun u=>t u h) fun w x=>eC [c,a,b] (e [w] x))) fun y d=>af (nx y 0) (ag .shr a (.v (.int .u64 12)) fun z=>cH .u8 z fun A=>ag .or (u8 224) A fun B=>ag .shr a (.v (.int .u64 6)) fun C=>cH .u8 C fun D=>ag .and D (u8 63) fun E=>ag .or (u8 128) E fun F=>cH .u8 a fun G=>ag .and G (u8 63) fun H=>ag .or (u8 128) H fun I=>bz 3 1 (u8 0) [(0,1,B),(1,1,F),(2,1,I)] fun J=>bN false 5 1 1 c J d fun L M=>K L M) (ag .gtr b (.v (.int .u32 65535)) fun N=>qJa N [c,a] d (fun O=>ag .leq b (.v (.int .u32 1114111)) fun P=>O P d) fun Q f=>af Q (ag .shr a (.v (.int .u64 18)) fun R=>cH .u8 R fun S=>ag .or (u8 240) S fun T=>ag .shr a (.v (.int .u64 12)) fun U=>cH .u8 U fun V=>ag .and V (u8 63) fun W=>ag .or (u8 128) W fun X=>ag .shr a (.v (.int .u64 6)) fun Y=>cH .u8 Y fun Z=>ag .and Z (u8 63) fun a0=>ag .or (u8 128) a0 fun a1=>cH .u8 a fun a2=>ag .and a2 (u8 63) fun a3=>ag .or (u8 128) a3 fun a4=>bz 4 1 (u8 0) [(0,1,T),(1,1,X),(2,1,a1),(3,1,a4)] fun a5=>bN false 5 1 1 c a5 f fun a6 a7=>K a6 a7) (bz 3 1 (u8 0) [(0,1,(u8 239)),(1,1,(u8 191)),(2,1,(u8 189))] fun a8=>bN false 5 1 1 c a8 f fun a9 b0=>K a9 b0)))
def Yl(a b:AV):Body p_ 256 [a,b] (RP a b):=mkB Tryz.func256 (sn (sn (.one (sn (.two (.seq (.aO (oR 0 9 (.op 9 true::oR 10 2 []))) .nil) (.join [0,1,5] [25] (sn (.two .nil (.aO (oR 0 3 (.aA 2 true (fR 3 2) [0,1,5] [30,32]::oR 5 2 []))))) (.two (.seq (.aO (oR 0 14 (.op 14 true::oR 15 2 []))) .nil) (.seq (.aO (oR 0 3 (.aA 2 true (fR 3 2) [0,1] [53,55]::oR 5 2 []))) (.two (.seq (.aO (oR 0 19 (.op 19 true::oR 20 2 []))) .nil) (.seq (.aO (.op 0 false::.op 1 true::oR 2 2 [])) .nil)))))))))) 78 [.tmp 4]
def QV(p:AV)(h:aa)(K:AV→aa→Prop):Prop:=
 dW p (i_ 0) fun B=>ag .eql B (u8 45) fun a=>iC p_ 203 [p,.str [43,45]] h fun c C=>aI (fun q=>iC p_ 204 [c,.str [101,69]] C fun d r=>qBe .geq d 0 fun D=>af D (qBe .add d 1 fun E=>eS c (some E) none fun F=>iC p_ 203 [F,.str [43,45]] r fun G H=>jP 5 G H fun j I=>aU j fun s=>bc [i_ 0,i_ 0] I fun J e i =>
 ag .lss (nx e 1) s fun L=>af L (au 1 j (nx e 1) fun M=>ae false 1 M i fun N=>ag .mul (i_ 10) (nx e 0) fun O=>ag .sub N (u8 48) fun P=>cH .i64 P fun Q=>ag .add O Q fun R=>kD R (i_ 1048576) fun S=>qBe .add (nx e 1) 1 fun T=>eC [c,a,i_ 3,d,j,s] (J [S,T] i)) (aI (fun t=>qBe .add d 1 fun U=>dW c U fun V=>ag .eql V (u8 45) fun W=>af W (sQ (nx e 0) fun X=>eC [c,a,i_ 3,d] (t [X] i)) (eC [c,a,i_ 3,d] (t [nx e 0] i))) fun Y Z=>ag .add (i_ 3) (nx Y 0) fun a0=>eS c none (some d) fun a1=>eC [a] (q [a1,a0] Z))) (eC [a] (q [c,i_ 3] r))) fun u a2=>iC p_ 205 [nx u 0,.str [46]] a2 fun k v=>ay 0 k fun a3=>ay 1 k fun w=>ay 2 k fun d5=>cn w fun a4=>ag .sub (nx u 1) a4 fun f=>ag .add a3 w fun l=>aI (fun x=>qBe .lss f 0 fun a5=>af a5 (cn l fun a6=>ag .add a6 f fun a7=>iy (i_ 0) a7 fun a8=>eS l none (some a8) fun a9=>eC [a,f] (x [a9] v)) (eC [a,f] (x [l] v))) fun b0 b1=>jP 5 (nx b0 0) b1 fun m b2=>aU m fun y=>bc [i_ 0,i_ 0] b2 fun b3 g n =>
 ag .lss (nx g 1) y fun b4=>af b4 (au 1 m (nx g 1) fun b5=>ae false 1 b5 n fun b6=>ag .mul (i_ 10) (nx g 0) fun b7=>ag .sub b6 (u8 48) fun b8=>cH .i64 b8 fun b9=>ag .add b7 b9 fun c0=>kD c0 (i_ 1000000000000) fun c1=>qBe .add (nx g 1) 1 fun c2=>eC [a,f,m,y] (b3 [c1,c2] n)) (bc [f,nx g 0] n fun c3 b z =>
 qBe .gtr (nx b 0) 0 fun c4=>qJa c4 [a,nx b 0,nx b 1] z (fun c5=>qBe .gtr (nx b 1) 0 fun c6=>c5 c6 z) fun c7 A=>qJa c7 [a,nx b 0,nx b 1] A (fun c8=>qBe .lss (nx b 1) 1000000000000 fun c9=>c8 c9 A) fun d0 o=>af d0 (ag .mul (i_ 10) (nx b 1) fun d1=>kD d1 (i_ 1000000000000) fun d2=>qBe .sub (nx b 0) 1 fun d3=>eC [a] (c3 [d3,d2] o)) (af a (sQ (nx b 1) fun d4=>K d4 o) (K (nx b 1) o)))
def Xx(a:AV):Body p_ 147 [a] (QV a):=mkB Tryz.func147 (sn (sn (sn (sn (.join [3] [0,4] (sn (sn (.two (sn (.seq (sn (.one (.loop [0,3,4,5,29,30] [6,31] .nil))) (.join [0,3,4,5] [6] .nil (.draw 8 (oR 0 8 []) [] [])))) .nil))) (sn (sn (sn (.join [3,4] [0] .nil (sn (.seq (sn (.one (.loop [3,4,79,80] [12,81] .nil))) (.seq (.one (.loop [3] [4,12] (.seq (.seq (.aO (oR 0 3 (.aA 2 true (fR 3 2) [3,4,12] [95,97]::oR 5 2 (.aA 6 true (fR 7 2) [3,4,12] [99,101]::.op 9 false::[])))) .nil) .nil))) .nil)))))))))))) 112 [.tmp 2]
def VL(l k:AV)(h:aa)(K:AV→aa→Prop):Prop:=
 iC p_ 62 [l] h fun e f=>ay 0 e fun c=>ay 1 e fun g=>qBe .neq g 0 fun m=>af m (K g f) (bf (.agg [.str [],i_ 0]) [(0,1,c)] fun n=>aB 126 n f fun a o=>iC p_ 63 [a] o fun E p=>bc [i_ 0] p fun q r b =>
 qLd p_ a 1 b fun s=>cn c fun t=>ag .lss s t fun u=>af u (qBe .add (nx r 0) 1 fun i=>qBe .gtr i 1500 fun v=>af v (K (i_ 4) b) (qLd p_ a 1 b fun w=>iC p_ 64 [a] b fun x y=>aB 83 (.agg [u8 0,.str [],i_ 0,.str [],ff]) y fun j z=>ah 5 j x z fun d=>ae true 5 j d fun A=>qLd p_ a 1 d fun B=>bA p_ k [A,w,B] d fun F C=>iC p_ 63 [a] C fun G D=>eC [c,k,a] (q [i] D))) (K (i_ 0) b))
def Z7(a b:AV):Body p_ 43 [a,b] (VL a b):=mkB Tryz.func43 (sn (sn (sn (sn (sn (sn (.seq (.one (.loop [0,1,6] [7] (sn (.one (sn (sn (sn (.seq (.draw 7 (oR 0 7 []) [.op 7 true] []) .nil)))))))) .nil))))))) 50 [.tmp 4]
def Vx(e:AV)(h:aa)(K:AV→aa→Prop):Prop:=
 aB 58 qNs h fun b d=>iC p_ 43 [e,(.fn (.func 44) [] [b])] d fun c a=>qBe .neq c 0 fun f=>af f (K (.aw [qNs,c]) a) (ae false 1 b a fun g=>K (.aw [g,i_ 0]) a)
def ZT(a:AV):Body p_ 28 [a] (Vx a):=mkB Tryz.func28 .nil 13 [.tmp 2,.tmp 3]
def VM(c l m b:AV)(h:aa)(K:AV→aa→Prop):Prop:=
 aB 83 c h fun d a=>ae false 1 b a fun e=>ae true 5 d a fun f=>bz 1 5 (.agg [u8 0,.str [],i_ 0,.str [],ff]) [(0,5,f)] fun g=>bN false 83 5 56 e g a fun i j=>ah 1 b i j fun k=>K (.aw []) k
def Z8(a b c d:AV):Body p_ 44 [a,b,c,d] (VM a b c d):=mkB Tryz.func44 (sn (.aO (oR 0 2 (.op 2 true::oR 3 2 [])))) 11 []
end
section
open Go Go.Aw Go.RowKit
abbrev ao:=List UInt8
def pk(s:ao)(i:Nat):Int:=match s[i]? with|some b=>(b.toNat:Int)|none=>-1
abbrev dB(s:ao)(a:Nat):aY:=.ak ⟨126,[.str s,i_ a],true⟩
def Sc(id:Nat)(h:aa)(s:ao)(a:Nat):Prop:=h[id]?=some (dB s a)
def PN(h:s[i]?=some b):pk s i=(b.toNat:Int):=by unfold pk;rw[h]
def GN(h:s.length≤i):pk s i=-1:=by unfold pk;rw[lE h]
def UN(s:ao)(i:Nat):pk s i<256:=by
 unfold pk;split
 ·rename_i b _;have:=b.toNat_lt;omega
 ·omega
def UM(s:ao)(i:Nat):-1≤pk s i:=by
 unfold pk;split<;>omega
def Sc.lt{id:Nat}(sc:Sc id h s a):id<h.length:=(dO.1 sc).1
def Sc.set{id:Nat}(sc:Sc id h s a)(b:Nat):Sc id (h.set id (dB s b)) s b:=iF sc.lt
def Sc.app{id:Nat}(sc:Sc id h s a)(j:aa):Sc id (h++j) s a:=by
 unfold Sc;rw[gE sc.lt];exact sc
def Mv(id:Nat)(s:ao)(a:Nat)(h h':aa):Prop:=∃j,h'=h.set id (dB s a)++j
def Mv.other{id a:Nat}(g:Mv id s a h h')(hi:i<h.length)(hne:i≠id):h'[i]?=h[i]?:=by
 obtain⟨j,rfl⟩:=g;rw[gE (by simpa using hi),iN (Ne.symm hne)]
def Mv.set(id:Nat)(s:ao)(a:Nat)(h:aa):Mv id s a h (h.set id (dB s a)):=⟨[],by simp⟩
def G1{K:AV→Prop}(e:x=.str l)(q:K (i_ l.length)):iT x K:=by subst e;exact q
def eD{K:AV→Prop}(e:x=.v (.int k' n))(hm:k.wrap n=m)(q:K (.v (.int k m))):cH k x K:=by subst hm;exact⟨k',n,e,q⟩
def KT(b:UInt8):IntKind.i64.wrap (b.toNat:Int)=(b.toNat:Int):=by rw[IntKind.wrap_i64];have:=b.toNat_lt;omega
variable [Laid]
def cu{args args':List AV}{K0 K:AV→aa→Prop}(hb:cJ P f=true)(e:args=args')(c:cw P f args' h K0)(k:∀r h',K0 r h'→K r h'):bA P (.fn (.func f) [] []) args h K:=by
 subst e;exact⟨hb,by simpa using c.mono k⟩
def Lh{id:Nat}(sc:Sc id h s a)(n:Nat)(hn:a+n≤2^40):cw p_ 86 [.op id 0,i_ n] h fun r h' => r=i_ (pk s (a+n))∧h'=h:=by
 refine (V86 _ _).bR ?_;unfold Wu;have hin:aZ ((a:Int)+(n:Int)):=by unfold aZ;omega
 refine enil (zzA (zzU sc rfl (zzP hin (enil (zzA (zzU sc rfl (G1 rfl (zzC ?_))))))));refine aW rfl (fun q=>?_) fun q=>?_
 ·have q:a+n<s.length:=by have:=uP q;omega
  refine enil (zzA (zzU sc rfl (enil (zzA (zzU sc rfl (zzP hin ?_))))));refine qx (n:=a+n) rfl (by simp) (bY q) ?_;refine eD rfl (KT _) ?_;exact⟨_,_,Wk.refl _ _ _ (aS _),by rw[PN (bY q)],rfl⟩
 ·have q:s.length≤a+n:=by have:=At q;omega
  exact⟨_,_,Wk.refl _ _ _ (aS _),by rw[GN q],rfl⟩
def cZ{id:Nat}{K:AV→aa→Prop}(n:Nat)(sc:Sc id h s a)(ex:x=.op id 0)(hm:m=(n:Int))(hn:a+n≤2^40)(k:K (i_ (pk s (a+n))) h):bA p_ (.fn (.func 86) [] []) [x,i_ m] h K:=by
 subst ex;subst hm;refine cu (by kernel_rfl) rfl (Lh sc n hn) ?_;rintro _ _ ⟨rfl,rfl⟩;exact k
def vF(s:ao)(i:Nat):Bool:=decide (pk s i=92)&&!decide (pk s (i+1)=10)
def wU{id:Nat}{K:AV→aa→Prop}(n:Nat)(sc:Sc id h s a)(ex:x=.op id 0)(hm:m=(n:Int))(hn:a+n<2^40)(k:K (b_ (vF s (a+n))) h):bA p_ (.fn (.func 91) [] []) [x,i_ m] h K:=by
 subst ex;subst hm;refine cu (by kernel_rfl) rfl (K0:=fun r h' => r=b_ (vF s (a+n))∧h'=h) ?_ ?_
 ·refine (V91 _ _).bR ?_;unfold Wz;refine cZ n sc rfl rfl (by omega) (zzG (aK ?_));refine eG rfl (fun q=>?_) fun q=>?_
  ·refine zzP (by unfold aZ;omega) (cZ (n+1) sc rfl (by simp) (by omega) (zzH (zzR ?_)));exact⟨_,_,Wk.refl _ _ _ (aS _),by unfold vF;rw[q];rfl,rfl⟩
  ·refine zzQ ?_;exact⟨_,_,Wk.refl _ _ _ (aS _),by unfold vF;rw[q];rfl,rfl⟩
 ·rintro _ _ ⟨rfl,rfl⟩;exact k
def uz(s:ao)(i:Nat):Bool:=if pk s i=45 then ek_ (pk s (i+1))||decide (pk s (i+1)=45)||vF s (i+1) else ek_ (pk s i)||vF s i
def zd{id:Nat}{K:AV→aa→Prop}(n:Nat)(sc:Sc id h s a)(ex:x=.op id 0)(hm:m=(n:Int))(hn:a+n<2^39)(k:K (b_ (uz s (a+n))) h):bA p_ (.fn (.func 92) [] []) [x,i_ m] h K:=by
 subst ex;subst hm;refine cu (by kernel_rfl) rfl (K0:=fun r h' => r=b_ (uz s (a+n))∧h'=h) ?_ ?_
 ·refine (V92 _ _).bR ?_;unfold WA;have hin:aZ ((n:Int)+1):=by unfold aZ;omega
  refine cZ n sc rfl rfl (by omega) (zzH ?_);refine aW rfl (fun q=>?_) fun q=>?_
  ·have q:¬pk s (a+n)=45:=by simpa using q
   refine cZ n sc rfl rfl (by omega) (uCon (vz _) (aK ?_));refine eG rfl (fun q1=>?_) fun q1=>?_
   ·refine wU n sc rfl rfl (by omega) (zzQ ?_);exact⟨_,_,Wk.refl _ _ _ (aS _),by unfold uz;rw[if_neg q,q1];rfl,rfl⟩
   ·refine zzR ?_;exact⟨_,_,Wk.refl _ _ _ (aS _),by unfold uz;rw[if_neg q,q1];rfl,rfl⟩
  ·have q:pk s (a+n)=45:=by simpa using q
   refine zzP hin (cZ (n+1) sc rfl (by simp) (by omega) (uCon (vz _) (aK ?_)));have rest:∀(c:Bool),c=(ek_ (pk s (a+(n+1)))||decide (pk s (a+(n+1))=45))→aI (fun J27=>aL (b_ c) false (ag .add (i_ n) (i_ 1) fun v28=>bA p_ (.fn (.func 91) [] []) [(.op id 0),v28] h fun v29 g30=>J27 [ff,v29] g30) (J27 [(bO false (b_ c)),un] h)) fun s31 g32=>bG (nx s31 0) tt (nx s31 1) fun v33=>∃r' h'',Wk h.length [v33] g32 [r'] h''∧r'=b_ (uz s (a+n))∧h''=h:=by
    intro c hc;refine aK ?_;refine eG rfl (fun q1=>?_) fun q1=>?_
    ·refine zzP hin (wU (n+1) sc rfl (by simp) (by omega) (zzQ ?_));exact⟨_,_,Wk.refl _ _ _ (aS _),by unfold uz;rw[if_pos q,Nat.add_assoc,←hc,q1];rfl,rfl⟩
    ·refine zzR ?_;exact⟨_,_,Wk.refl _ _ _ (aS _),by unfold uz;rw[if_pos q,Nat.add_assoc,←hc,q1];rfl,rfl⟩
   refine eG rfl (fun q1=>?_) fun q1=>?_
   ·refine zzP hin (cZ (n+1) sc rfl (by simp) (by omega) (zzG (ar (zzQ ?_))));exact rest _ (by rw[q1];rfl)
   ·refine ar (zzR ?_);exact rest true (by rw[q1];rfl)
 ·rintro _ _ ⟨rfl,rfl⟩;exact k
def lP(p:Int→Bool)(s:ao)(a:Nat):Nat:=((s.drop a).takeWhile fun b=>p (b.toNat:Int)).length
omit [Laid] in
def Kj{p:Int→Bool}(hk:k<lP p s a):a+k<s.length∧p (pk s (a+k))=true:=by
 have key:∀(l:ao) (k:Nat),k<(l.takeWhile fun b=>p (b.toNat:Int)).length→k<l.length∧p (pk l k)=true:=by
  intro l;induction l with
  | nil=>intro k hk;simp at hk
  | cons b l ih =>
    intro k hk
    by_cases hb:p (b.toNat:Int)=true
    ·have e:(b:: l).takeWhile (fun b=>p (b.toNat:Int))=b:: l.takeWhile (fun b=>p (b.toNat:Int)):=List.takeWhile_cons_of_pos hb;rw[e]at hk
     match k,hk with
     | 0,_=>exact⟨by simp,by simpa[pk]using hb⟩
     | k+1,hk =>
       have ⟨h1,h2⟩:=ih k (by simpa using hk);exact⟨by simpa using h1,by simpa[pk]using h2⟩
    ·have e:(b:: l).takeWhile (fun b=>p (b.toNat:Int))=[]:=List.takeWhile_cons_of_neg hb;rw[e]at hk;simp at hk
 have ⟨h1,h2⟩:=key (s.drop a) k hk;refine⟨by rw[List.length_drop]at h1;omega, ?_⟩;unfold pk at h2 ⊢
 rwa [aag]at h2
omit [Laid] in
def Bi{p:Int→Bool}(hp:p (-1)=false)(s:ao)(a:Nat):p (pk s (a+lP p s a))=false:=by
 unfold lP;have key:∀l:ao,p (pk l ((l.takeWhile fun b=>p (b.toNat:Int)).length))=false:=by
  intro l;induction l with
  | nil=>simpa[pk]using hp
  | cons b l ih =>
    by_cases hb:p (b.toNat:Int)=true
    ·have e:(b:: l).takeWhile (fun b=>p (b.toNat:Int))=b:: l.takeWhile (fun b=>p (b.toNat:Int)):=List.takeWhile_cons_of_pos hb;rw[e,aab];simpa[pk]using ih
    ·have e:(b:: l).takeWhile (fun b=>p (b.toNat:Int))=[]:=List.takeWhile_cons_of_neg hb;rw[e];simpa[pk]using hb
 have:=key (s.drop a);unfold pk at this ⊢
 rwa [aag]at this
omit [Laid] in
def Tv(p:Int→Bool)(s:ao)(a:Nat):lP p s a≤s.length-a:=by
 unfold lP;have hle:((s.drop a).takeWhile fun b=>p (b.toNat:Int)).length≤(s.drop a).length:=(List.takeWhile_prefix _).length_le;simpa using hle
def Gx{id:Nat}{p:Int→Bool}{K:AV→aa→Prop}(sc:Sc id h s a)(ex:x=.op id 0)(hb:cJ p_ f=true)(hc:∀n,aV p_ f [i_ n] (b_ (p n)))(hp:p (-1)=false)(ha:a≤s.length)(hl:s.length≤2^32)
 (k:K (.aw []) (h.set id (dB s (a+lP p s a)))):bA p_ (.fn (.func 88) [] []) [x,.fn (.func f) [] []] h K:=by
 subst ex;refine cu (by kernel_rfl) rfl (K0:=fun r h' => r=.aw []∧h'=h.set id (dB s (a+lP p s a))) ?_ ?_
 ·refine (V88 _ _).bR ?_;unfold Ww;have hr:=Tv p s a;refine aG (α:=Nat) (fun k=>k≤lP p s a) (fun _=>[]) (fun k=>h.set id (dB s (a+k))) (fun k=>lP p s a-k) 0 (aao _) (by rw[Nat.add_zero,jV sc];exact Wk.refl _ _ _ (aS _)) ?_;intro k hk;have sc':=sc.set (a+k);refine cZ 0 sc' rfl rfl (by omega) (sa hb (hc _) ?_);rw[Nat.add_zero]
  by_cases q:k<lP p s a
  ·have ⟨q1,q2⟩:=Kj q;refine zzL q2 (enil (zzA (zzU sc' rfl (zzP (by unfold aZ;omega) (enil (zzA ?_))))));refine aM (cs:=[i_ ((a+k:Nat)+1:Int)]) (h':=h.set id (dB s (a+(k+1)))) rfl sc' rfl rfl (by simp) rfl rfl ?_ ?_
   ·rw[aam];have e:((a+k:Nat):Int)+1=((a+(k+1):Nat):Int):=by omega
    show _=List.set h id (.ak ⟨126,[.str s,i_ ((a+(k+1):Nat):Int)],true⟩);rw[←e];rfl
   ·refine ar ⟨k+1,by omega,Wk.refl _ _ _ (by simp),by omega⟩
  ·obtain rfl:k=lP p s a:=by omega
   refine zzK (Bi hp s a) ?_;exact⟨_,_,Wk.refl _ _ _ (by simp),rfl,rfl⟩
 ·rintro _ _ ⟨rfl,rfl⟩;exact k
def Ek(s:ao)(a:Nat):Bool:=
 let n:=if pk s a=43∨pk s a=45 then 1 else 0
 let m:=if pk s (a+n)=46 then n+1 else n
 ik (pk s (a+m)) 48 57
def Mg{id:Nat}{K:AV→aa→Prop}(sc:Sc id h s a)(ex:x=.op id 0)(hn:a<2^39)(k:K (b_ (Ek s a)) h):bA p_ (.fn (.func 94) [] []) [x] h K:=by
 subst ex;refine cu (by kernel_rfl) rfl (K0:=fun r h' => r=b_ (Ek s a)∧h'=h) ?_ ?_
 ·refine (V94 _).bR ?_;unfold WD;refine zL [i_ ((if pk s a=43∨pk s a=45 then 1 else 0:Nat):Int)] h ?_ fun F hF=>?_
  ·have hle:(if pk s a=43∨pk s a=45 then 1 else 0:Nat)≤1:=by split<;>omega
   generalize hnn:(if pk s a=43∨pk s a=45 then 1 else 0:Nat)=n at hle;refine zL [i_ ((if pk s (a+n)=46 then n+1 else n:Nat):Int)] h ?_ fun F hF=>?_
   ·have hle2:(if pk s (a+n)=46 then n+1 else n:Nat)≤2:=by split<;>omega
    refine cZ (if pk s (a+n)=46 then n+1 else n) sc rfl rfl (by omega) (uCon (mJ _) ?_);exact⟨_,_,Wk.refl _ _ _ (aS _),by unfold Ek;rw[hnn],rfl⟩
   ·refine cZ n sc rfl rfl (by omega) (zzG ?_);refine aW rfl (fun q=>?_) fun q=>?_
    ·have q:pk s (a+n)=46:=uP q;refine zzP (by unfold aZ;omega) (ar ?_);rw[if_pos q]at hF;exact hF
    ·have q:¬pk s (a+n)=46:=At q;refine ar ?_;rw[if_neg q]at hF;exact hF
  ·refine cZ 0 sc rfl rfl (by omega) ?_;rw[Nat.add_zero];refine zzG ?_;have fin:∀c:Bool,(c=true↔(pk s a=43∨pk s a=45))→af (b_ c) (ag .add (i_ 0) (i_ 1) fun v10=>[AV.op id 0]=[AV.op id 0]∧F [v10] h) ([AV.op id 0]=[AV.op id 0]∧F [(i_ 0)] h):=by
    intro c hc;refine aW rfl (fun q=>?_) fun q=>?_
    ·refine zzP (by unfold aZ;omega) (ar ?_);rw[if_pos (hc.1 q)]at hF;exact hF
    ·refine ar ?_;rw[if_neg (fun z=>by rw[hc.2 z]at q;cases q)]at hF;exact hF
   refine aK ?_;refine eG rfl (fun q1=>?_) fun q1=>?_
   ·have q1:¬pk s a=43:=At q1;refine zzG (ar (zzQ ?_));exact fin _ (by simp[q1])
   ·have q1:pk s a=43:=by simpa using q1
    refine ar (zzR ?_);exact fin true (by simp[q1])
 ·rintro _ _ ⟨rfl,rfl⟩;exact k
end
section
open Go Go.Aw Go.RowKit
abbrev xR(l:List UInt8):List (List AV):=l.map fun b=>[bS b]
def FJ(l:List UInt8):(xR l).all (da 1)=true:=Bg (f:=fun b=>[bS b]) (fun _=>⟨rfl,rfl⟩) l
def ER{K:AV→Prop}(q:K (.sl 1 [[u8 x]])):bz 1 1 (u8 0) [(0,1,u8 x)] K:=by
 have e:dD (eZ 1 (bl (u8 0))) [(0,1,u8 x)]=some [u8 x]:=by simp[dD,eZ,bl,bU,bw]
 unfold bz;rw[e];exact q
def R9{K:AV→Prop}{id:Nat}(e:x=.sb id 1 (xR l))(q:K (.str l)):dk x h K:=by
 subst e;have h2:∀l:List UInt8,(xR l).flatten=l.map bS:=by
  intro l;induction l with
  | nil=>rfl
  | cons b l ih=>show bS b:: (xR l).flatten=_;rw[ih];rfl
 unfold dk;rw[TS];simp only[Option.bind_some];rw[h2,py];exact q
def SV(n:Int):Bool:=ek_ n||ik n 48 57||decide (n=45)
variable [Laid]
def Sn(l:ao):Prop:=l≠[]∧∀b∈l,48≤b.toNat∧b.toNat≤57
end
section
open Go.Shelf
theorem uSo2{α:Type}{a b:α}(h:a=b:=by kernel_rfl):some a=some b:=congrArg some h
def lays161_ren:Go.Shelf.Ren:=⟨fun|161=>203|231=>257|227=>258|233=>259|235=>260|228=>263|197=>285|151=>286|260=>304|152=>261|137=>97|119=>287|224=>198|225=>197|217=>150|266=>207|n=>n,fun|9=>9|4=>4|3=>3|5=>5|117=>294|116=>293|0=>0|124=>297|105=>329|21=>21|119=>282|46=>240|139=>369|138=>368|n=>n,fun|3=>1|4=>2|n=>n⟩
theorem lays161:Go.Proofs.Lays.n161 p_ lays161_ren:={
 mixed:=by kernel_rfl
 f119:=Tryz.func287.trans uSo2
 f137:=Tryz.func97.trans uSo2
 f151:=Tryz.func286.trans uSo2
 f152:=Tryz.func261.trans uSo2
 f161:=Tryz.func203.trans uSo2
 f197:=Tryz.func285.trans uSo2
 f217:=Tryz.func150.trans uSo2
 f224:=Tryz.func198.trans uSo2
 f225:=Tryz.func197.trans uSo2
 f227:=Tryz.func258.trans uSo2
 f228:=Tryz.func263.trans uSo2
 f231:=Tryz.func257.trans uSo2
 f233:=Tryz.func259.trans uSo2
 f235:=Tryz.func260.trans uSo2
 f260:=Tryz.func304.trans uSo2
 f266:=Tryz.func207.trans uSo2
 t0:=Tryz.underlying0
 a0:=Tryz.isAgg0
 z0:=Tryz.sizeOf0
 v0:=Tryz.zeroValue0
 t3:=Tryz.underlying3
 a3:=Tryz.isAgg3
 z3:=Tryz.sizeOf3
 v3:=Tryz.zeroValue3
 t4:=Tryz.underlying4
 a4:=Tryz.isAgg4
 z4:=Tryz.sizeOf4
 v4:=Tryz.zeroValue4
 t5:=Tryz.underlying5
 a5:=Tryz.isAgg5
 z5:=Tryz.sizeOf5
 v5:=Tryz.zeroValue5
 t9:=Tryz.underlying9
 a9:=Tryz.isAgg9
 z9:=Tryz.sizeOf9
 v9:=Tryz.zeroValue9
 t21:=Tryz.underlying21
 a21:=Tryz.isAgg21
 z21:=Tryz.sizeOf21
 v21:=Tryz.zeroValue21
 t46:=Tryz.underlying240
 a46:=Tryz.isAgg240
 z46:=Tryz.sizeOf240
 v46:=Tryz.zeroValue240
 t105:=Tryz.underlying329
 a105:=Tryz.isAgg329
 z105:=Tryz.sizeOf329
 v105:=Tryz.zeroValue329
 t116:=Tryz.underlying293
 a116:=Tryz.isAgg293
 z116:=Tryz.sizeOf293
 t117:=Tryz.underlying294
 a117:=Tryz.isAgg294
 z117:=Tryz.sizeOf294
 v117:=Tryz.zeroValue294
 t119:=Tryz.underlying282
 a119:=Tryz.isAgg282
 z119:=Tryz.sizeOf282
 t124:=Tryz.underlying297
 a124:=Tryz.isAgg297
 z124:=Tryz.sizeOf297
 v124:=Tryz.zeroValue297
 t138:=Tryz.underlying368
 a138:=Tryz.isAgg368
 z138:=Tryz.sizeOf368
 v138:=Tryz.zeroValue368
 t139:=Tryz.underlying369
 a139:=Tryz.isAgg369
 z139:=Tryz.sizeOf369
 v139:=Tryz.zeroValue369
 g3:=by kernel_rfl
 g4:=by kernel_rfl }
def lays160_ren:Go.Shelf.Ren:=⟨fun|160=>322|232=>324|231=>257|227=>258|234=>325|233=>259|236=>326|235=>260|228=>263|271=>329|151=>286|197=>285|120=>335|152=>261|260=>304|137=>97|119=>287|224=>198|225=>197|217=>150|266=>207|n=>n,fun|9=>9|4=>4|3=>3|5=>5|117=>294|116=>293|0=>0|124=>297|21=>21|105=>329|46=>240|119=>282|139=>369|138=>368|n=>n,fun|3=>1|4=>2|n=>n⟩
theorem lays160:Go.Proofs.Lays.n160 p_ lays160_ren:={
 mixed:=by kernel_rfl
 f119:=Tryz.func287.trans uSo2
 f120:=Tryz.func335.trans uSo2
 f137:=Tryz.func97.trans uSo2
 f151:=Tryz.func286.trans uSo2
 f152:=Tryz.func261.trans uSo2
 f160:=Tryz.func322.trans uSo2
 f197:=Tryz.func285.trans uSo2
 f217:=Tryz.func150.trans uSo2
 f224:=Tryz.func198.trans uSo2
 f225:=Tryz.func197.trans uSo2
 f227:=Tryz.func258.trans uSo2
 f228:=Tryz.func263.trans uSo2
 f231:=Tryz.func257.trans uSo2
 f232:=Tryz.func324.trans uSo2
 f233:=Tryz.func259.trans uSo2
 f234:=Tryz.func325.trans uSo2
 f235:=Tryz.func260.trans uSo2
 f236:=Tryz.func326.trans uSo2
 f260:=Tryz.func304.trans uSo2
 f266:=Tryz.func207.trans uSo2
 f271:=Tryz.func329.trans uSo2
 t0:=Tryz.underlying0
 a0:=Tryz.isAgg0
 z0:=Tryz.sizeOf0
 v0:=Tryz.zeroValue0
 t3:=Tryz.underlying3
 a3:=Tryz.isAgg3
 z3:=Tryz.sizeOf3
 v3:=Tryz.zeroValue3
 t4:=Tryz.underlying4
 a4:=Tryz.isAgg4
 z4:=Tryz.sizeOf4
 v4:=Tryz.zeroValue4
 t5:=Tryz.underlying5
 a5:=Tryz.isAgg5
 z5:=Tryz.sizeOf5
 v5:=Tryz.zeroValue5
 t9:=Tryz.underlying9
 a9:=Tryz.isAgg9
 z9:=Tryz.sizeOf9
 v9:=Tryz.zeroValue9
 t21:=Tryz.underlying21
 a21:=Tryz.isAgg21
 z21:=Tryz.sizeOf21
 v21:=Tryz.zeroValue21
 t46:=Tryz.underlying240
 a46:=Tryz.isAgg240
 z46:=Tryz.sizeOf240
 v46:=Tryz.zeroValue240
 t105:=Tryz.underlying329
 a105:=Tryz.isAgg329
 z105:=Tryz.sizeOf329
 v105:=Tryz.zeroValue329
 t116:=Tryz.underlying293
 a116:=Tryz.isAgg293
 z116:=Tryz.sizeOf293
 t117:=Tryz.underlying294
 a117:=Tryz.isAgg294
 z117:=Tryz.sizeOf294
 v117:=Tryz.zeroValue294
 t119:=Tryz.underlying282
 a119:=Tryz.isAgg282
 z119:=Tryz.sizeOf282
 t124:=Tryz.underlying297
 a124:=Tryz.isAgg297
 z124:=Tryz.sizeOf297
 v124:=Tryz.zeroValue297
 t138:=Tryz.underlying368
 a138:=Tryz.isAgg368
 z138:=Tryz.sizeOf368
 v138:=Tryz.zeroValue368
 t139:=Tryz.underlying369
 a139:=Tryz.isAgg369
 z139:=Tryz.sizeOf369
 v139:=Tryz.zeroValue369
 g3:=by kernel_rfl
 g4:=by kernel_rfl }
def lays103_ren:Go.Shelf.Ren:=⟨fun|103=>307|210=>321|206=>141|n=>n,fun|9=>9|4=>4|24=>356|3=>3|n=>n,fun|n=>n⟩
theorem lays103:Go.Proofs.Lays.n103 p_ lays103_ren:={
 mixed:=by kernel_rfl
 f103:=Tryz.func307.trans uSo2
 f206:=Tryz.func141.trans uSo2
 f210:=Tryz.func321.trans uSo2
 t3:=Tryz.underlying3
 a3:=Tryz.isAgg3
 z3:=Tryz.sizeOf3
 v3:=Tryz.zeroValue3
 t4:=Tryz.underlying4
 a4:=Tryz.isAgg4
 z4:=Tryz.sizeOf4
 v4:=Tryz.zeroValue4
 t9:=Tryz.underlying9
 a9:=Tryz.isAgg9
 z9:=Tryz.sizeOf9
 v9:=Tryz.zeroValue9
 t24:=Tryz.underlying356
 a24:=Tryz.isAgg356
 z24:=Tryz.sizeOf356
 v24:=Tryz.zeroValue356 }
def laysC174_ren:Go.Shelf.Ren:=⟨fun|174=>323|247=>327|245=>328|287=>330|279=>331|280=>332|281=>333|282=>334|321=>336|322=>337|316=>338|171=>340|205=>339|243=>341|246=>342|283=>343|284=>344|285=>345|286=>346|129=>348|317=>347|318=>349|319=>350|320=>351|337=>352|338=>353|n=>n,fun|9=>9|3=>3|2=>2|75=>371|85=>372|4=>4|167=>375|5=>5|53=>376|175=>377|46=>240|168=>379|37=>116|0=>0|210=>383|21=>21|127=>385|145=>388|143=>386|171=>390|173=>393|212=>396|51=>191|20=>20|213=>397|232=>400|233=>401|80=>156|n=>n,fun|15=>3|16=>4|17=>5|18=>6|19=>7|n=>n⟩
theorem laysC174:Go.Proofs.LaysC.n174 p_ laysC174_ren:={
 mixed:=by kernel_rfl
 f129:=Tryz.func348.trans uSo2
 f171:=Tryz.func340.trans uSo2
 f174:=Tryz.func323.trans uSo2
 f205:=Tryz.func339.trans uSo2
 f243:=Tryz.func341.trans uSo2
 f245:=Tryz.func328.trans uSo2
 f246:=Tryz.func342.trans uSo2
 f247:=Tryz.func327.trans uSo2
 f279:=Tryz.func331.trans uSo2
 f280:=Tryz.func332.trans uSo2
 f281:=Tryz.func333.trans uSo2
 f282:=Tryz.func334.trans uSo2
 f283:=Tryz.func343.trans uSo2
 f284:=Tryz.func344.trans uSo2
 f285:=Tryz.func345.trans uSo2
 f286:=Tryz.func346.trans uSo2
 f287:=Tryz.func330.trans uSo2
 f316:=Tryz.func338.trans uSo2
 f317:=Tryz.func347.trans uSo2
 f318:=Tryz.func349.trans uSo2
 f319:=Tryz.func350.trans uSo2
 f320:=Tryz.func351.trans uSo2
 f321:=Tryz.func336.trans uSo2
 f322:=Tryz.func337.trans uSo2
 f337:=Tryz.func352.trans uSo2
 f338:=Tryz.func353.trans uSo2
 t0:=Tryz.underlying0
 a0:=Tryz.isAgg0
 z0:=Tryz.sizeOf0
 v0:=Tryz.zeroValue0
 t2:=Tryz.underlying2
 a2:=Tryz.isAgg2
 z2:=Tryz.sizeOf2
 v2:=Tryz.zeroValue2
 t3:=Tryz.underlying3
 a3:=Tryz.isAgg3
 z3:=Tryz.sizeOf3
 v3:=Tryz.zeroValue3
 t4:=Tryz.underlying4
 a4:=Tryz.isAgg4
 z4:=Tryz.sizeOf4
 v4:=Tryz.zeroValue4
 t5:=Tryz.underlying5
 a5:=Tryz.isAgg5
 z5:=Tryz.sizeOf5
 v5:=Tryz.zeroValue5
 t9:=Tryz.underlying9
 a9:=Tryz.isAgg9
 z9:=Tryz.sizeOf9
 v9:=Tryz.zeroValue9
 t20:=Tryz.underlying20
 a20:=Tryz.isAgg20
 z20:=Tryz.sizeOf20
 v20:=Tryz.zeroValue20
 t21:=Tryz.underlying21
 a21:=Tryz.isAgg21
 z21:=Tryz.sizeOf21
 v21:=Tryz.zeroValue21
 t37:=Tryz.underlying116
 a37:=Tryz.isAgg116
 z37:=Tryz.sizeOf116
 v37:=Tryz.zeroValue116
 t46:=Tryz.underlying240
 a46:=Tryz.isAgg240
 z46:=Tryz.sizeOf240
 v46:=Tryz.zeroValue240
 t51:=Tryz.underlying191
 a51:=Tryz.isAgg191
 z51:=Tryz.sizeOf191
 v51:=Tryz.zeroValue191
 t53:=Tryz.underlying376
 a53:=Tryz.isAgg376
 z53:=Tryz.sizeOf376
 v53:=Tryz.zeroValue376
 t75:=Tryz.underlying371
 a75:=Tryz.isAgg371
 z75:=Tryz.sizeOf371
 v75:=Tryz.zeroValue371
 t85:=Tryz.underlying372
 a85:=Tryz.isAgg372
 z85:=Tryz.sizeOf372
 v85:=Tryz.zeroValue372
 t127:=Tryz.underlying385
 a127:=Tryz.isAgg385
 z127:=Tryz.sizeOf385
 v127:=Tryz.zeroValue385
 t143:=Tryz.underlying386
 a143:=Tryz.isAgg386
 z143:=Tryz.sizeOf386
 v143:=Tryz.zeroValue386
 t145:=Tryz.underlying388
 a145:=Tryz.isAgg388
 z145:=Tryz.sizeOf388
 v145:=Tryz.zeroValue388
 t167:=Tryz.underlying375
 a167:=Tryz.isAgg375
 z167:=Tryz.sizeOf375
 v167:=Tryz.zeroValue375
 t168:=Tryz.underlying379
 a168:=Tryz.isAgg379
 z168:=Tryz.sizeOf379
 v168:=Tryz.zeroValue379
 t171:=Tryz.underlying390
 a171:=Tryz.isAgg390
 z171:=Tryz.sizeOf390
 v171:=Tryz.zeroValue390
 t173:=Tryz.underlying393
 a173:=Tryz.isAgg393
 z173:=Tryz.sizeOf393
 v173:=Tryz.zeroValue393
 t175:=Tryz.underlying377
 a175:=Tryz.isAgg377
 z175:=Tryz.sizeOf377
 v175:=Tryz.zeroValue377
 t210:=Tryz.underlying383
 a210:=Tryz.isAgg383
 z210:=Tryz.sizeOf383
 v210:=Tryz.zeroValue383
 t212:=Tryz.underlying396
 a212:=Tryz.isAgg396
 z212:=Tryz.sizeOf396
 v212:=Tryz.zeroValue396
 t213:=Tryz.underlying397
 a213:=Tryz.isAgg397
 z213:=Tryz.sizeOf397
 t232:=Tryz.underlying400
 a232:=Tryz.isAgg400
 z232:=Tryz.sizeOf400
 v232:=Tryz.zeroValue400
 t233:=Tryz.underlying401
 a233:=Tryz.isAgg401
 z233:=Tryz.sizeOf401
 v233:=Tryz.zeroValue401
 g15:=by kernel_rfl
 g16:=by kernel_rfl
 g17:=by kernel_rfl
 g18:=by kernel_rfl
 g19:=by kernel_rfl
 t80:=Tryz.underlying156
 a80:=Tryz.isAgg156
 z80:=Tryz.sizeOf156
 v80:=Tryz.zeroValue156
 i0:=by kernel_rfl
 i2:=by kernel_rfl
 i3:=by kernel_rfl
 i4:=by kernel_rfl
 i5:=by kernel_rfl
 i9:=by kernel_rfl
 i20:=by kernel_rfl
 i21:=by kernel_rfl
 i37:=by kernel_rfl
 i46:=by kernel_rfl
 i51:=by kernel_rfl
 i53:=by kernel_rfl
 i75:=by kernel_rfl
 i80:=by kernel_rfl
 i85:=by kernel_rfl
 i127:=by kernel_rfl
 i143:=by kernel_rfl
 i145:=by kernel_rfl
 i167:=by kernel_rfl
 i168:=by kernel_rfl
 i171:=by kernel_rfl
 i173:=by kernel_rfl
 i175:=by kernel_rfl
 i210:=by kernel_rfl
 i212:=by kernel_rfl
 i232:=by kernel_rfl
 i233:=by kernel_rfl
 m15:=by kernel_rfl
 m16:=by kernel_rfl
 m17:=by kernel_rfl
 m18:=by kernel_rfl
 m19:=by kernel_rfl
 c0:=by kernel_rfl
 c2:=by kernel_rfl
 c3:=by kernel_rfl
 c4:=by kernel_rfl
 c5:=by kernel_rfl
 c9:=by kernel_rfl
 c20:=by kernel_rfl
 c21:=by kernel_rfl
 c37:=by kernel_rfl
 c46:=by kernel_rfl
 c51:=by kernel_rfl
 c53:=by kernel_rfl
 c75:=by kernel_rfl
 c80:=by kernel_rfl
 c85:=by kernel_rfl
 c127:=by kernel_rfl
 c143:=by kernel_rfl
 c145:=by kernel_rfl
 c167:=by kernel_rfl
 c168:=by kernel_rfl
 c171:=by kernel_rfl
 c173:=by kernel_rfl
 c175:=by kernel_rfl
 c210:=by kernel_rfl
 c212:=by kernel_rfl
 c213:=by kernel_rfl
 c232:=by kernel_rfl
 c233:=by kernel_rfl }
def lays145_ren:Go.Shelf.Ren:=⟨fun|145=>205|220=>264|219=>142|217=>150|225=>197|224=>198|267=>199|266=>207|314=>255|n=>n,fun|9=>9|4=>4|59=>244|3=>3|5=>5|46=>240|146=>289|51=>191|n=>n,fun|1=>0|n=>n⟩
theorem lays145:Go.Proofs.Lays.n145 p_ lays145_ren:={
 mixed:=by kernel_rfl
 f145:=Tryz.func205.trans uSo2
 f217:=Tryz.func150.trans uSo2
 f219:=Tryz.func142.trans uSo2
 f220:=Tryz.func264.trans uSo2
 f224:=Tryz.func198.trans uSo2
 f225:=Tryz.func197.trans uSo2
 f266:=Tryz.func207.trans uSo2
 f267:=Tryz.func199.trans uSo2
 f314:=Tryz.func255.trans uSo2
 t3:=Tryz.underlying3
 a3:=Tryz.isAgg3
 z3:=Tryz.sizeOf3
 v3:=Tryz.zeroValue3
 t4:=Tryz.underlying4
 a4:=Tryz.isAgg4
 z4:=Tryz.sizeOf4
 v4:=Tryz.zeroValue4
 t5:=Tryz.underlying5
 a5:=Tryz.isAgg5
 z5:=Tryz.sizeOf5
 v5:=Tryz.zeroValue5
 t9:=Tryz.underlying9
 a9:=Tryz.isAgg9
 z9:=Tryz.sizeOf9
 v9:=Tryz.zeroValue9
 t46:=Tryz.underlying240
 a46:=Tryz.isAgg240
 z46:=Tryz.sizeOf240
 v46:=Tryz.zeroValue240
 t51:=Tryz.underlying191
 a51:=Tryz.isAgg191
 z51:=Tryz.sizeOf191
 v51:=Tryz.zeroValue191
 t59:=Tryz.underlying244
 a59:=Tryz.isAgg244
 z59:=Tryz.sizeOf244
 v59:=Tryz.zeroValue244
 t146:=Tryz.underlying289
 a146:=Tryz.isAgg289
 z146:=Tryz.sizeOf289
 v146:=Tryz.zeroValue289
 g1:=by kernel_rfl }
end
section
open Go Go.Aw Go.RowKit
def rK(l:ao):Prop:=∀b∈l,b.toNat<128
def ua(h:rK l):∀(j:Nat) b,l[j]?=some b→b.toNat<128:=fun j b hb=>h b (eQ hb)
variable [bB]
omit [bB] in
def BK[Laid](l m:ao)(hl:l.length≤2^31)(hm:m.length≤2^31)(am:rK m):aV p_ 203 [.str l,.str m] (.str (Lib.trimLeftS l m)):=by
 have hle:(Lib.trimLeftS l m).length≤l.length:=(List.dropWhile_suffix _).length_le;refine gV (v:=.string ⟨(Lib.trimLeftS l m).toArray⟩) (by simp[aq]) (by simp) (by simp) (fun w=>by simp[maxLen];omega) ?_;intro ι S w vs h1 hg
 match vs,h1 with
 | [],h1=>simp at h1
 | [v],h1=>simp at h1
 | v:: u:: x:: vs,h1=>simp at h1
 | [v,u],h1 =>
   simp only[bL,di,and_true,dG]at h1;obtain⟨⟨rfl,_⟩,rfl,_⟩:=h1;refine (Any.strings_TrimLeft_laid lays161 (by kernel_rfl) ⟨l.toArray⟩ ⟨m.toArray⟩ w (by simp[ByteArray.size];omega) (fun j b hb=>ua am j b (by simpa using hb))).mono fun e w' q=>by simpa using q
omit [bB] in
def I4[Laid](l m:ao)(hl:l.length≤2^31)(hm:m.length≤2^31)(am:rK m)(hle:(Lib.trimS l m).length≤2^31):aV p_ 322 [.str l,.str m] (.str (Lib.trimS l m)):=by
 refine gV (v:=.string ⟨(Lib.trimS l m).toArray⟩) (by simp[aq]) (by simp) (by simp) (fun w=>by simp[maxLen];omega) ?_;intro ι S w vs h1 hg
 match vs,h1 with
 | [],h1=>simp at h1
 | [v],h1=>simp at h1
 | v:: u:: x:: vs,h1=>simp at h1
 | [v,u],h1 =>
   simp only[bL,di,and_true,dG]at h1;obtain⟨⟨rfl,_⟩,rfl,_⟩:=h1;refine (Any.strings_Trim_laid lays160 (by kernel_rfl) ⟨l.toArray⟩ ⟨m.toArray⟩ w (by simp[ByteArray.size];omega) (by simp[ByteArray.size];omega) (fun j b hb=>ua am j b (by simpa using hb))).mono fun e w' q=>by simpa using q
omit [bB] in
def DC[Laid](l m:ao)(hl:l.length≤2^31)(hm:m.length≤2^31)(al:rK l)(am:rK m):aV p_ 204 [.str l,.str m] (i_ (Lib.indexAny l m)):=by
 refine gV (v:=.int .i64 (Lib.indexAny l m)) (by simp[aq]) (by simp) (by simp) (fun w=>by simp) ?_;intro ι S w vs h1 hg
 match vs,h1 with
 | [],h1=>simp at h1
 | [v],h1=>simp at h1
 | v:: u:: x:: vs,h1=>simp at h1
 | [v,u],h1 =>
   simp only[bL,di,and_true,dG]at h1;obtain⟨⟨rfl,_⟩,rfl,_⟩:=h1;refine (Cs ⟨l.toArray⟩ ⟨m.toArray⟩ w (by simp[ByteArray.size];omega) (by simp[ByteArray.size];omega) (fun j b hb=>ua al j b (by simpa using hb)) (fun j b hb=>ua am j b (by simpa using hb))).mono fun e w' q=>by simpa using q
omit [bB] in
def uh[Laid](l m:ao)(hl:l.length≤2^31):aV p_ 307 [.str l,.str m] (.aw [.str (Lib.trimPrefix l m),b_ (Lib.hasPrefix l m)]):=by
 have hle:(Lib.trimPrefix l m).length≤l.length:=by unfold Lib.trimPrefix;split<;>simp
 refine gV (v:=.tuple #[.string ⟨(Lib.trimPrefix l m).toArray⟩,.bool (Lib.hasPrefix l m)]) (by simp[aq]) (by simp) (by simp[aq]) (fun w=>by rw[ax];exact⟨[.string ⟨(Lib.trimPrefix l m).toArray⟩,.bool (Lib.hasPrefix l m)],rfl,by simp[maxLen];omega⟩) ?_;intro ι S w vs h1 hg
 match vs,h1 with
 | [],h1=>simp at h1
 | [v],h1=>simp at h1
 | v:: u:: x:: vs,h1=>simp at h1
 | [v,u],h1 =>
   simp only[bL,di,and_true,dG]at h1;obtain⟨⟨rfl,_⟩,rfl,_⟩:=h1;refine (Any.strings_CutPrefix lays103 ⟨l.toArray⟩ ⟨m.toArray⟩ w).mono ?_;rintro e w' ⟨rfl,rfl⟩;exact⟨rfl,Below.refl _ _⟩
omit [bB] in
def DD[Laid](l:ao)(v:Int)(hl:l.length≤2^31)(h:Lib.parseIntB 64 l=.ok v):aV p_ 323 [.str l,i_ 10,i_ 64] (.aw [i_ v,.v .nilIface]):=by
 refine gV (v:=.tuple #[.int .i64 v,.nilIface]) (by simp[aq]) (by simp) (by simp[aq]) (fun w=>by rw[ax];exact⟨[.int .i64 v,.nilIface],rfl,by simp⟩) ?_;intro ι S w vs h1 hg
 match vs,h1 with
 | [],h1=>simp at h1
 | [v],h1=>simp at h1
 | [v,u],h1=>simp at h1
 | v:: u:: x:: y:: vs,h1=>simp at h1
 | [v,u,x],h1 =>
   simp only[bL,di,and_true,dG,cE]at h1;obtain⟨⟨rfl,_⟩,rfl,rfl⟩:=h1;refine (Any.strconv_ParseInt_10_at64_ok laysC174 ⟨l.toArray⟩ (by simp[ByteArray.size];omega) _ (by simpa using h) w).mono ?_;rintro e w' ⟨rfl,rfl|⟨t,rfl⟩⟩
   ·exact⟨rfl,Below.refl _ _⟩
   ·exact⟨rfl,Lib.bytesWorld_below _ _ _⟩
end
end Go.Proofs.YtkfakehconamoaaGreatDoor
end
