/-
 What functions of the translation ask,held against their code by the kernel. Printed by a program.
 No conditions.
-/
import Derived.Test.YtldpambpnajgiaaGreatDoorProg
import Derived.KernelRfl
import Derived.Test.YtldpambpnajgiaaGreatDoorRows
import Derived.Test.YtldpambpnajgiaaGreatDoorZc
import Derived.Test.YtldpambpnajgiaaGreatDoorZd
set_option linter.unusedVariables false
set_option linter.unusedSimpArgs false
set_option maxRecDepth 1000000
set_option maxHeartbeats 16000000
open Go.Proofs.Tryz renaming prog→p_
noncomputable section
namespace Go.Proofs.YtldpambpnajgiaaGreatDoor
section
open Go Go.Aw
variable [Laid]
def W28(h:aa)(K:AV→aa→Prop):Prop:=
 iC p_ 53 [(.str [97,117,116,111])] h fun i j=>aY (.agg [(u8 0),(.str []),(i_ 0),(u8 0),(u8 0),(u8 0),(u8 0)]) [(0,1,(u8 2))] fun k=>br 37 (.agg [(u8 0),(.str []),(i_ 0),(u8 0),(u8 0),(u8 0),(u8 0)]) j fun c l=>br 37 (.agg [(u8 0),(.str []),(i_ 0),(u8 0),(u8 0),(u8 0),(u8 0)]) l fun e m=>aE 7 c i m fun n=>aE 7 e k n fun a=>aY (.agg [(u8 0),(u8 0),(u8 0),(u8 0)]) [(3,1,(u8 255))] fun o=>aY (.agg [(u8 0),(.str []),(i_ 0),(u8 0),(u8 0),(u8 0),(u8 0)]) [(0,1,(u8 7)),(3,4,o)] fun p=>iQ p_ 54 [(.str [99,111,108,111,114]),tt,p] a fun q=>aY (.agg [(u8 0),(.str []),(i_ 0),(u8 0),(u8 0),(u8 0),(u8 0)]) [(0,1,(u8 7))] fun r=>iQ p_ 54 [(.str [98,97,99,107,103,114,111,117,110,100,45,99,111,108,111,114]),ff,r] a fun s=>aY (.agg [(u8 0),(.str []),(i_ 0),(u8 0),(u8 0),(u8 0),(u8 0)]) [(0,1,(u8 8))] fun t=>iQ p_ 54 [(.str [98,111,114,100,101,114,45,99,111,108,111,114]),ff,t] a fun u=>aY (.agg [(u8 0),(.str []),(i_ 0),(u8 0),(u8 0),(u8 0),(u8 0)]) [(0,1,(u8 8))] fun v=>iQ p_ 54 [(.str [111,117,116,108,105,110,101,45,99,111,108,111,114]),ff,v] a fun w=>iQ p_ 55 [(.str [100,105,115,112,108,97,121]),ff,(.str [105,110,108,105,110,101]),(.str [98,108,111,99,107,32,102,108,101,120,32,105,110,108,105,110,101,32,105,110,108,105,110,101,45,98,108,111,99,107,32,110,111,110,101])] a fun x=>iQ p_ 55 [(.str [118,105,115,105,98,105,108,105,116,121]),tt,(.str [118,105,115,105,98,108,101]),(.str [99,111,108,108,97,112,115,101,32,104,105,100,100,101,110,32,118,105,115,105,98,108,101])] a fun y=>ag true 7 c a fun z=>iQ p_ 56 [(.str [119,105,100,116,104]),ff,z,(.str [97,117,116,111]),tt,nS] a fun A=>ag true 7 c a fun B=>iQ p_ 56 [(.str [104,101,105,103,104,116]),ff,B,(.str [97,117,116,111]),tt,nS] a fun C=>jP 41 8 12 (.agg [(.str []),ff,(u8 0),(.str []),(i_ 0),(u8 0),(u8 0),(u8 0),(u8 0),nS,nS,ff]) [(0,12,q),(12,12,s),(24,12,u),(36,12,w),(48,12,x),(60,12,y),(72,12,A),(84,12,C)] a fun D E=>bH 4 1 (.str []) [(0,1,(.str [116,111,112])),(1,1,(.str [114,105,103,104,116])),(2,1,(.str [98,111,116,116,111,109])),(3,1,(.str [108,101,102,116]))] fun f=>bu f fun g=>bJ [D,(i_ 0)] E fun F d b =>
 ab .lss (nx d 1) g fun G=>ae G (aG 1 f (nx d 1) fun H=>ag false 1 H b fun I=>ab .add (.str [109,97,114,103,105,110,45]) I fun J=>ag true 7 e b fun L=>iC p_ 56 [J,ff,L,(.str [97,117,116,111]),ff,nS] b fun M N=>bH 1 12 (.agg [(.str []),ff,(u8 0),(.str []),(i_ 0),(u8 0),(u8 0),(u8 0),(u8 0),nS,nS,ff]) [(0,12,M)] fun O=>eE false 41 12 120 (nx d 0) O N fun P Q=>ab .add (nx d 1) (i_ 1) fun R=>eC [c,e,f,g] (F [P,R] Q)) (aY (.agg [(u8 0),(.str []),(i_ 0),(u8 0),(u8 0),(u8 0),(u8 0)]) [(0,1,(u8 2)),(2,1,(i_ 16000))] fun S=>iQ p_ 56 [(.str [102,111,110,116,45,115,105,122,101]),tt,S,(.str []),tt,nS] b fun T=>iQ p_ 53 [(.str [110,111,114,109,97,108])] b fun U=>bH 1 1 (u8 0) [(0,1,(u8 5))] fun V=>iQ p_ 56 [(.str [108,105,110,101,45,104,101,105,103,104,116]),tt,U,(.str [110,111,114,109,97,108]),tt,V] b fun W=>iQ p_ 55 [(.str [116,101,120,116,45,97,108,105,103,110]),tt,(.str [108,101,102,116]),(.str [99,101,110,116,101,114,32,106,117,115,116,105,102,121,32,108,101,102,116,32,114,105,103,104,116])] b fun X=>aY (.agg [(u8 0),(.str []),(i_ 0),(u8 0),(u8 0),(u8 0),(u8 0)]) [(0,1,(u8 5)),(2,1,(i_ 1000))] fun Y=>bH 1 1 (u8 0) [(0,1,(u8 5))] fun Z=>aY (.agg [(.str []),ff,(u8 0),(.str []),(i_ 0),(u8 0),(u8 0),(u8 0),(u8 0),nS,nS,ff]) [(0,1,(.str [111,112,97,99,105,116,121])),(2,7,Y),(10,1,Z)] fun a0=>ag true 7 c b fun a1=>bH 1 1 (.str []) [(0,1,(.str [97,117,116,111]))] fun a2=>bH 1 1 (u8 0) [(0,1,(u8 6))] fun a3=>aY (.agg [(.str []),ff,(u8 0),(.str []),(i_ 0),(u8 0),(u8 0),(u8 0),(u8 0),nS,nS,ff]) [(0,1,(.str [122,45,105,110,100,101,120])),(2,7,a1),(9,1,a2),(10,1,a3)] fun a4=>aY (.agg [(u8 0),(.str []),(i_ 0),(u8 0),(u8 0),(u8 0),(u8 0)]) [(0,1,(u8 6))] fun a5=>bH 1 1 (u8 0) [(0,1,(u8 6))] fun a6=>aY (.agg [(.str []),ff,(u8 0),(.str []),(i_ 0),(u8 0),(u8 0),(u8 0),(u8 0),nS,nS,ff]) [(0,1,(.str [111,114,100,101,114])),(2,7,a5),(10,1,a6)] fun a7=>bH 6 12 (.agg [(.str []),ff,(u8 0),(.str []),(i_ 0),(u8 0),(u8 0),(u8 0),(u8 0),nS,nS,ff]) [(0,12,T),(12,12,W),(24,12,X),(36,12,a0),(48,12,a4),(60,12,a7)] fun a8=>eE false 41 12 120 (nx d 0) a8 b fun a9 b0=>K a9 b0)
theorem V28:Body p_ 28 [] (W28):=mkB Tryz.func28 (sn (sn (.seq (.draw 15 (oR 0 15 []) (oR 15 2 []) []) (.seq (.seq (.bz (.op 0 true::oR 1 2 [])) (.one (.loop [1,2,24,25] [3,26] (sn (sn (.seq (.one (sn (.bz (oR 0 5 (.op 5 true::oR 6 2 []))))) .nil)))))) (.seq (.draw 18 (oR 0 4 (.op 4 true::oR 5 3 (.op 8 true::oR 9 2 (.op 11 true::.op 12 true::oR 13 2 (.op 15 true::.op 16 false::.op 17 true::[]))))) (oR 18 2 []) []) .nil))))) 57 [.tmp 0] (by kernel_rfl) fun _ _=>by kernel_rfl
def W10(h:aa)(K:AV→aa→Prop):Prop:=
 aY (.agg [(u8 0),(.str []),(i_ 0),(u8 0),(u8 0),(u8 0),(u8 0)]) [(0,1,(u8 8))] fun j=>br 37 (.agg [(u8 0),(.str []),(i_ 0),(u8 0),(u8 0),(u8 0),(u8 0)]) h fun e k=>aE 7 e j k fun l=>bH 2 1 (u8 0) [(0,1,(u8 7)),(1,1,(u8 8))] fun c=>bH 3 1 (u8 0) [(0,1,(u8 2)),(1,1,(u8 3)),(2,1,(u8 4))] fun a=>aY (.agg [(u8 0),(.str []),(i_ 0),(u8 0),(u8 0),(u8 0),(u8 0)]) [(0,1,(u8 1)),(1,1,(.str [97,117,116,111]))] fun m=>br 37 (.agg [(u8 0),(.str []),(i_ 0),(u8 0),(u8 0),(u8 0),(u8 0)]) l fun d n=>aE 7 d m n fun b=>aY (.agg [(u8 0),(u8 0),(u8 0),(u8 0)]) [(3,1,(u8 255))] fun o=>aY (.agg [(u8 0),(.str []),(i_ 0),(u8 0),(u8 0),(u8 0),(u8 0)]) [(0,1,(u8 7)),(3,4,o)] fun p=>aY (.agg [(.str []),ff,(u8 0),(.str []),(i_ 0),(u8 0),(u8 0),(u8 0),(u8 0),nS,nS,ff]) [(0,1,(.str [99,111,108,111,114])),(1,1,tt),(2,7,p),(10,1,c)] fun q=>aY (.agg [(u8 0),(.str []),(i_ 0),(u8 0),(u8 0),(u8 0),(u8 0)]) [(0,1,(u8 7))] fun r=>aY (.agg [(.str []),ff,(u8 0),(.str []),(i_ 0),(u8 0),(u8 0),(u8 0),(u8 0),nS,nS,ff]) [(0,1,(.str [98,97,99,107,103,114,111,117,110,100,45,99,111,108,111,114])),(2,7,r),(10,1,c)] fun s=>ag true 7 e b fun t=>aY (.agg [(.str []),ff,(u8 0),(.str []),(i_ 0),(u8 0),(u8 0),(u8 0),(u8 0),nS,nS,ff]) [(0,1,(.str [98,111,114,100,101,114,45,99,111,108,111,114])),(2,7,t),(10,1,c)] fun u=>ag true 7 e b fun v=>aY (.agg [(.str []),ff,(u8 0),(.str []),(i_ 0),(u8 0),(u8 0),(u8 0),(u8 0),nS,nS,ff]) [(0,1,(.str [111,117,116,108,105,110,101,45,99,111,108,111,114])),(2,7,v),(10,1,c)] fun w=>jO p_ (.fn (.func 34) [] []) [(.str [105,110,108,105,110,101])] [] fun x=>bH 5 1 (.str []) [(0,1,(.str [98,108,111,99,107])),(1,1,(.str [102,108,101,120])),(2,1,(.str [105,110,108,105,110,101])),(3,1,(.str [105,110,108,105,110,101,45,98,108,111,99,107])),(4,1,(.str [110,111,110,101]))] fun y=>aY (.agg [(.str []),ff,(u8 0),(.str []),(i_ 0),(u8 0),(u8 0),(u8 0),(u8 0),nS,nS,ff]) [(0,1,(.str [100,105,115,112,108,97,121])),(2,7,x),(9,1,y)] fun z=>jO p_ (.fn (.func 34) [] []) [(.str [118,105,115,105,98,108,101])] [] fun A=>bH 3 1 (.str []) [(0,1,(.str [99,111,108,108,97,112,115,101])),(1,1,(.str [104,105,100,100,101,110])),(2,1,(.str [118,105,115,105,98,108,101]))] fun B=>aY (.agg [(.str []),ff,(u8 0),(.str []),(i_ 0),(u8 0),(u8 0),(u8 0),(u8 0),nS,nS,ff]) [(0,1,(.str [118,105,115,105,98,105,108,105,116,121])),(1,1,tt),(2,7,A),(9,1,B)] fun C=>ag true 7 d b fun D=>bH 1 1 (.str []) [(0,1,(.str [97,117,116,111]))] fun E=>aY (.agg [(.str []),ff,(u8 0),(.str []),(i_ 0),(u8 0),(u8 0),(u8 0),(u8 0),nS,nS,ff]) [(0,1,(.str [119,105,100,116,104])),(2,7,D),(9,1,E),(10,1,a),(11,1,tt)] fun F=>ag true 7 d b fun G=>bH 1 1 (.str []) [(0,1,(.str [97,117,116,111]))] fun H=>aY (.agg [(.str []),ff,(u8 0),(.str []),(i_ 0),(u8 0),(u8 0),(u8 0),(u8 0),nS,nS,ff]) [(0,1,(.str [104,101,105,103,104,116])),(2,7,G),(9,1,H),(10,1,a),(11,1,tt)] fun I=>jO p_ (.fn (.func 35) [] []) [(i_ 0)] [] fun J=>bH 1 1 (.str []) [(0,1,(.str [97,117,116,111]))] fun L=>aY (.agg [(.str []),ff,(u8 0),(.str []),(i_ 0),(u8 0),(u8 0),(u8 0),(u8 0),nS,nS,ff]) [(0,1,(.str [109,97,114,103,105,110,45,116,111,112])),(2,7,J),(9,1,L),(10,1,a)] fun M=>jO p_ (.fn (.func 35) [] []) [(i_ 0)] [] fun N=>bH 1 1 (.str []) [(0,1,(.str [97,117,116,111]))] fun O=>aY (.agg [(.str []),ff,(u8 0),(.str []),(i_ 0),(u8 0),(u8 0),(u8 0),(u8 0),nS,nS,ff]) [(0,1,(.str [109,97,114,103,105,110,45,114,105,103,104,116])),(2,7,N),(9,1,O),(10,1,a)] fun P=>jO p_ (.fn (.func 35) [] []) [(i_ 0)] [] fun Q=>bH 1 1 (.str []) [(0,1,(.str [97,117,116,111]))] fun R=>aY (.agg [(.str []),ff,(u8 0),(.str []),(i_ 0),(u8 0),(u8 0),(u8 0),(u8 0),nS,nS,ff]) [(0,1,(.str [109,97,114,103,105,110,45,98,111,116,116,111,109])),(2,7,Q),(9,1,R),(10,1,a)] fun S=>jO p_ (.fn (.func 35) [] []) [(i_ 0)] [] fun T=>bH 1 1 (.str []) [(0,1,(.str [97,117,116,111]))] fun U=>aY (.agg [(.str []),ff,(u8 0),(.str []),(i_ 0),(u8 0),(u8 0),(u8 0),(u8 0),nS,nS,ff]) [(0,1,(.str [109,97,114,103,105,110,45,108,101,102,116])),(2,7,T),(9,1,U),(10,1,a)] fun V=>jO p_ (.fn (.func 35) [] []) [(i_ 16000)] [] fun W=>aY (.agg [(.str []),ff,(u8 0),(.str []),(i_ 0),(u8 0),(u8 0),(u8 0),(u8 0),nS,nS,ff]) [(0,1,(.str [102,111,110,116,45,115,105,122,101])),(1,1,tt),(2,7,W),(10,1,a),(11,1,tt)] fun X=>jO p_ (.fn (.func 34) [] []) [(.str [110,111,114,109,97,108])] [] fun Y=>bH 1 1 (.str []) [(0,1,(.str [110,111,114,109,97,108]))] fun Z=>bH 1 1 (u8 0) [(0,1,(u8 5))] fun a0=>bH 4 1 (.str []) [(0,1,(.str [99,101,110,116,101,114])),(1,1,(.str [106,117,115,116,105,102,121])),(2,1,(.str [108,101,102,116])),(3,1,(.str [114,105,103,104,116]))] fun a1=>aY (.agg [(u8 0),(.str []),(i_ 0),(u8 0),(u8 0),(u8 0),(u8 0)]) [(0,1,(u8 5)),(2,1,(i_ 1000))] fun a2=>bH 1 1 (u8 0) [(0,1,(u8 5))] fun a3=>aY (.agg [(.str []),ff,(u8 0),(.str []),(i_ 0),(u8 0),(u8 0),(u8 0),(u8 0),nS,nS,ff]) [(0,1,(.str [111,112,97,99,105,116,121])),(2,7,a2),(10,1,a3)] fun a4=>ag true 7 d b fun a5=>bH 1 1 (.str []) [(0,1,(.str [97,117,116,111]))] fun a6=>bH 1 1 (u8 0) [(0,1,(u8 6))] fun a7=>aY (.agg [(.str []),ff,(u8 0),(.str []),(i_ 0),(u8 0),(u8 0),(u8 0),(u8 0),nS,nS,ff]) [(0,1,(.str [122,45,105,110,100,101,120])),(2,7,a5),(9,1,a6),(10,1,a7)] fun a8=>aY (.agg [(u8 0),(.str []),(i_ 0),(u8 0),(u8 0),(u8 0),(u8 0)]) [(0,1,(u8 6))] fun a9=>bH 1 1 (u8 0) [(0,1,(u8 6))] fun b0=>aY (.agg [(.str []),ff,(u8 0),(.str []),(i_ 0),(u8 0),(u8 0),(u8 0),(u8 0),nS,nS,ff]) [(0,1,(.str [111,114,100,101,114])),(2,7,a9),(10,1,b0)] fun b1=>jP 5 0 1 (u8 0) [] b fun f b2=>gb (IX f) (eE false 5 1 1 f a b2 fun g b3=>gb (IX g) (eE false 5 1 1 g a0 b3 fun b4 i=>aY (.agg [(.str []),ff,(u8 0),(.str []),(i_ 0),(u8 0),(u8 0),(u8 0),(u8 0),nS,nS,ff]) [(0,1,(.str [108,105,110,101,45,104,101,105,103,104,116])),(1,1,tt),(2,7,Y),(9,1,Z),(10,1,b4),(11,1,tt)] fun b5=>iQ p_ 34 [(.str [108,101,102,116])] i fun b6=>aY (.agg [(.str []),ff,(u8 0),(.str []),(i_ 0),(u8 0),(u8 0),(u8 0),(u8 0),nS,nS,ff]) [(0,1,(.str [116,101,120,116,45,97,108,105,103,110])),(1,1,tt),(2,7,b6),(9,1,a1)] fun b7=>bH 18 12 (.agg [(.str []),ff,(u8 0),(.str []),(i_ 0),(u8 0),(u8 0),(u8 0),(u8 0),nS,nS,ff]) [(0,12,q),(12,12,s),(24,12,u),(36,12,w),(48,12,z),(60,12,C),(72,12,F),(84,12,I),(96,12,M),(108,12,P),(120,12,S),(132,12,V),(144,12,X),(156,12,b5),(168,12,b7),(180,12,a4),(192,12,a8),(204,12,b1)] fun b8=>K b8 i))
theorem V10:Body p_ 10 [] (W10):=mkB Tryz.func10 (sn (sn (.seq (.bz [.op 0 true,.op 1 false]) (.seq (.bz [.op 0 true,.op 1 false]) (sn (.seq (.MD [(0,0,false),(1,0,false),(2,0,false),(3,0,false),(4,0,false),(5,0,false),(6,0,false),(7,3,false),(8,0,false),(9,0,false),(10,3,false),(11,0,false),(12,0,false),(13,0,false),(14,0,true),(15,0,false),(16,0,false),(17,0,true),(18,0,false),(19,3,false),(20,0,true),(21,0,false),(22,0,false),(23,3,false),(24,0,true),(25,0,false),(26,0,false),(27,0,false),(28,0,true),(29,0,false),(30,0,false),(31,0,false),(32,0,true),(33,0,false),(34,0,false),(35,0,false),(36,0,true),(37,0,false),(38,0,false),(39,0,false),(40,0,true),(41,0,false),(42,0,false),(43,0,false),(44,0,false),(45,0,false),(46,0,false),(47,0,true),(49,0,false),(51,0,true),(55,0,true),(57,0,false),(58,0,true),(59,0,false),(60,3,false),(61,0,true),(62,0,true),(63,0,false),(64,0,false),(65,0,true),(66,0,false),(48,2,false),(50,4,false),(52,4,false),(53,0,false),(54,1,false),(56,0,false),(67,0,true),(68,0,false)]) .nil)))))) 77 [.tmp 0] (by kernel_rfl) fun _ _=>by kernel_rfl
end
end Go.Proofs.YtldpambpnajgiaaGreatDoor
namespace Go.Aw
section
open Go Go.RowKit
variable {K:AV→Prop} {A B:Prop} {h:aa}
theorem ay{k:(List AV→aa→Prop)→Prop}{f:List AV→aa→Prop}(q:k f):aB k f:=q
theorem iG{c:AV}{w:Bool}(e:c=.v undef)(q:B):au c w A B:=by subst e;simpa using q
theorem tAn(q:B):True∧B:=⟨True.intro,q⟩
theorem aO{c a b:AV}(e:c=.v (.bool true))(q:K a):aH c a b K:=by subst e;simpa using q
theorem zzR{a b:AV}(q:K a):aH (.v (.bool true)) a b K:=aO rfl q
theorem aL{c a b:AV}(e:c=.v (.bool false))(q:K b):aH c a b K:=by subst e;simpa using q
theorem zzQ{a b:AV}(q:K b):aH (.v (.bool false)) a b K:=aL rfl q
theorem af{X:Prop}{a:List AV}(q:X):a=a∧X:=⟨rfl,q⟩
theorem di{x y:AV}{a b:Int}(ex:x=i_ a)(ey:y=i_ b)(c:aN (a+b))(q:K (i_ (a+b))):ab .add x y K:=by subst ex;subst ey;simpa using⟨c,q⟩
theorem zzP{a b:Int}(c:aN (a+b))(q:K (i_ (a+b))):ab .add (i_ a) (i_ b) K:=di rfl rfl c q
theorem yc{x y:AV}{a b:Int}(ex:x=i_ a)(ey:y=i_ b)(c:aN (a-b))(q:K (i_ (a-b))):ab .sub x y K:=by subst ex;subst ey;simpa using⟨c,q⟩
theorem zzj{a b:Int}(c:aN (a-b))(q:K (i_ (a-b))):ab .sub (i_ a) (i_ b) K:=yc rfl rfl c q
theorem aV{off id o:Nat}{x:AV}(e:x=.op id o)(q:K (.op id (o+off))):bh off x K:=by subst e;exact q
theorem zzA{off id o:Nat}(q:K (.op id (o+off))):bh off (.op id o) K:=aV rfl q
theorem aR{id o:Nat}{x:AV}{b:nJ}{c:AV}(e:x=.op id o)(hb:h[id]?=some (.aC b))(hc:b.cells[o]?=some c)(q:K c):ag false 1 x h K:=by
 subst e;rw[KP,hb];have hl:=(gE.1 hc).1;simp only[pS];rw[acO hl];rw[(gE.1 hc).2];exact q
theorem zzU{id o:Nat}{b:nJ}{c:AV}(hb:h[id]?=some (.aC b))(hc:b.cells[o]?=some c)(q:K c):ag false 1 (.op id o) h K:=aR rfl hb hc q
theorem cY{id o n:Nat}{x:AV}{b:nJ}(e:x=.op id o)(hb:h[id]?=some (.aC b))(hn:n≤(b.cells.drop o).length)(q:K (.agg ((b.cells.drop o).take n))):ag true n x h K:=by
 subst e;rw[KP,hb];exact⟨hn,q⟩
theorem zzV{id o n:Nat}{b:nJ}(hb:h[id]?=some (.aC b))(hn:n≤(b.cells.drop o).length)(q:K (.agg ((b.cells.drop o).take n))):ag true n (.op id o) h K:=cY rfl hb hn q
theorem dr{t:TypeId}{v:AV}{KH:AV→aa→Prop}(e:(bc v).all dH=true)(q:KH (.op h.length 0) (h++[.aC ⟨t,bc v,true⟩])):br t v h KH:=⟨e,q⟩
theorem bK[Laid]{P:Program}{f:FuncId}{args args':List AV}{r:AV}{KH:AV→aa→Prop}(e:args=args')(hb:cd P f=true)(c:aP P f args' r)(k:KH r h):eJ P (.fn (.func f) [] []) args h KH:=by
 subst e;exact aA hb c k
theorem zzS[Laid]{P:Program}{f:FuncId}{args:List AV}{r:AV}{KH:AV→aa→Prop}(hb:cd P f=true)(c:aP P f args r)(k:KH r h):eJ P (.fn (.func f) [] []) args h KH:=bK rfl hb c k
theorem abb{i:Nat}{x:AV}{cs:List AV}{c:AV}(e:x=.aF cs)(hc:cs[i]?=some c)(q:K c):aK i x K:=by subst e;rw[VX,hc];exact q
end
section
open Go Go.RowKit
variable [Laid]
variable{K:AV→Prop}{h:aa}{s r:List AV}{P:Program}{f:FuncId}
theorem Wk.aeL{L M:Nat}(hL:L≤M)(hM:M≤h.length)(hb:∀e∈h.take M,gr M e)(hs:∀a∈s,Bd M a):Wk L s h s (h.take M):=
 ⟨by simp;omega,rfl,fun base ι S w vs r k=>by
  obtain⟨hE,hT⟩:=k.cut hM hb;exact⟨_,_,hE.mono hL (aS _),aI.mk r.length fun i a v e f=>by
   obtain⟨u,hu,ru⟩:=r.get i a e;rw[f]at hu;cases hu;exact ax.jn hE a v (hs a (gO e)) ru,hT⟩⟩
theorem Wk.nil{n:Nat}(hn:n≤h.length)(i:Nat)(hi:s[i]?=some (.v (.slice none 0 0))):Wk n s h (s.set i .emp) h:=by
 refine⟨hn,by simp,fun base ι S w vs r k=>?_⟩;obtain⟨v,hv,rv⟩:=r.get i _ hi;rw[dx]at rv;subst rv;have r2:=r.set i .emp (.slice none 0 0) (by rw[ax];exact⟨_,rfl⟩);have:vs.set i (.slice none 0 0)=vs:=by
  refine List.ext_getElem? fun j=>?_
  by_cases q:j=i
  ·subst q;rw[iN (gE.1 hv).1,hv]
  ·rw[iS (Ne.symm q)]
 rw[this]at r2;exact⟨ι,S,cc.refl _ _ _ _ _,r2,k⟩
def tn(a b:AV):Prop:=∀ι S w v,ax ι S w a v→ax ι S w b v
omit [Laid] in
theorem tn.refl(a:AV):tn a a:=fun _ _ _ _ h=>h
omit [Laid] in
theorem tn.nil(sz:Nat):tn (.v (.slice none 0 0)) (.sl sz []):=fun _ _ _ _ r=>by
 rw[dx]at r;subst r;rw[ax];exact⟨none,0,rfl,aS _,acr _,.inl rfl⟩
omit [Laid] in
theorem jx{k:(List AV→aa→Prop)→Prop}{f:List AV→aa→Prop}(s:List AV)(h:aa)(q:f s h)(hk:∀F:List AV→aa→Prop,F s h→k F):aB k f:=hk f q
theorem ig{args args':List AV}{r:AV}(e:args=args')(hb:cd P f=true)(c:aP P f args' r)(k:K r):mI P (.fn (.func f) [] []) args h K:=by
 subst e;exact⟨r,aA hb c ⟨rfl,rfl⟩,k⟩
theorem zzT{args:List AV}{r:AV}(hb:cd P f=true)(c:aP P f args r)(k:K r):mI P (.fn (.func f) [] []) args h K:=ig rfl hb c k
omit [Laid] in
theorem zD{m:Nat}{x i:AV}{rows:List (List AV)}{n:Nat}(ex:x=.sl m rows)(ei:i=i_ n)(hn:n<rows.length)(q:K (.ip (rows.getD n []))):aG m x i K:=by
 subst ex;subst ei;rw[KO];exact⟨rfl,⟨by omega,by omega⟩,by simpa using q⟩
omit [Laid] in
theorem de{x c:AV}(e:x=.ip (c:: r))(q:K c):ag false 1 x h K:=by subst e;exact q
omit [Laid] in
theorem zzW{c:AV}(q:K c):ag false 1 (.ip (c:: r)) h K:=de rfl q
end
section
open Go Go.RowKit
section
variable {K:AV→Prop} {A B:Prop} {h:aa}
theorem bB{k:IntKind}{x y:AV}{a b:Int}(ex:x=.v (.int k a))(ey:y=.v (.int k b))(q:K (.v (.bool (decide (a<b))))):ab .lss x y K:=by subst ex;subst ey;simpa using q
theorem zzC{k:IntKind}{a b:Int}(q:K (.v (.bool (decide (a<b))))):ab .lss (.v (.int k a)) (.v (.int k b)) K:=bB rfl rfl q
theorem jE{k:IntKind}{x y:AV}{a b:Int}(ex:x=.v (.int k a))(ey:y=.v (.int k b))(q:K (.v (.bool (decide (a≤b))))):ab .leq x y K:=by subst ex;subst ey;simpa using q
theorem zzD{k:IntKind}{a b:Int}(q:K (.v (.bool (decide (a≤b))))):ab .leq (.v (.int k a)) (.v (.int k b)) K:=jE rfl rfl q
theorem dF{k:IntKind}{x y:AV}{a b:Int}(ex:x=.v (.int k a))(ey:y=.v (.int k b))(q:K (.v (.bool (decide (b<a))))):ab .gtr x y K:=by subst ex;subst ey;simpa using q
theorem zzE{k:IntKind}{a b:Int}(q:K (.v (.bool (decide (b<a))))):ab .gtr (.v (.int k a)) (.v (.int k b)) K:=dF rfl rfl q
theorem iy{k:IntKind}{x y:AV}{a b:Int}(ex:x=.v (.int k a))(ey:y=.v (.int k b))(q:K (.v (.bool (decide (b≤a))))):ab .geq x y K:=by subst ex;subst ey;simpa using q
theorem zzF{k:IntKind}{a b:Int}(q:K (.v (.bool (decide (b≤a))))):ab .geq (.v (.int k a)) (.v (.int k b)) K:=iy rfl rfl q
theorem dy{k:IntKind}{x y:AV}{a b:Int}(ex:x=.v (.int k a))(ey:y=.v (.int k b))(q:K (.v (.bool (decide (a=b))))):ab .eql x y K:=by subst ex;subst ey;simpa using q
theorem zzG{k:IntKind}{a b:Int}(q:K (.v (.bool (decide (a=b))))):ab .eql (.v (.int k a)) (.v (.int k b)) K:=dy rfl rfl q
theorem cZ{k:IntKind}{x y:AV}{a b:Int}(ex:x=.v (.int k a))(ey:y=.v (.int k b))(q:K (.v (.bool (!decide (a=b))))):ab .neq x y K:=by subst ex;subst ey;simpa using q
theorem zzH{k:IntKind}{a b:Int}(q:K (.v (.bool (!decide (a=b))))):ab .neq (.v (.int k a)) (.v (.int k b)) K:=cZ rfl rfl q
theorem fx{x y:AV}{a b:List UInt8}(ex:x=.str a)(ey:y=.str b)(q:K (.v (.bool (decide (a=b))))):ab .eql x y K:=by subst ex;subst ey;simpa using q
theorem zzI{a b:List UInt8}(q:K (.v (.bool (decide (a=b))))):ab .eql (.str a) (.str b) K:=fx rfl rfl q
theorem rY{x y:AV}{a b:List UInt8}(ex:x=.str a)(ey:y=.str b)(q:K (.v (.bool (!decide (a=b))))):ab .neq x y K:=by subst ex;subst ey;simpa using q
theorem zzJ{a b:List UInt8}(q:K (.v (.bool (!decide (a=b))))):ab .neq (.str a) (.str b) K:=rY rfl rfl q
theorem YQ{x y:AV}{a b:Bool}(ex:x=.v (.bool a))(ey:y=.v (.bool b))(q:K (.v (.bool (!(a == b))))):rR .neq x y K:=by subst ex;subst ey;simpa using q
theorem fJ{x:AV}{b:Bool}(e:x=.v (.bool b))(q:K (.v (.bool (!b)))):fe x K:=by subst e;simpa using q
theorem zzO{b:Bool}(q:K (.v (.bool (!b)))):fe (.v (.bool b)) K:=fJ rfl q
theorem fQ{c:AV}{b:Bool}(e:c=.v (.bool b))(qt:b=true→A)(qf:b=false→B):ae c A B:=by subst e;simpa using⟨qt,qf⟩
theorem ao{c:AV}{b:Bool}(e:c=.v (.bool b))(hb:b=true)(q:A):ae c A B:=by subst e;subst hb;simpa using q
theorem zzL{b:Bool}(hb:b=true)(q:A):ae (.v (.bool b)) A B:=ao rfl hb q
theorem ah{c:AV}{b:Bool}(e:c=.v (.bool b))(hb:b=false)(q:B):ae c A B:=by subst e;subst hb;simpa using q
theorem zzK{b:Bool}(hb:b=false)(q:B):ae (.v (.bool b)) A B:=ah rfl hb q
theorem vw{c:AV}{b:Bool}(e:c=.v (.bool (!b)))(q:ae (.v (.bool b)) B A):ae c A B:=by subst e;cases b<;>simpa using q
theorem fi{c:AV}{w b:Bool}(e:c=.v (.bool b))(qt:b=w→A)(qf:b=(!w)→B):au c w A B:=by subst e;simpa using⟨qt,qf⟩
theorem aM{c:AV}{w b:Bool}(e:c=.v (.bool b))(hb:b=w)(q:A):au c w A B:=by subst e;subst hb;cases b<;>simpa using q
theorem zzN{w b:Bool}(hb:b=w)(q:A):au (.v (.bool b)) w A B:=aM rfl hb q
theorem aX{c:AV}{w b:Bool}(e:c=.v (.bool b))(hb:b=(!w))(q:B):au c w A B:=by subst e;subst hb;cases w<;>simpa using q
theorem zzM{w b:Bool}(hb:b=(!w))(q:B):au (.v (.bool b)) w A B:=aX rfl hb q
theorem jT{c:AV}{w b:Bool}(e:c=.v (.bool (!b)))(q:au (.v (.bool b)) (!w) A B):au c w A B:=by subst e;cases b<;>cases w<;>simpa using q
theorem vy{c x y:AV}{b:Bool}(e:c=.v (.bool b))(hb:b=true)(q:K x):aH c x y K:=by subst e;subst hb;simpa using q
theorem vx{c x y:AV}{b:Bool}(e:c=.v (.bool b))(hb:b=false)(q:K y):aH c x y K:=by subst e;subst hb;simpa using q
theorem dX{off:Nat}{x:AV}{cs:List AV}(e:x=.ip cs)(q:K (.ip (cs.drop off))):bh off x K:=by subst e;exact q
theorem zzX{off:Nat}{cs:List AV}(q:K (.ip (cs.drop off))):bh off (.ip cs) K:=dX rfl q
theorem dV{n:Nat}{x:AV}{cs:List AV}(e:x=.ip cs)(hn:cs.length=n)(q:K (.agg cs)):ag true n x h K:=by
 subst e;rw[vM];exact⟨by omega,by rw[←hn,GO];exact q⟩
theorem zzY{n:Nat}{cs:List AV}(hn:cs.length=n)(q:K (.agg cs)):ag true n (.ip cs) h K:=dV rfl hn q
theorem eS{sz id o:Nat}{x v:AV}{b:nJ}{cs:List AV}{KS:aa→Prop}(e:x=.op id o)(hb:h[id]?=some (.aC b))(hw:b.wr=true)(hv:bc v=cs)(hl:o+cs.length≤b.cells.length)(hz:cs.length=sz)(hs:cs.all dH=true)
 (q:KS (h.set id (.aC { b with cells:=dw b.cells o cs }))):aE sz x v h KS:=by
 subst e;subst hv;rw[Sb,hb];exact⟨⟨hw,hl,hz,hs⟩,q⟩
theorem dg{sz:Nat}{x:AV}{rows:List (List AV)}{n:Nat}(e:x=.sl sz rows)(hn:rows.length=n)(q:n≤maxLen→K (i_ n)):bu x K:=by subst e;subst hn;rw[ZT];exact q
theorem zzk{sz:Nat}{rows:List (List AV)}{n:Nat}(hn:rows.length=n)(q:n≤maxLen→K (i_ n)):bu (.sl sz rows) K:=dg rfl hn q
theorem nM{x:AV}{l:List UInt8}(e:x=.str l)(q:l.length≤maxLen→K (i_ l.length)):gQ x K:=by subst e;rw[VY];exact q
theorem zzb{l:List UInt8}(q:l.length≤maxLen→K (i_ l.length)):gQ (.str l) K:=nM rfl q
theorem bt{z:AV}{ps:List (Nat×Nat×AV)}{cs:List AV}(e:iA (bc z) ps=some cs)(q:K (.agg cs)):aY z ps K:=by rw[Sa,e];exact q
theorem bl{i:Nat}{x:AV}{cs:List AV}{c:AV}(e:x=.aF cs)(hc:cs[i]?=some c)(q:K c):aK i x K:=abb e hc q
theorem zzB{i:Nat}{cs:List AV}{c:AV}(hc:cs[i]?=some c)(q:K c):aK i (.aF cs) K:=bl rfl hc q
theorem p9{neg:Bool}{ks:List Nat}{x y:AV}{xs ys:List AV}{b:Bool}(ex:x=.agg xs)(ey:y=.agg ys)(hb:jZ ks xs ys=some b)(q:K (.v (.bool (if neg then !b else b)))):lQ neg ks x y K:=by
 subst ex;subst ey;rw[ZS,hb];exact q
theorem dm{α:Type}{m:Nat}{x i:AV}{l:List α}{rows:List (List AV)}{f:α→List AV}{n:Nat}{a:α}(e:x=.sl m rows)(hr:rows=l.map f)(ei:i=i_ n)(ha:l[n]?=some a)(q:K (.ip (f a))):aG m x i K:=by
 subst e;subst ei;subst hr;rw[KO];have hn:=(gE.1 ha).1;refine⟨rfl,⟨by omega,by rw[aai];omega⟩, ?_⟩;have:(l.map f).getD (n:Int).toNat []=f a:=by rw[NO,oF,lE,ha];rfl
 rw[this];exact q
theorem zzg{α:Type}{m:Nat}{i:AV}{l:List α}{rows:List (List AV)}{f:α→List AV}{n:Nat}{a:α}(hr:rows=l.map f)(ei:i=i_ n)(ha:l[n]?=some a)(q:K (.ip (f a))):aG m (.sl m rows) i K:=dm rfl hr ei ha q
theorem B4{x i:AV}{l:List UInt8}{n:Nat}{b:UInt8}(e:x=.str l)(ei:i=i_ n)(hb:l[n]?=some b)(q:K (.v (.int .u8 b.toNat))):lF x i K:=by
 subst e;subst ei;have hn:=(gE.1 hb).1;refine⟨⟨by omega,by omega⟩, ?_⟩;have:l.getD (n:Int).toNat 0=b:=by rw[NO,oF,hb];rfl
 rw[this];exact q
end
theorem BV(f:AV→AV)(L:Nat)(h:aa)(r:List (List AV))(p:du r):qI f L h r=r:=by
 have:=BU f L h (.sl 0 r) (by rw[Pure];exact p);rw[gP]at this;simpa using this
theorem Gy:∀l:List UInt8,Gx (l.map iM)=some l
 | []=>rfl
 | b:: l=>by
   rw[IF,iM,Gx,Gy l];simp
theorem Fy{K:AV→Prop}{h:aa}{id:Nat}{x:AV}{b:nJ}{l:List UInt8}(e:x=.own id 0 l.length 1)(hb:h[id]?=some (.aC b))(hc:b.cells=l.map iM)(q:K (.str l)):jV x h K:=by
 subst e;have h1:jo h 1 (.own id 0 l.length 1)=some (chunks 1 l.length b.cells):=by
  rw[Qs,hb];simp only[List.drop_zero,true_and];rw[if_pos (by rw[hc];simp)]
 have h2:(chunks 1 l.length b.cells).flatten=l.map iM:=by
  rw[(lN 1 l.length b.cells (by rw[hc];simp)).1,hc];rw[Of (by simp)]
 unfold jV;rw[h1];simp only[Option.bind_some,h2,Gy];exact q
theorem ou{α:Type}{l:List α}{k:Nat}{x:α}(h:l[k]?=some x):l.set k x=l:=by
 refine List.ext_getElem? fun j=>?_
 by_cases q:k=j
 ·subst q;rw[iN (gE.1 h).1,h]
 ·rw[iS q]
theorem iR(n:Nat)(a:AV):Pure a→Bd n a:=by
 refine AV.rec (motive_1:=fun a=>Pure a→Bd n a) (motive_2:=fun l=>bf l→gU n l) (motive_3:=fun r=>du r→pN n r) ?_ ?_ ?_ ?_ ?_ ?_ ?_ ?_ ?_ ?_ ?_ ?_ ?_ ?_ ?_ ?_ ?_ ?_ a;all_goals intros
 all_goals simp_all [Bd,gU,pN]
theorem iZ(n:Nat)(l:List AV)(p:bf l):gU n l:=by
 have:=iR n (.agg l) (by rw[Pure];exact p)
 rwa [Bd]at this
variable [Laid]
theorem Wk.back{n M:Nat}{s s':List AV}{h h':aa}(hn:n≤M)(hM:M≤h.length)(e:h.take M=h')(es:s=s')(hb:∀x∈h',gr M x)(hs:∀a∈s',Bd M a):Wk n s h s' h':=by
 subst es;subst e;exact Wk.aeL hn hM hb hs
end
section
open Go Go.RowKit
mutual
inductive BZ:AV→AV→Prop
 | refl (a:AV):BZ a a
 | nil (s:Nat):BZ (.v (.slice none 0 0)) (.sl s [])
 | sl {s:Nat} {r r':List (List AV)}:wj r r'→BZ (.sl s r) (.sl s r')
 | aF {r r':List AV}:qJ r r'→BZ (.aF r) (.aF r')
inductive qJ:List AV→List AV→Prop
 | nil:qJ [] []
 | cons {a b:AV} {as_ bs:List AV}:BZ a b→qJ as_ bs→qJ (a:: as_) (b:: bs)
inductive wj:List (List AV)→List (List AV)→Prop
 | nil:wj [] []
 | cons {a b:List AV} {as_ bs:List (List AV)}:qJ a b→wj as_ bs→wj (a:: as_) (b:: bs)
end
theorem qJ.length:∀{as_ bs:List AV},qJ as_ bs→as_.length=bs.length
 | _,_,.nil=>rfl
 | _,_,.cons _ k=>by simp[qJ.length k]
theorem wj.length:∀{as_ bs:List (List AV)},wj as_ bs→as_.length=bs.length
 | _,_,.nil=>rfl
 | _,_,.cons _ k=>by simp[wj.length k]
variable {ι:List Ix} {S:ba} {w:World}
mutual
theorem ax.tC:∀{a b:AV},BZ a b→∀v,ax ι S w a v→ax ι S w b v
 | _,_,.refl _,v,h=>h
 | _,_,.nil s,v,h=>by
   rw[dx]at h;subst h;rw[ax];exact⟨none,0,rfl,by simp,by simp,.inl rfl⟩
 | _,_,.sl k,v,h=>by
   rw[ax]at h ⊢;obtain⟨a,cap,rfl,h1,h2,h3⟩:=h;refine⟨a,cap,by rw[k.length],by rw[←k.length];exact h1,h2, ?_⟩;rcases h3 with rfl|⟨b,off,e,h3⟩
   ·left;cases k;rfl
   ·exact .inr ⟨b,off,e,da.tC k _ _ h3⟩
 | _,_,.aF k,v,h=>by
   rw[ax]at h ⊢;obtain⟨vs,e,h1⟩:=h;exact⟨vs,e,aI.tC k _ h1⟩
theorem aI.tC:∀{as_ bs:List AV},qJ as_ bs→∀vs,aI ι S w as_ vs→aI ι S w bs vs
 | _,_,.nil,vs,h=>h
 | _,_,.cons k ks,vs,h=>by
   rw[aI]at h ⊢;obtain⟨u,us,e,h1,h2⟩:=h;exact⟨u,us,e,ax.tC k _ h1,aI.tC ks _ h2⟩
theorem bZ.tC:∀{as_ bs:List AV},qJ as_ bs→∀b off,bZ ι S w as_ b off→bZ ι S w bs b off
 | _,_,.nil,b,off,h=>h
 | _,_,.cons k ks,b,off,h=>by
   rw[bZ]at h ⊢;obtain⟨⟨u,h1,h2,h3⟩,h4⟩:=h;exact⟨⟨u,h1,h2,ax.tC k _ h3⟩,bZ.tC ks _ _ h4⟩
theorem da.tC:∀{sz:Nat} {as_ bs:List (List AV)},wj as_ bs→∀b off,da ι S w sz as_ b off→da ι S w sz bs b off
 | _,_,_,.nil,b,off,h=>h
 | sz,_,_,.cons k ks,b,off,h=>by
   rw[da]at h ⊢;obtain⟨h1,h2,h3⟩:=h;exact⟨by rw[←k.length];exact h1,bZ.tC k _ _ h2,da.tC ks _ _ h3⟩
end
variable [Laid]
theorem aP.tC{P:Program}{f:FuncId}{args:List AV}{r r':AV}(c:aP P f args r)(d:BZ r r')(p:Pure r'):aP P f args r':=by
 obtain⟨pa,pr,c⟩:=c;refine⟨pa,p, ?_⟩;intro base ι S w vs h1 h2;refine (c base ι S w vs h1 h2).mono ?_;rintro e w' ⟨v,ι',S',r2,h',e1,e2,e3,e4,e5,rfl⟩;exact⟨v,ι',S',r',h',e1,e2,ax.tC d v e3,e4,e5,rfl⟩
end
section
open Go
variable{h:aa}
section
variable {h:aa} {K:AV→aa→Prop}
theorem DS:∀(b p a:List AV),a.length=b.length→dw (p++a) p.length b=p++b
 | [],p,a,h=>by simp at h;subst h;rfl
 | c:: b,p,x:: a,h=>by
   rw[dw];have e:(p++x:: a).set p.length c=(p++[c])++a:=by simp
   have:=DS b (p++[c]) a (by simpa using h);rw[e,show p.length+1=(p++[c]).length by simp,this];simp
theorem NC{a b:List AV}(h:a.length=b.length):dw a 0 b=b:=by simpa using DS b [] a h
theorem UD{t sz:Nat}{z:AV}(q:K .emp h):jP t 0 sz z [] h K:=q
theorem UE{t sz:Nat}{z v:AV}{cs:List AV}(hv:bc v=cs)(hl:cs.length=sz)(hz:(bc z).length=sz)(hs:cs.all dH=true)(q:K (.own h.length 0 1 sz) (h++[.aC ⟨t,cs,true⟩])):jP t 1 sz z [(0,sz,v)] h K:=by
 subst hv;have:iA (iq 1 (bc z)) [(0,sz,v)]=some (bc v):=by
  simp only[iA,iq,aa1];rw[if_pos ⟨hl,by omega,hs⟩,NC (by omega)]
 unfold jP;rw[this];exact q
theorem YJ{e sz bytes:Nat}{x y:AV}{rows:List (List AV)}(ex:x=.emp)(hs:jo h sz y=some rows)(hr:rows.all (gh sz)=true)(hm:dU bytes rows.length)(q:K (.sb h.length sz rows) (h++[.tok e sz rows.length])):eE false e sz bytes x y h K:=by
 subst ex;unfold eE iJ;rw[hs];exact⟨hr,hm,q⟩
theorem YL{e sz bytes:Nat}{x y:AV}{rows:List (List AV)}(ex:x=.emp)(hs:jo h sz y=some rows)(hr:rows.all (gh sz)=true)(hn:rows≠[])(hm:dU bytes rows.length)(q:K (.own h.length 0 rows.length sz) (h++[.aC ⟨e,rows.flatten,true⟩])):eE true e sz bytes x y h K:=by
 subst ex;unfold eE iJ;rw[hs];exact⟨hr,hn,hm,q⟩
theorem YK{own:Bool}{e sz bytes id k:Nat}{x y:AV}{base rows:List (List AV)}(ex:x=.sb id sz base)(ht:h[id]?=some (.tok e sz k))(hk:k=base.length)(hs:jo h sz y=some rows)(hr:rows.all (gh sz)=true)(hm:dU bytes (k+rows.length))(q:K (.sb id sz (base++rows)) (h.set id (.tok e sz (k+rows.length)))):eE own e sz bytes x y h K:=by
 subst ex;unfold eE iJ;rw[hs];refine⟨hr, ?_⟩;simp only[qG];rw[ht];exact⟨by simp[hk],hm,q⟩
theorem NW{own:Bool}{e sz bytes id len:Nat}{x y:AV}{cells:List AV}{rows:List (List AV)}(ex:x=.own id 0 len sz)(hb:h[id]?=some (.aC ⟨e,cells,true⟩))(hl:len*sz≤cells.length)(hp:0<len)(hs:jo h sz y=some rows)(hr:rows.all (gh sz)=true)(hm:dU bytes (len+rows.length))
 (q:K (.own h.length 0 (len+rows.length) sz) (h.set id .dead++[.aC ⟨e,cells.take (len*sz)++rows.flatten,true⟩])):eE own e sz bytes x y h K:=by
 subst ex;unfold eE iJ;rw[hs];refine⟨hr, ?_⟩;simp only[qG];rw[hb];exact⟨by simp[hl],by omega,hm,q⟩
theorem D8{m id off len:Nat}{x i:AV}{K:AV→Prop}{n:Nat}(ex:x=.own id off len m)(ei:i=i_ n)(hn:n<len)(q:K (.op id (off+n*m))):aG m x i K:=by
 subst ex;subst ei;exact⟨rfl,⟨by omega,by omega⟩,by simpa using q⟩
section
variable {h':aa} {n:Nat}
theorem Wn{t sz:Nat}{z:AV}(hh:h=h')(q:K .emp h'):jP t 0 sz z [] h K:=by subst hh;exact q
theorem K7{t sz:Nat}{z v:AV}{cs:List AV}(hv:bc v=cs)(hl:cs.length=sz)(hz:(bc z).length=sz)(hs:cs.all dH=true)(hn:h.length=n)(hh:h++[.aC ⟨t,cs,true⟩]=h')(q:K (.own n 0 1 sz) h'):jP t 1 sz z [(0,sz,v)] h K:=by
 subst hn;subst hh;exact UE hv hl hz hs q
theorem Z7{e sz bytes k:Nat}{x y:AV}{rows:List (List AV)}(ex:x=.emp)(hs:jo h sz y=some rows)(hr:rows.all (gh sz)=true)(hk:rows.length=k)(hm:dU bytes k)(hn:h.length=n)(hh:h++[.tok e sz k]=h')(q:K (.sb n sz rows) h'):eE false e sz bytes x y h K:=by
 subst hn;subst hh;subst hk;exact YJ ex hs hr hm q
theorem Z8{e sz bytes k:Nat}{x y:AV}{rows:List (List AV)}(ex:x=.emp)(hs:jo h sz y=some rows)(hr:rows.all (gh sz)=true)(hne:rows≠[])(hk:rows.length=k)(hm:dU bytes k)(hn:h.length=n)(hh:h++[.aC ⟨e,rows.flatten,true⟩]=h')(q:K (.own n 0 k sz) h'):eE true e sz bytes x y h K:=by
 subst hn;subst hh;subst hk;exact YL ex hs hr hne hm q
theorem kP{own:Bool}{e sz bytes id k:Nat}{x y:AV}{base rows:List (List AV)}(ex:x=.sb id sz base)(ht:h[id]?=some (.tok e sz k))(hk:k=base.length)(hs:jo h sz y=some rows)(hr:rows.all (gh sz)=true)(hm:dU bytes (k+rows.length))(hh:h.set id (.tok e sz (k+rows.length))=h')(q:K (.sb id sz (base++rows)) h'):eE own e sz bytes x y h K:=by
 subst hh;exact YK ex ht hk hs hr hm q
theorem DC{own:Bool}{e sz bytes id len:Nat}{x y:AV}{cells:List AV}{rows:List (List AV)}(ex:x=.own id 0 len sz)(hb:h[id]?=some (.aC ⟨e,cells,true⟩))(hl:len*sz≤cells.length)(hp:0<len)(hs:jo h sz y=some rows)(hr:rows.all (gh sz)=true)(hm:dU bytes (len+rows.length))(hn:h.length=n)
 (hh:h.set id .dead++[.aC ⟨e,cells.take (len*sz)++rows.flatten,true⟩]=h') (q:K (.own n 0 (len+rows.length) sz) h'):eE own e sz bytes x y h K:=by
 subst hn;subst hh;exact NW ex hb hl hp hs hr hm q
theorem cI{t:TypeId}{v:AV}{cs:List AV}(hv:bc v=cs)(e:cs.all dH=true)(hn:h.length=n)(hh:h++[.aC ⟨t,cs,true⟩]=h')(q:K (.op n 0) h'):br t v h K:=by
 subst hv;subst hn;subst hh;exact dr e q
theorem cf{sz id o:Nat}{x v:AV}{b:nJ}{cs:List AV}{KS:aa→Prop}(e:x=.op id o)(hb:h[id]?=some (.aC b))(hw:b.wr=true)(hv:bc v=cs)(hl:o+cs.length≤b.cells.length)(hz:cs.length=sz)(hs:cs.all dH=true)
 (hh:h.set id (.aC ⟨b.ty,dw b.cells o cs,b.wr⟩)=h') (q:KS h'):aE sz x v h KS:=by
 subst hh;exact eS e hb hw hv hl hz hs q
end
theorem fw{sz:Nat}{rows:List (List AV)}:jo h sz (.sl sz rows)=some rows:=by simp[jo,iW]
theorem Jm{sz id off len:Nat}{b:nJ}(hb:h[id]?=some (.aC b))(hl:off+len*sz≤b.cells.length):jo h sz (.own id off len sz)=some (chunks sz len (b.cells.drop off)):=by
 rw[Qs,hb];simp[hl]
theorem LS{n:Nat}{x:AV}{rows:List (List AV)}{K:AV→Prop}(ex:x=.sl n rows)(hl:1≤rows.length)(q:K (.sl n (rows.drop 1))):nj n x (some (i_ 1)) none K:=by
 subst ex;rw[CO];simp only[fc];refine⟨by simp,⟨by omega,by omega,by omega⟩, ?_⟩;simpa using q
end
theorem qQ{n:Nat}{x:AV}{cs:List AV}{K:AV→Prop}(e:x=.ip cs)(hn:n≤cs.length)(q:K (.agg (cs.take n))):ag true n x h K:=by
 subst e;rw[vM];exact⟨hn,q⟩
theorem Xf{d id sz:Nat}{rows:List (List AV)}(p:du rows):tl 0 h d (.sb id sz rows)=.sl sz rows:=by
 cases d<;>simp[tl,gP,BV _ _ _ _ p]
theorem Te{d:Nat}{a:AV}(p:Aw.Pure a):tl 0 h d a=a:=by
 cases d<;>exact BU _ _ _ _ p
theorem Gb{h:aa}{d:Nat}:∀l:List AV,bf l→l.map (tl 0 h d)=l
 | [],_=>rfl
 | a:: l,p=>by
   simp only[bf]at p;rw[IF,Te p.1,Gb l p.2]
theorem Gc{h:aa}{d:Nat}:∀r:List (List AV),du r→r.map (List.map (tl 0 h d))=r
 | [],_=>rfl
 | a:: l,p=>by
   simp only[du]at p;rw[IF,Gb a p.1,Gc l p.2]
theorem Ak{sz:Nat}:∀rows:List (List AV),rows.all (gh sz)=true→chunks sz rows.length rows.flatten=rows
 | [],_=>rfl
 | r:: rows,h=>by
   simp only[acG,On,gh,beq_iff_eq]at h;rw[aah,acQ,chunks];have hr:=h.1.1;rw[acS (by omega),Of (by omega),List.drop_append_of_le_length (by omega),List.drop_of_length_le (by omega),List.nil_append,Ak rows (by simpa[gh]using h.2)]
theorem Tf{d id len sz:Nat}{b:nJ}{cells:List AV}(hb:h[id]?=some (.aC b))(hc:b.cells=cells)(hl:len*sz≤cells.length):tl 0 h (d+1) (.own id 0 len sz)=.sl sz ((chunks sz len cells).map (List.map (tl 0 h d))):=by
 subst hc;simp only[tl,gP];rw[if_neg (by omega),hb];simp only[acu,List.drop_zero];rw[if_pos hl]
end
end Go.Aw
namespace Go.Proofs.YtldpambpnajgiaaGreatDoor
section
open Go Go.Aw
variable{ps:List (Nat×Nat×AV)}{K:AV→Prop}{a b:List UInt8}{cs:List AV}
theorem cN{len sz:Nat}{z:AV}(e:iA (iq len (bc z)) ps=some cs)(q:K (.sl sz (chunks sz len cs))):bH len sz z ps K:=by
 unfold bH;rw[e];exact q
theorem UG{t len sz n:Nat}{z:AV}{h h':aa}{K:AV→aa→Prop}(e:iA (iq (len+1) (bc z)) ps=some cs)(hn:h.length=n)(hh:h++[.aC ⟨t,cs,true⟩]=h')(q:K (.own n 0 (len+1) sz) h'):jP t (len+1) sz z ps h K:=by
 subst hn;subst hh;unfold jP;rw[e];exact q
theorem TE{b:Bool}{X:Prop}(hb:b=true)(q:X):gb b X:=by subst hb;exact q
theorem sw{P:Program}{f:FuncId}{args args':List AV}{r:AV}(e:args=args')(hb:cd P f=true)(c:aP P f args' r)(k:K r){h:aa}:jO P (.fn (.func f) [] []) args h K:=by
 subst e;exact⟨r,hb,fun ext=>by simpa using c.call ⟨rfl,rfl⟩,k⟩
def lW:List (List AV):=[[.str [99,111,108,111,114],.v (.bool true),.v (.int .u8 7),.str [],i_ 0,.v (.int .u8 0),.v (.int .u8 0),.v (.int .u8 0),.v (.int .u8 255),.v (.slice none 0 0),.sl 1 [[.v (.int .u8 7)],[.v (.int .u8 8)]],.v (.bool false)],[.str [98,97,99,107,103,114,111,117,110,100,45,99,111,108,111,114],.v (.bool false),.v (.int .u8 7),.str [],i_ 0,.v (.int .u8 0),.v (.int .u8 0),.v (.int .u8 0),.v (.int .u8 0),.v (.slice none 0 0),.sl 1 [[.v (.int .u8 7)],[.v (.int .u8 8)]],.v (.bool false)],[.str [98,111,114,100,101,114,45,99,111,108,111,114],.v (.bool false),.v (.int .u8 8),.str [],i_ 0,.v (.int .u8 0),.v (.int .u8 0),.v (.int .u8 0),.v (.int .u8 0),.v (.slice none 0 0),.sl 1 [[.v (.int .u8 7)],[.v (.int .u8 8)]],.v (.bool false)],[.str [111,117,116,108,105,110,101,45,99,111,108,111,114],.v (.bool false),.v (.int .u8 8),.str [],i_ 0,.v (.int .u8 0),.v (.int .u8 0),.v (.int .u8 0),.v (.int .u8 0),.v (.slice none 0 0),.sl 1 [[.v (.int .u8 7)],[.v (.int .u8 8)]],.v (.bool false)],[.str [100,105,115,112,108,97,121],.v (.bool false),.v (.int .u8 1),.str [105,110,108,105,110,101],i_ 0,.v (.int .u8 0),.v (.int .u8 0),.v (.int .u8 0),.v (.int .u8 0),.sl 1 [[.str [98,108,111,99,107]],[.str [102,108,101,120]],[.str [105,110,108,105,110,101]],[.str [105,110,108,105,110,101,45,98,108,111,99,107]],[.str [110,111,110,101]]],.v (.slice none 0 0),.v (.bool false)],[.str [118,105,115,105,98,105,108,105,116,121],.v (.bool true),.v (.int .u8 1),.str [118,105,115,105,98,108,101],i_ 0,.v (.int .u8 0),.v (.int .u8 0),.v (.int .u8 0),.v (.int .u8 0),.sl 1 [[.str [99,111,108,108,97,112,115,101]],[.str [104,105,100,100,101,110]],[.str [118,105,115,105,98,108,101]]],.v (.slice none 0 0),.v (.bool false)],[.str [119,105,100,116,104],.v (.bool false),.v (.int .u8 1),.str [97,117,116,111],i_ 0,.v (.int .u8 0),.v (.int .u8 0),.v (.int .u8 0),.v (.int .u8 0),.sl 1 [[.str [97,117,116,111]]],.sl 1 [[.v (.int .u8 2)],[.v (.int .u8 3)],[.v (.int .u8 4)]],.v (.bool true)],[.str [104,101,105,103,104,116],.v (.bool false),.v (.int .u8 1),.str [97,117,116,111],i_ 0,.v (.int .u8 0),.v (.int .u8 0),.v (.int .u8 0),.v (.int .u8 0),.sl 1 [[.str [97,117,116,111]]],.sl 1 [[.v (.int .u8 2)],[.v (.int .u8 3)],[.v (.int .u8 4)]],.v (.bool true)],[.str [109,97,114,103,105,110,45,116,111,112],.v (.bool false),.v (.int .u8 2),.str [],i_ 0,.v (.int .u8 0),.v (.int .u8 0),.v (.int .u8 0),.v (.int .u8 0),.sl 1 [[.str [97,117,116,111]]],.sl 1 [[.v (.int .u8 2)],[.v (.int .u8 3)],[.v (.int .u8 4)]],.v (.bool false)],[.str [109,97,114,103,105,110,45,114,105,103,104,116],.v (.bool false),.v (.int .u8 2),.str [],i_ 0,.v (.int .u8 0),.v (.int .u8 0),.v (.int .u8 0),.v (.int .u8 0),.sl 1 [[.str [97,117,116,111]]],.sl 1 [[.v (.int .u8 2)],[.v (.int .u8 3)],[.v (.int .u8 4)]],.v (.bool false)],[.str [109,97,114,103,105,110,45,98,111,116,116,111,109],.v (.bool false),.v (.int .u8 2),.str [],i_ 0,.v (.int .u8 0),.v (.int .u8 0),.v (.int .u8 0),.v (.int .u8 0),.sl 1 [[.str [97,117,116,111]]],.sl 1 [[.v (.int .u8 2)],[.v (.int .u8 3)],[.v (.int .u8 4)]],.v (.bool false)],[.str [109,97,114,103,105,110,45,108,101,102,116],.v (.bool false),.v (.int .u8 2),.str [],i_ 0,.v (.int .u8 0),.v (.int .u8 0),.v (.int .u8 0),.v (.int .u8 0),.sl 1 [[.str [97,117,116,111]]],.sl 1 [[.v (.int .u8 2)],[.v (.int .u8 3)],[.v (.int .u8 4)]],.v (.bool false)],[.str [102,111,110,116,45,115,105,122,101],.v (.bool true),.v (.int .u8 2),.str [],i_ 16000,.v (.int .u8 0),.v (.int .u8 0),.v (.int .u8 0),.v (.int .u8 0),.sl 1 [],.sl 1 [[.v (.int .u8 2)],[.v (.int .u8 3)],[.v (.int .u8 4)]],.v (.bool true)],[.str [108,105,110,101,45,104,101,105,103,104,116],.v (.bool true),.v (.int .u8 1),.str [110,111,114,109,97,108],i_ 0,.v (.int .u8 0),.v (.int .u8 0),.v (.int .u8 0),.v (.int .u8 0),.sl 1 [[.str [110,111,114,109,97,108]]],.sl 1 [[.v (.int .u8 2)],[.v (.int .u8 3)],[.v (.int .u8 4)],[.v (.int .u8 5)]],.v (.bool true)],[.str [116,101,120,116,45,97,108,105,103,110],.v (.bool true),.v (.int .u8 1),.str [108,101,102,116],i_ 0,.v (.int .u8 0),.v (.int .u8 0),.v (.int .u8 0),.v (.int .u8 0),.sl 1 [[.str [99,101,110,116,101,114]],[.str [106,117,115,116,105,102,121]],[.str [108,101,102,116]],[.str [114,105,103,104,116]]],.v (.slice none 0 0),.v (.bool false)],[.str [111,112,97,99,105,116,121],.v (.bool false),.v (.int .u8 5),.str [],i_ 1000,.v (.int .u8 0),.v (.int .u8 0),.v (.int .u8 0),.v (.int .u8 0),.v (.slice none 0 0),.sl 1 [[.v (.int .u8 5)]],.v (.bool false)],[.str [122,45,105,110,100,101,120],.v (.bool false),.v (.int .u8 1),.str [97,117,116,111],i_ 0,.v (.int .u8 0),.v (.int .u8 0),.v (.int .u8 0),.v (.int .u8 0),.sl 1 [[.str [97,117,116,111]]],.sl 1 [[.v (.int .u8 6)]],.v (.bool false)],[.str [111,114,100,101,114],.v (.bool false),.v (.int .u8 6),.str [],i_ 0,.v (.int .u8 0),.v (.int .u8 0),.v (.int .u8 0),.v (.int .u8 0),.v (.slice none 0 0),.sl 1 [[.v (.int .u8 6)]],.v (.bool false)]]
def xH:List (List AV):=[[.str [99,111,108,111,114],.v (.bool true),.v (.int .u8 7),.str [],i_ 0,.v (.int .u8 0),.v (.int .u8 0),.v (.int .u8 0),.v (.int .u8 255),.v (.slice none 0 0),.sl 1 [[.v (.int .u8 7)],[.v (.int .u8 8)]],.v (.bool false)],[.str [98,97,99,107,103,114,111,117,110,100,45,99,111,108,111,114],.v (.bool false),.v (.int .u8 7),.str [],i_ 0,.v (.int .u8 0),.v (.int .u8 0),.v (.int .u8 0),.v (.int .u8 0),.v (.slice none 0 0),.sl 1 [[.v (.int .u8 7)],[.v (.int .u8 8)]],.v (.bool false)],[.str [98,111,114,100,101,114,45,99,111,108,111,114],.v (.bool false),.v (.int .u8 8),.str [],i_ 0,.v (.int .u8 0),.v (.int .u8 0),.v (.int .u8 0),.v (.int .u8 0),.v (.slice none 0 0),.sl 1 [[.v (.int .u8 7)],[.v (.int .u8 8)]],.v (.bool false)],[.str [111,117,116,108,105,110,101,45,99,111,108,111,114],.v (.bool false),.v (.int .u8 8),.str [],i_ 0,.v (.int .u8 0),.v (.int .u8 0),.v (.int .u8 0),.v (.int .u8 0),.v (.slice none 0 0),.sl 1 [[.v (.int .u8 7)],[.v (.int .u8 8)]],.v (.bool false)],[.str [100,105,115,112,108,97,121],.v (.bool false),.v (.int .u8 1),.str [105,110,108,105,110,101],i_ 0,.v (.int .u8 0),.v (.int .u8 0),.v (.int .u8 0),.v (.int .u8 0),.sl 1 [[.str [98,108,111,99,107]],[.str [102,108,101,120]],[.str [105,110,108,105,110,101]],[.str [105,110,108,105,110,101,45,98,108,111,99,107]],[.str [110,111,110,101]]],.v (.slice none 0 0),.v (.bool false)],[.str [118,105,115,105,98,105,108,105,116,121],.v (.bool true),.v (.int .u8 1),.str [118,105,115,105,98,108,101],i_ 0,.v (.int .u8 0),.v (.int .u8 0),.v (.int .u8 0),.v (.int .u8 0),.sl 1 [[.str [99,111,108,108,97,112,115,101]],[.str [104,105,100,100,101,110]],[.str [118,105,115,105,98,108,101]]],.v (.slice none 0 0),.v (.bool false)],[.str [119,105,100,116,104],.v (.bool false),.v (.int .u8 1),.str [97,117,116,111],i_ 0,.v (.int .u8 0),.v (.int .u8 0),.v (.int .u8 0),.v (.int .u8 0),.sl 1 [[.str [97,117,116,111]]],.sl 1 [[.v (.int .u8 2)],[.v (.int .u8 3)],[.v (.int .u8 4)]],.v (.bool true)],[.str [104,101,105,103,104,116],.v (.bool false),.v (.int .u8 1),.str [97,117,116,111],i_ 0,.v (.int .u8 0),.v (.int .u8 0),.v (.int .u8 0),.v (.int .u8 0),.sl 1 [[.str [97,117,116,111]]],.sl 1 [[.v (.int .u8 2)],[.v (.int .u8 3)],[.v (.int .u8 4)]],.v (.bool true)],[.str [109,97,114,103,105,110,45,116,111,112],.v (.bool false),.v (.int .u8 2),.str [],i_ 0,.v (.int .u8 0),.v (.int .u8 0),.v (.int .u8 0),.v (.int .u8 0),.sl 1 [[.str [97,117,116,111]]],.sl 1 [[.v (.int .u8 2)],[.v (.int .u8 3)],[.v (.int .u8 4)]],.v (.bool false)],[.str [109,97,114,103,105,110,45,114,105,103,104,116],.v (.bool false),.v (.int .u8 2),.str [],i_ 0,.v (.int .u8 0),.v (.int .u8 0),.v (.int .u8 0),.v (.int .u8 0),.sl 1 [[.str [97,117,116,111]]],.sl 1 [[.v (.int .u8 2)],[.v (.int .u8 3)],[.v (.int .u8 4)]],.v (.bool false)],[.str [109,97,114,103,105,110,45,98,111,116,116,111,109],.v (.bool false),.v (.int .u8 2),.str [],i_ 0,.v (.int .u8 0),.v (.int .u8 0),.v (.int .u8 0),.v (.int .u8 0),.sl 1 [[.str [97,117,116,111]]],.sl 1 [[.v (.int .u8 2)],[.v (.int .u8 3)],[.v (.int .u8 4)]],.v (.bool false)],[.str [109,97,114,103,105,110,45,108,101,102,116],.v (.bool false),.v (.int .u8 2),.str [],i_ 0,.v (.int .u8 0),.v (.int .u8 0),.v (.int .u8 0),.v (.int .u8 0),.sl 1 [[.str [97,117,116,111]]],.sl 1 [[.v (.int .u8 2)],[.v (.int .u8 3)],[.v (.int .u8 4)]],.v (.bool false)],[.str [102,111,110,116,45,115,105,122,101],.v (.bool true),.v (.int .u8 2),.str [],i_ 16000,.v (.int .u8 0),.v (.int .u8 0),.v (.int .u8 0),.v (.int .u8 0),.v (.slice none 0 0),.sl 1 [[.v (.int .u8 2)],[.v (.int .u8 3)],[.v (.int .u8 4)]],.v (.bool true)],[.str [108,105,110,101,45,104,101,105,103,104,116],.v (.bool true),.v (.int .u8 1),.str [110,111,114,109,97,108],i_ 0,.v (.int .u8 0),.v (.int .u8 0),.v (.int .u8 0),.v (.int .u8 0),.sl 1 [[.str [110,111,114,109,97,108]]],.sl 1 [[.v (.int .u8 2)],[.v (.int .u8 3)],[.v (.int .u8 4)],[.v (.int .u8 5)]],.v (.bool true)],[.str [116,101,120,116,45,97,108,105,103,110],.v (.bool true),.v (.int .u8 1),.str [108,101,102,116],i_ 0,.v (.int .u8 0),.v (.int .u8 0),.v (.int .u8 0),.v (.int .u8 0),.sl 1 [[.str [99,101,110,116,101,114]],[.str [106,117,115,116,105,102,121]],[.str [108,101,102,116]],[.str [114,105,103,104,116]]],.v (.slice none 0 0),.v (.bool false)],[.str [111,112,97,99,105,116,121],.v (.bool false),.v (.int .u8 5),.str [],i_ 1000,.v (.int .u8 0),.v (.int .u8 0),.v (.int .u8 0),.v (.int .u8 0),.v (.slice none 0 0),.sl 1 [[.v (.int .u8 5)]],.v (.bool false)],[.str [122,45,105,110,100,101,120],.v (.bool false),.v (.int .u8 1),.str [97,117,116,111],i_ 0,.v (.int .u8 0),.v (.int .u8 0),.v (.int .u8 0),.v (.int .u8 0),.sl 1 [[.str [97,117,116,111]]],.sl 1 [[.v (.int .u8 6)]],.v (.bool false)],[.str [111,114,100,101,114],.v (.bool false),.v (.int .u8 6),.str [],i_ 0,.v (.int .u8 0),.v (.int .u8 0),.v (.int .u8 0),.v (.int .u8 0),.v (.slice none 0 0),.sl 1 [[.v (.int .u8 6)]],.v (.bool false)]]
theorem oC:aP p_ 10 [] (.sl 12 xH):=by
 refine (V10).gives (by simp) (by simp[xH]) ?_;unfold W10;refine bt rfl (cI (n:=0) (h':=[_]) rfl rfl rfl rfl (cf (h':=[_]) rfl rfl rfl rfl (aS _) rfl rfl rfl (cN rfl (cN rfl (bt rfl (cI (n:=1) (h':=[_,_]) rfl rfl rfl rfl (cf (h':=[_,_]) rfl rfl rfl rfl (aS _) rfl rfl rfl ?_)))))));refine bt rfl (bt rfl (bt rfl (bt rfl (bt rfl (cY rfl rfl (aS _) (bt rfl (cY rfl rfl (aS _) ?_)))))));refine bt rfl ?_;refine sw rfl (by kernel_rfl) afp ?_;refine cN rfl (bt rfl ?_);refine sw rfl (by kernel_rfl) afq ?_;refine cN rfl (bt rfl (cY rfl rfl (aS _) (cN rfl (bt rfl (cY rfl rfl (aS _) (cN rfl (bt rfl ?_)))))));refine sw rfl (by kernel_rfl) NJ ?_;refine cN rfl (bt rfl ?_);refine sw rfl (by kernel_rfl) NJ ?_;refine cN rfl (bt rfl ?_);refine sw rfl (by kernel_rfl) NJ ?_;refine cN rfl (bt rfl ?_);refine sw rfl (by kernel_rfl) NJ ?_;refine cN rfl (bt rfl ?_);refine sw rfl (by kernel_rfl) afr ?_;refine bt rfl ?_;refine sw rfl (by kernel_rfl) afs ?_;refine cN rfl (cN rfl (cN rfl (bt rfl (cN rfl (bt rfl (cY rfl rfl (aS _) (cN rfl ?_)))))));refine cN rfl (bt rfl (bt rfl (cN rfl (bt rfl (UD (TE rfl ?_))))));refine Z7 (n:=2) (h':=[_,_,_]) (k:=3) rfl fw rfl rfl (by unfold dU maxLen;decide) rfl rfl ?_;refine TE rfl ?_;refine kP (h':=[_,_,_]) (k:=3) rfl rfl rfl fw rfl (by unfold dU maxLen;decide) rfl ?_;refine bt rfl ?_;refine ig rfl (by kernel_rfl) aft ?_;refine bt rfl (cN rfl (fg.of ?_));show _=_;rfl
theorem ur{x y:AV}(ex:x=.str a)(ey:y=.str b)(hl:a.length+b.length≤maxLen)(q:K (.str (a++b))):ab .add x y K:=by
 subst ex;subst ey;exact⟨hl,q⟩
theorem zzc(hl:a.length+b.length≤maxLen)(q:K (.str (a++b))):ab .add (.str a) (.str b) K:=ur rfl rfl hl q
def tM:Nat→aa
 | 0=>[]
 | k+1=>tM k++[.dead]
def tH(k:Nat):aa:=[.aC ⟨37,[u8 1,.str [97,117,116,111],i_ 0,u8 0,u8 0,u8 0,u8 0],true⟩,.aC ⟨37,[u8 2,.str [],i_ 0,u8 0,u8 0,u8 0,u8 0],true⟩]++tM k++[.aC ⟨41,(lW.take (8+k)).flatten,true⟩]
theorem lz:aP p_ 28 [] (.sl 12 lW):=by
 refine (V28).gives (by simp) (by simp[lW]) ?_;unfold W28;refine zzS (by kernel_rfl) tb0 (bt rfl (cI (n:=0) (h':=[_]) rfl rfl rfl rfl (cI (n:=1) (h':=[_,_]) rfl rfl rfl rfl (cf (h':=[_,_]) rfl rfl rfl rfl (aS _) rfl rfl rfl (cf (h':=[_,_]) rfl rfl rfl rfl (aS _) rfl rfl rfl (bt rfl (bt rfl (zzT (by kernel_rfl) tb1 (bt rfl (zzT (by kernel_rfl) tb2 (bt rfl (zzT (by kernel_rfl) tb3 (bt rfl ?_)))))))))))));refine zzT (by kernel_rfl) tb4 (zzT (by kernel_rfl) tb6 (zzT (by kernel_rfl) tb8 (zzV rfl (aS _) (zzT (by kernel_rfl) tb9 (zzV rfl (aS _) (zzT (by kernel_rfl) afg (UG (n:=2) (h':=tH 0) rfl rfl rfl (cN rfl ?_))))))));refine zzk rfl fun _=>?_;refine aU (α:=Nat) (fun k=>k≤4) (fun k=>[.own (2+k) 0 (8+k) 12,i_ k]) tH (fun k=>4-k) 0 (by simp) (Wk.refl _ _ _ (by simp)) ?_;intro k hk;obtain rfl|rfl|rfl|rfl|rfl:k=0∨k=1∨k=2∨k=3∨k=4:=by omega
 ·refine zzC (zzL rfl (zD rfl rfl (by decide) (zzW (zzc (by unfold maxLen;decide) (zzV rfl (aS _) (zzS (by kernel_rfl) afh (cN rfl (DC (n:=3) (h':=[_,_,_,_]) (cells:=(lW.take 8).flatten) (len:=8) rfl rfl (by decide) (by omega) fw rfl (by unfold dU maxLen;decide) rfl rfl (zzP (by unfold aN;omega) (af ?_))))))))));exact⟨1,by omega,Wk.refl _ _ _ (by simp[tH,tM]),by omega⟩
 ·refine zzC (zzL rfl (zD rfl rfl (by decide) (zzW (zzc (by unfold maxLen;decide) (zzV rfl (aS _) (zzS (by kernel_rfl) afi (cN rfl (DC (n:=4) (h':=[_,_,_,_,_]) (cells:=(lW.take 9).flatten) (len:=9) rfl rfl (by decide) (by omega) fw rfl (by unfold dU maxLen;decide) rfl rfl (zzP (by unfold aN;omega) (af ?_))))))))));exact⟨2,by omega,Wk.refl _ _ _ (by simp[tH,tM]),by omega⟩
 ·refine zzC (zzL rfl (zD rfl rfl (by decide) (zzW (zzc (by unfold maxLen;decide) (zzV rfl (aS _) (zzS (by kernel_rfl) afj (cN rfl (DC (n:=5) (h':=[_,_,_,_,_,_]) (cells:=(lW.take 10).flatten) (len:=10) rfl rfl (by decide) (by omega) fw rfl (by unfold dU maxLen;decide) rfl rfl (zzP (by unfold aN;omega) (af ?_))))))))));exact⟨3,by omega,Wk.refl _ _ _ (by simp[tH,tM]),by omega⟩
 ·refine zzC (zzL rfl (zD rfl rfl (by decide) (zzW (zzc (by unfold maxLen;decide) (zzV rfl (aS _) (zzS (by kernel_rfl) afk (cN rfl (DC (n:=6) (h':=[_,_,_,_,_,_,_]) (cells:=(lW.take 11).flatten) (len:=11) rfl rfl (by decide) (by omega) fw rfl (by unfold dU maxLen;decide) rfl rfl (zzP (by unfold aN;omega) (af ?_))))))))));exact⟨4,by omega,Wk.refl _ _ _ (by simp[tH,tM]),by omega⟩
 ·refine zzC (zzK rfl (bt rfl (zzT (by kernel_rfl) afl (zzT (by kernel_rfl) afm (cN rfl (zzT (by kernel_rfl) afn (zzT (by kernel_rfl) afo (bt rfl (cN rfl (bt rfl (zzV rfl (aS _) (cN rfl (cN rfl ?_)))))))))))));refine bt rfl (bt rfl (cN rfl (bt rfl (cN rfl (NW (cells:=(lW.take 12).flatten) (len:=12) rfl rfl (by decide) (by omega) fw rfl (by unfold dU maxLen;decide) (fg.of ?_))))));show _=_;rfl
end
section
open Go Go.Aw
variable [Laid]
def Yv(x0 x1:AV)(h:aa)(K:AV→aa→Prop):Prop:=
 iC p_ 229 [x0] h fun c d=>iC p_ 229 [x1] d fun b a=>ae c (ae b (K (i_ 0) a) (K (i_ (-1)) a)) (ae b (K (i_ 1) a) (ab .lss x0 x1 fun e=>ae e (K (i_ (-1)) a) (ab .gtr x0 x1 fun f=>ae f (K (i_ 1) a) (K (i_ 0) a))))
theorem aeB(x0 x1:AV):Body p_ 193 [x0,x1] (Yv x0 x1):=mkB Tryz.func193 .nil 20 [.tmp 4] (by kernel_rfl) fun _ _=>by kernel_rfl
def YC(x0:AV)(h:aa)(K:AV→aa→Prop):Prop:=
 ab .neq x0 x0 fun a=>K a h
theorem aeH(x0:AV):Body p_ 229 [x0] (YC x0):=mkB Tryz.func229 .nil 6 [.tmp 2] (by kernel_rfl) fun _ _=>by kernel_rfl
def Ye(x0 x1:AV)(h:aa)(K:AV→aa→Prop):Prop:=
 gQ x0 fun d=>gQ x1 fun e=>ab .geq d e fun a=>aB (fun b=>au a true (gQ x1 fun f=>mw x0 none (some f) fun g=>ab .eql g x1 fun i=>b [tt,i] h) (b [(aQ true a),un] h)) fun c j=>aH (nx c 0) (nx c 1) ff fun k=>K k j
theorem aek(x0 x1:AV):Body p_ 157 [x0,x1] (Ye x0 x1):=mkB Tryz.func157 (sn (.seq (.bz (oR 0 6 (.bj 5 true (fR 6 6) [] [10,16]::oR 12 2 []))) .nil)) 18 [.tmp 4] (by kernel_rfl) fun _ _=>by kernel_rfl
def Yc(x0 x1:AV)(h:aa)(K:AV→aa→Prop):Prop:=
 bu x0 fun c=>bJ [(i_ 0)] h fun f b a =>
 ab .lss (nx b 0) c fun g=>ae g (aG 1 x0 (nx b 0) fun i=>ag false 1 i a fun j=>bu x1 fun k=>ab .geq (nx b 0) k fun l=>ae l (K (i_ 1) a) (aG 1 x1 (nx b 0) fun m=>ag false 1 m a fun n=>iC p_ 193 [j,n] a fun d e=>ab .neq d (i_ 0) fun o=>ae o (K d e) (ab .add (nx b 0) (i_ 1) fun p=>eC [x0,x1,x0,c] (f [p] e)))) (bu x0 fun q=>bu x1 fun r=>ab .lss q r fun s=>ae s (K (i_ (-1)) a) (K (i_ 0) a))
theorem aei(x0 x1:AV):Body p_ 155 [x0,x1] (Yc x0 x1):=mkB Tryz.func155 (sn (.seq (sn (.one (.loop [0,1,9,10] [11] .nil))) .nil)) 36 [.tmp 4] (by kernel_rfl) fun _ _=>by kernel_rfl
def W64(x0 x1:AV)(h:aa)(K:AV→aa→Prop):Prop:=
 iC p_ 104 [x0,x1] h fun a b=>ab .geq a (i_ 0) fun c=>K c b
theorem V64(x0 x1:AV):Body p_ 64 [x0,x1] (W64 x0 x1):=mkB Tryz.func64 .nil 9 [.tmp 4] (by kernel_rfl) fun _ _=>by kernel_rfl
def XQ(x0 x1:AV)(h:aa)(K:AV→aa→Prop):Prop:=
 bu x0 fun c=>bJ [(i_ 0)] h fun e a b =>
 ab .lss (nx a 0) c fun f=>ae f (aG 12 x0 (nx a 0) fun g=>ag true 12 g b fun i=>eJ p_ x1 [i] b fun j d=>ae j (K (nx a 0) d) (ab .add (nx a 0) (i_ 1) fun k=>eC [x0,x1,c] (e [k] d))) (K (i_ (-1)) b)
theorem adW(x0 x1:AV):Body p_ 113 [x0,x1] (XQ x0 x1):=mkB Tryz.func113 (sn (.seq (sn (.one (.loop [0,1,7] [8] .nil))) .nil)) 19 [.tmp 4] (by kernel_rfl) fun _ _=>by kernel_rfl
def XH(x0 x1:AV)(h:aa)(K:AV→aa→Prop):Prop:=
 bu x0 fun c=>bJ [(i_ 0)] h fun d a b =>
 ab .lss (nx a 0) c fun e=>ae e (aG 1 x0 (nx a 0) fun f=>ag false 1 f b fun g=>ab .eql x1 g fun i=>ae i (K (nx a 0) b) (ab .add (nx a 0) (i_ 1) fun j=>eC [x0,x1,c] (d [j] b))) (K (i_ (-1)) b)
theorem adN(x0 x1:AV):Body p_ 104 [x0,x1] (XH x0 x1):=mkB Tryz.func104 (sn (.seq (sn (.one (.loop [0,1,7] [8] .nil))) .nil)) 19 [.tmp 4] (by kernel_rfl) fun _ _=>by kernel_rfl
def XP(x0 x1:AV)(h:aa)(K:AV→aa→Prop):Prop:=
 iC p_ 157 [x0,x1] h fun a b=>K a b
theorem adV(x0 x1:AV):Body p_ 112 [x0,x1] (XP x0 x1):=mkB Tryz.func112 .nil 8 [.tmp 4] (by kernel_rfl) fun _ _=>by kernel_rfl
def W73(x0:AV)(h:aa)(K:AV→aa→Prop):Prop:=
 iC p_ 112 [x0,(.str [45,45])] h fun a b=>aB (fun c=>au a true (gQ x0 fun j=>ab .gtr j (i_ 2) fun k=>eC [x0] (c [tt,k] b)) (eC [x0] (c [(aQ true a),un] b))) fun d e=>aH (nx d 0) (nx d 1) ff fun f=>aB (fun g=>au f true (gQ x0 fun l=>ab .leq l (i_ 64) fun m=>g [tt,m] e) (g [(aQ true f),un] e)) fun i n=>aH (nx i 0) (nx i 1) ff fun o=>K o n
theorem V73(x0:AV):Body p_ 73 [x0] (W73 x0):=mkB Tryz.func73 (sn (.seq (.bz (oR 0 3 (.bj 2 true (fR 3 3) [0] [5,8]::oR 6 2 (.bj 7 true (fR 8 3) [] [10,13]::oR 11 2 [])))) .nil)) 15 [.tmp 2] (by kernel_rfl) fun _ _=>by kernel_rfl
def XR(x0 x1:AV)(h:aa)(K:AV→aa→Prop):Prop:=
 br 41 x0 h fun b a=>iFL 0 false 1 b a fun c=>ag false 1 x1 a fun d=>ab .eql c d fun e=>K e a
theorem adX(x0 x1:AV):Body p_ 114 [x0,x1] (XR x0 x1):=mkB Tryz.func114 .nil 8 [.tmp 3] (by kernel_rfl) fun _ _=>by kernel_rfl
def W74(x0:AV)(h:aa)(K:AV→aa→Prop):Prop:=
 br 9 x0 h fun c d=>iC p_ 28 [] d fun e f=>iC p_ 113 [e,(.fn (.func 114) [] [c])] f fun a b=>ab .lss a (i_ 0) fun g=>ae g (K (.aF [(i_ 0),(i_ 6)]) b) (K (.aF [a,(i_ 0)]) b)
theorem V74(x0:AV):Body p_ 74 [x0] (W74 x0):=mkB Tryz.func74 .nil 11 [.tmp 2,.tmp 3] (by kernel_rfl) fun _ _=>by kernel_rfl
def W38(x0:AV)(h:aa)(K:AV→aa→Prop):Prop:=
 iC p_ 73 [x0] h fun f a=>ae f (K (.aF [tt,(i_ 0)]) a) (iC p_ 74 [x0] a fun b c=>aK 0 b fun g=>aK 1 b fun d=>ab .neq d (i_ 0) fun i=>ae i (K (.aF [ff,d]) c) (iC p_ 28 [] c fun j e=>aG 12 j g fun k=>iFL 1 false 1 k e fun l=>K (.aF [l,(i_ 0)]) e))
theorem V38(x0:AV):Body p_ 38 [x0] (W38 x0):=mkB Tryz.func38 .nil 21 [.tmp 2,.tmp 3] (by kernel_rfl) fun _ _=>by kernel_rfl
def XM(x0:AV)(h:aa)(K:AV→aa→Prop):Prop:=
 iC p_ 154 [x0] h fun a b=>bu a fun f=>ab .gtr f (i_ 0) fun g=>ae g (K (.aF [a,(i_ 0)]) b) (iC p_ 38 [x0] b fun c d=>aK 0 c fun k=>aK 1 c fun e=>ab .neq e (i_ 0) fun i=>ae i (K (.aF [nS,e]) d) (bH 1 1 (.str []) [(0,1,x0)] fun j=>K (.aF [j,(i_ 0)]) d))
theorem adS(x0:AV):Body p_ 109 [x0] (XM x0):=mkB Tryz.func109 (sn (sn (sn (.seq (.bz (.op 0 false::.op 1 true::oR 2 2 [])) .nil)))) 23 [.tmp 2,.tmp 3] (by kernel_rfl) fun _ _=>by kernel_rfl
def Yu(h:aa)(K:AV→aa→Prop):Prop:=
 bH 4 1 (.str []) [(0,1,(.str [109,97,114,103,105,110])),(1,1,(.str [98,111,114,100,101,114])),(2,1,(.str [111,117,116,108,105,110,101])),(3,1,(.str [98,97,99,107,103,114,111,117,110,100]))] fun a=>K a h
theorem aeA:Body p_ 192 [] (Yu):=mkB Tryz.func192 (sn (.seq (.bz [.op 0 true,.op 1 false]) .nil)) 2 [.tmp 0] (by kernel_rfl) fun _ _=>by kernel_rfl
def Yb(x0:AV)(h:aa)(K:AV→aa→Prop):Prop:=
 iC p_ 192 [] h fun f g=>iC p_ 64 [f,x0] g fun i b=>fe i fun j=>ae j (K nS b) (ab .neq x0 (.str [109,97,114,103,105,110]) fun k=>ae k (ab .add x0 (.str [45,99,111,108,111,114]) fun l=>bH 1 1 (.str []) [(0,1,l)] fun m=>K m b) (bH 4 1 (.str []) [(0,1,(.str [116,111,112])),(1,1,(.str [114,105,103,104,116])),(2,1,(.str [98,111,116,116,111,109])),(3,1,(.str [108,101,102,116]))] fun c=>bu c fun e=>bJ [nS,(i_ 0)] b fun n a d =>
 ab .lss (nx a 1) e fun o=>ae o (aG 1 c (nx a 1) fun p=>ag false 1 p d fun q=>ab .add x0 (.str [45]) fun r=>ab .add r q fun s=>bH 1 1 (.str []) [(0,1,s)] fun t=>eE false 9 1 16 (nx a 0) t d fun u v=>ab .add (nx a 1) (i_ 1) fun w=>eC [x0,c,e] (n [u,w] v)) (K (nx a 0) d)))
theorem aeh(x0:AV):Body p_ 154 [x0] (Yb x0):=mkB Tryz.func154 (sn (.seq (.one (sn (.two .nil (sn (.two (.seq (.bz (oR 0 2 (.op 2 true::.op 3 false::[]))) .nil) .nil))))) (sn (.seq (.seq (.bz (.op 0 true::oR 1 2 [])) (.one (.loop [0,17,18] [3,19] (sn (sn (.seq (.one (sn (.bz (oR 0 5 (.op 5 true::oR 6 2 []))))) .nil)))))) .nil)))) 32 [.tmp 2] (by kernel_rfl) fun _ _=>by kernel_rfl
def W72(x0 x1:AV)(h:aa)(K:AV→aa→Prop):Prop:=
 br 50 x0 h fun c f=>br 50 x1 f fun d b=>ag true 11 c b fun g=>ag true 11 d b fun i=>bH 2 11 (.agg [(.str []),nS,(.str []),ff,(u8 0),ff,(i_ 0),(i_ 0),(i_ 0),(i_ 0),(i_ 0)]) [(0,11,g),(11,11,i)] fun j=>iC p_ 110 [j] b fun e a=>ab .neq e (i_ 0) fun k=>ae k (K (.aF [ff,e]) a) (ag true 11 c a fun l=>ag true 11 d a fun m=>iC p_ 111 [l,m] a fun n o=>ab .lss n (i_ 0) fun p=>K (.aF [p,(i_ 0)]) o)
theorem V72(x0 x1:AV):Body p_ 72 [x0,x1] (W72 x0 x1):=mkB Tryz.func72 (sn (.seq (.seq (.bz (oR 0 2 (.op 2 true::oR 3 2 []))) .nil) .nil)) 18 [.tmp 4,.tmp 5] (by kernel_rfl) fun _ _=>by kernel_rfl
def W71(x0:AV)(h:aa)(K:AV→aa→Prop):Prop:=
 br 50 x0 h fun a q=>bh 0 a fun Z=>iFL 0 false 1 Z q fun a0=>iC p_ 38 [a0] q fun r l=>aK 0 r fun f1=>aK 1 r fun a1=>ab .neq a1 (i_ 0) fun s=>aB (fun t=>au s false (bh 0 a fun a2=>iFL 1 false 1 a2 l fun a3=>iC p_ 40 [a3] l fun a4 a5=>ab .neq a4 (i_ 0) fun a6=>eC [a] (t [ff,a6] a5)) (eC [a] (t [(aQ false s),un] l))) fun u j=>aH (nx u 0) tt (nx u 1) fun a7=>ae a7 (K (i_ 8) j) (aB (fun v=>bh 0 a fun a8=>iFL 2 false 1 a8 j fun f=>ab .neq f (.str []) fun a9=>ae a9 (iC p_ 109 [f] j fun w m=>aK 0 w fun b0=>aK 1 w fun b1=>ab .neq b1 (i_ 0) fun x=>aB (fun y=>au x false (bh 0 a fun b2=>iFL 0 false 1 b2 m fun b3=>iC p_ 64 [b0,b3] m fun b4 b5=>fe b4 fun b6=>eC [a,f] (y [ff,b6] b5)) (eC [a,f] (y [(aQ false x),un] m))) fun z n=>aH (nx z 0) tt (nx z 1) fun A=>aB (fun B=>au A false (bh 0 a fun b7=>iFL 0 false 1 b7 n fun b8=>ab .eql f b8 fun b9=>eC [a] (B [ff,b9] n)) (eC [a] (B [(aQ false A),un] n))) fun C D=>aH (nx C 0) tt (nx C 1) fun c0=>ae c0 (K (i_ 8) D) (eC [a] (v [] D))) (eC [a] (v [] j))) fun f2 b=>iFL 6 false 1 a b fun c1=>iFL 10 false 1 a b fun c2=>bh 7 a fun c3=>gM 3 1 c3 (i_ 0) fun c4=>ag false 1 c4 b fun c5=>bh 7 a fun c6=>gM 3 1 c6 (i_ 1) fun c7=>ag false 1 c7 b fun c8=>bh 7 a fun c9=>gM 3 1 c9 (i_ 2) fun d0=>ag false 1 d0 b fun d1=>aY (.agg [(i_ 0),(i_ 0),(i_ 0),(i_ 0),(i_ 0)]) [(0,1,c1),(1,1,c2),(2,1,c5),(3,1,c8),(4,1,d1)] fun k=>bJ [(i_ 0)] b fun d2 g c =>
 ab .lss (nx g 0) (i_ 5) fun d3=>ae d3 (rS false 1 5 k (nx g 0) fun E=>ab .lss E (i_ 0) fun F=>aB (fun G=>au F false (ab .gtr E (i_ 1000000) fun d4=>eC [a,k,(nx g 0)] (G [ff,d4] c)) (eC [a,k,(nx g 0)] (G [(aQ false F),un] c))) fun H I=>aH (nx H 0) tt (nx H 1) fun d5=>ae d5 (K (i_ 8) I) (ab .add (nx g 0) (i_ 1) fun d6=>eC [a,k] (d2 [d6] I))) (iFL 4 false 1 a c fun d7=>ab .lss d7 (u8 1) fun J=>aB (fun L=>au J false (iFL 4 false 1 a c fun d8=>ab .gtr d8 (u8 3) fun d9=>eC [a] (L [ff,d9] c)) (eC [a] (L [(aQ false J),un] c))) fun M i=>aH (nx M 0) tt (nx M 1) fun e0=>ae e0 (K (i_ 8) i) (iFL 5 false 1 a i fun N=>aB (fun O=>au N true (iFL 4 false 1 a i fun e1=>ab .neq e1 (u8 3) fun e2=>eC [a] (O [tt,e2] i)) (eC [a] (O [(aQ true N),un] i))) fun d o=>aB (fun P=>au (nx d 1) false (iFL 6 false 1 a o fun e3=>ab .neq e3 (i_ 0) fun e4=>eC [a,(nx d 0)] (P [ff,e4] o)) (eC [a,(nx d 0)] (P [(aQ false (nx d 1)),un] o))) fun Q R=>aB (fun S=>au (nx d 0) true (aH (nx Q 0) tt (nx Q 1) fun e5=>eC [a] (S [tt,e5] R)) (eC [a] (S [(aQ true (nx d 0)),un] R))) fun e p=>aB (fun T=>au (nx e 1) false (iFL 7 true 3 a p fun e6=>aY (.agg [(i_ 0),(i_ 0),(i_ 0)]) [] fun e7=>lQ true [1,1,1] e6 e7 fun e8=>eC [(nx e 0)] (T [ff,e8] p)) (eC [(nx e 0)] (T [(aQ false (nx e 1)),un] p))) fun U V=>aB (fun W=>au (nx e 0) true (aH (nx U 0) tt (nx U 1) fun e9=>W [tt,e9] V) (W [(aQ true (nx e 0)),un] V)) fun X Y=>aH (nx X 0) (nx X 1) ff fun f0=>ae f0 (K (i_ 8) Y) (K (i_ 0) Y))))
theorem V71(x0:AV):Body p_ 71 [x0] (W71 x0):=mkB Tryz.func71 (sn (.seq (sn (.seq (.bz (oR 0 3 (.bj 2 false (fR 3 5) [1] [19,24]::.op 8 false::[]))) .nil)) (.join [1] [] (sn (sn (.two (sn (.seq (.bz (oR 0 3 (.bj 2 false (fR 3 6) [1,5] [38,44]::oR 9 2 (.bj 10 false (fR 11 5) [1] [46,51]::.op 16 false::[])))) .nil)) .nil))) (.seq (sn (.one (.loop [1,66] [67] (sn (sn (.seq (.one (sn (.seq (.bz (oR 0 3 (.bj 2 false (fR 3 2) [1,66,67] [72,74]::.op 5 false::[]))) .nil))) .nil)))))) (.seq (.one (.seq (.bz (oR 0 4 (.bj 3 false (fR 4 3) [1] [81,84]::oR 7 2 []))) (.two .nil (.seq (.bz (oR 0 3 (.bj 2 true (fR 3 4) [1] [89,93]::.bj 6 false (fR 7 3) [1,89] [93,96]::.bj 2 true (fR 10 2) [1] [89,98]::.bj 11 false (fR 12 4) [89] [98,102]::.bj 2 true [(16,false)] [] [89,103]::oR 17 2 []))) .nil)))) .nil))))) 105 [.tmp 2] (by kernel_rfl) fun _ _=>by kernel_rfl
def XN(x0:AV)(h:aa)(K:AV→aa→Prop):Prop:=
 bu x0 fun c=>bJ [(i_ 0)] h fun i a b =>
 ab .lss (nx a 0) c fun j=>ae j (aG 11 x0 (nx a 0) fun k=>ag true 11 k b fun l=>br 50 (.agg [(.str []),nS,(.str []),ff,(u8 0),ff,(i_ 0),(i_ 0),(i_ 0),(i_ 0),(i_ 0)]) b fun d m=>aE 11 d l m fun e=>ag true 11 d e fun n=>iC p_ 71 [n] e fun f g=>ab .neq f (i_ 0) fun o=>ae o (K f g) (ab .add (nx a 0) (i_ 1) fun p=>eC [x0,c] (i [p] g))) (K (i_ 0) b)
theorem adT(x0:AV):Body p_ 110 [x0] (XN x0):=mkB Tryz.func110 (sn (.seq (sn (.one (.loop [6,7] [8] .nil))) .nil)) 18 [.tmp 2] (by kernel_rfl) fun _ _=>by kernel_rfl
def XO(x0 x1:AV)(h:aa)(K:AV→aa→Prop):Prop:=
 br 50 x0 h fun b c=>br 50 x1 c fun d a=>ag true 11 b a fun e=>iQ p_ 156 [e] a fun f=>ag true 11 d a fun g=>iQ p_ 156 [g] a fun i=>iQ p_ 155 [f,i] a fun j=>K j a
theorem adU(x0 x1:AV):Body p_ 111 [x0,x1] (XO x0 x1):=mkB Tryz.func111 (sn (.seq (.draw 6 (oR 0 6 []) [] []) .nil)) 10 [.tmp 4] (by kernel_rfl) fun _ _=>by kernel_rfl
def Yd(x0:AV)(h:aa)(K:AV→aa→Prop):Prop:=
 br 50 x0 h fun a c=>iFL 4 false 1 a c fun k=>gZ .i64 k fun f=>iFL 6 false 1 a c fun g=>aB (fun i=>iFL 3 false 1 a c fun l=>ae l (ab .sub (i_ 7) f fun m=>ab .sub (i_ 1000000) g fun n=>eC [a,(i_ 0)] (i [m,n] c)) (eC [a,(i_ 0)] (i [f,g] c))) fun b e=>aB (fun j=>iFL 5 false 1 a e fun o=>ae o (eC [a,(nx b 0),(nx b 1)] (j [(i_ 1)] e)) (eC [a,(nx b 0),(nx b 1)] (j [(i_ 0)] e))) fun p d=>bh 7 a fun q=>gM 3 1 q (i_ 0) fun r=>ag false 1 r d fun s=>bh 7 a fun t=>gM 3 1 t (i_ 1) fun u=>ag false 1 u d fun v=>bh 7 a fun w=>gM 3 1 w (i_ 2) fun x=>ag false 1 x d fun y=>iFL 10 false 1 a d fun z=>bH 7 1 (i_ 0) [(0,1,(nx b 0)),(1,1,(nx p 0)),(2,1,(nx b 1)),(3,1,s),(4,1,v),(5,1,y),(6,1,z)] fun A=>K A d
theorem aej(x0:AV):Body p_ 156 [x0] (Yd x0):=mkB Tryz.func156 (sn (.seq (.draw 8 (oR 0 8 []) [] []) (.join [1,5] [3,4] .nil (.join [1,3,4] [5] .nil (.seq (.bz (oR 0 14 (.op 14 true::.op 15 false::[]))) .nil))))) 34 [.tmp 2] (by kernel_rfl) fun _ _=>by kernel_rfl
def W11(x0:AV)(h:aa)(K:AV→aa→Prop):Prop:=
 gQ x0 fun i=>ab .gtr i (i_ 2) fun a=>aB (fun b=>au a true (gQ x0 fun j=>ab .leq j (i_ 64) fun k=>eC [x0] (b [tt,k] h)) (eC [x0] (b [(aQ true a),un] h))) fun c d=>aH (nx c 0) (nx c 1) ff fun e=>aB (fun f=>au e true (mw x0 none (some (i_ 2)) fun l=>ab .eql l (.str [45,45]) fun m=>f [tt,m] d) (f [(aQ true e),un] d)) fun g n=>aH (nx g 0) (nx g 1) ff fun o=>K o n
theorem V11(x0:AV):Body p_ 11 [x0] (W11 x0):=mkB Tryz.func11 (sn (.seq (.bz (oR 0 4 (.bj 3 true (fR 4 3) [0] [6,9]::oR 7 2 (.bj 8 true (fR 9 3) [] [11,14]::oR 12 2 [])))) .nil)) 16 [.tmp 2] (by kernel_rfl) fun _ _=>by kernel_rfl
def Yn(x0:AV)(h:aa)(K:AV→aa→Prop):Prop:=
 iC p_ 10 [] h fun c d=>bJ [(i_ 0)] d fun e a b =>
 bu c fun f=>ab .lss (nx a 0) f fun g=>ae g (aG 12 c (nx a 0) fun i=>iFL 0 false 1 i b fun j=>ab .eql j x0 fun k=>ae k (K (.aF [(nx a 0),(i_ 0)]) b) (ab .add (nx a 0) (i_ 1) fun l=>eC [x0,c] (e [l] b))) (K (.aF [(i_ 0),(i_ 6)]) b)
theorem aet(x0:AV):Body p_ 180 [x0] (Yn x0):=mkB Tryz.func180 (sn (sn (.seq (sn (.one (.loop [0,4] [5] .nil))) .nil))) 21 [.tmp 2,.tmp 3] (by kernel_rfl) fun _ _=>by kernel_rfl
def XZ(x0:AV)(h:aa)(K:AV→aa→Prop):Prop:=
 iC p_ 11 [x0] h fun f a=>ae f (K (.aF [tt,(i_ 0)]) a) (iC p_ 180 [x0] a fun b c=>aK 0 b fun g=>aK 1 b fun d=>ab .neq d (i_ 0) fun i=>ae i (K (.aF [ff,d]) c) (iC p_ 10 [] c fun j e=>aG 12 j g fun k=>iFL 1 false 1 k e fun l=>K (.aF [l,(i_ 0)]) e))
theorem ad5(x0:AV):Body p_ 134 [x0] (XZ x0):=mkB Tryz.func134 .nil 21 [.tmp 2,.tmp 3] (by kernel_rfl) fun _ _=>by kernel_rfl
def Yl(x0:AV)(h:aa)(K:AV→aa→Prop):Prop:=
 iC p_ 168 [x0] h fun a b=>bu a fun e=>ab .gtr e (i_ 0) fun f=>ae f (K (.aF [a,(i_ 0)]) b) (iC p_ 134 [x0] b fun c d=>aK 0 c fun k=>aK 1 c fun g=>ab .neq g (i_ 0) fun i=>ae i (K (.aF [nS,(i_ 6)]) d) (bH 1 1 (.str []) [(0,1,x0)] fun j=>K (.aF [j,(i_ 0)]) d))
theorem aer(x0:AV):Body p_ 167 [x0] (Yl x0):=mkB Tryz.func167 (sn (sn (sn (.seq (.bz (.op 0 false::.op 1 true::oR 2 2 [])) .nil)))) 22 [.tmp 2,.tmp 3] (by kernel_rfl) fun _ _=>by kernel_rfl
def Ym(x0:AV)(h:aa)(K:AV→aa→Prop):Prop:=
 ab .eql x0 (.str [109,97,114,103,105,110]) fun c=>ae c (bH 4 1 (.str []) [(0,1,(.str [109,97,114,103,105,110,45,116,111,112])),(1,1,(.str [109,97,114,103,105,110,45,114,105,103,104,116])),(2,1,(.str [109,97,114,103,105,110,45,98,111,116,116,111,109])),(3,1,(.str [109,97,114,103,105,110,45,108,101,102,116]))] fun d=>K d h) (aB (fun a=>ab .eql x0 (.str [98,111,114,100,101,114]) fun e=>ae e (eC [x0] (a [tt] h)) (ab .eql x0 (.str [111,117,116,108,105,110,101]) fun f=>ae f (eC [x0] (a [tt] h)) (ab .eql x0 (.str [98,97,99,107,103,114,111,117,110,100]) fun g=>eC [x0] (a [g] h)))) fun i b=>ae (nx i 0) (ab .add x0 (.str [45,99,111,108,111,114]) fun j=>bH 1 1 (.str []) [(0,1,j)] fun k=>K k b) (K nS b))
theorem aes(x0:AV):Body p_ 168 [x0] (Ym x0):=mkB Tryz.func168 (sn (.seq (sn (.one (sn (.two (.seq (.bz [.op 0 true,.op 1 false]) .nil) (.join [0] [7] .nil (.two (.seq (.bz (oR 0 2 (.op 2 true::.op 3 false::[]))) .nil) .nil)))))) .nil)) 14 [.tmp 2] (by kernel_rfl) fun _ _=>by kernel_rfl
def W50(x0:AV)(h:aa)(K:AV→aa→Prop):Prop:=
 bJ [(i_ 0)] h fun e a b =>
 bu x0 fun f=>ab .lss (nx a 0) f fun g=>ae g (aG 11 x0 (nx a 0) fun i=>ag true 11 i b fun j=>iC p_ 92 [j] b fun c d=>ab .neq c (i_ 0) fun k=>ae k (K c d) (ab .add (nx a 0) (i_ 1) fun l=>eC [x0] (e [l] d))) (K (i_ 0) b)
theorem V50(x0:AV):Body p_ 50 [x0] (W50 x0):=mkB Tryz.func50 (sn (.seq (sn (.one (.loop [0] [3] .nil))) .nil)) 19 [.tmp 2] (by kernel_rfl) fun _ _=>by kernel_rfl
def W92(x0:AV)(h:aa)(K:AV→aa→Prop):Prop:=
 br 50 x0 h fun a p=>bh 0 a fun a2=>iFL 0 false 1 a2 p fun a3=>iC p_ 134 [a3] p fun q f=>aK 0 q fun f5=>aK 1 q fun a4=>ab .neq a4 (i_ 0) fun r=>aB (fun s=>au r false (bh 0 a fun a5=>iFL 1 false 1 a5 f fun a6=>iC p_ 67 [a6] f fun a7 a8=>ab .neq a7 (i_ 0) fun a9=>eC [a] (s [ff,a9] a8)) (eC [a] (s [(aQ false r),un] f))) fun t g=>aH (nx t 0) tt (nx t 1) fun u=>aB (fun v=>au u false (iFL 0 true 3 a g fun b0=>iC p_ 135 [b0] g fun b1 b2=>fe b1 fun b3=>eC [a] (v [ff,b3] b2)) (eC [a] (v [(aQ false u),un] g))) fun w d=>aH (nx w 0) tt (nx w 1) fun b4=>ae b4 (K (i_ 8) d) (iFL 4 false 1 a d fun b5=>ab .lss b5 (u8 1) fun x=>aB (fun y=>au x false (iFL 4 false 1 a d fun b6=>ab .gtr b6 (u8 3) fun b7=>eC [a] (y [ff,b7] d)) (eC [a] (y [(aQ false x),un] d))) fun z i=>aH (nx z 0) tt (nx z 1) fun A=>aB (fun B=>au A false (iFL 6 false 1 a i fun b8=>iC p_ 136 [b8] i fun b9 c0=>fe b9 fun c1=>eC [a] (B [ff,c1] c0)) (eC [a] (B [(aQ false A),un] i))) fun C j=>aH (nx C 0) tt (nx C 1) fun D=>aB (fun E=>au D false (iFL 10 false 1 a j fun c2=>iC p_ 136 [c2] j fun c3 c4=>fe c3 fun c5=>eC [a] (E [ff,c5] c4)) (eC [a] (E [(aQ false D),un] j))) fun F k=>aH (nx F 0) tt (nx F 1) fun G=>aB (fun H=>au G false (bh 7 a fun c6=>gM 3 1 c6 (i_ 0) fun c7=>ag false 1 c7 k fun c8=>iC p_ 136 [c8] k fun c9 d0=>fe c9 fun d1=>eC [a] (H [ff,d1] d0)) (eC [a] (H [(aQ false G),un] k))) fun I l=>aH (nx I 0) tt (nx I 1) fun J=>aB (fun L=>au J false (bh 7 a fun d2=>gM 3 1 d2 (i_ 1) fun d3=>ag false 1 d3 l fun d4=>iC p_ 136 [d4] l fun d5 d6=>fe d5 fun d7=>eC [a] (L [ff,d7] d6)) (eC [a] (L [(aQ false J),un] l))) fun M m=>aH (nx M 0) tt (nx M 1) fun N=>aB (fun O=>au N false (bh 7 a fun d8=>gM 3 1 d8 (i_ 2) fun d9=>ag false 1 d9 m fun e0=>iC p_ 136 [e0] m fun e1 e2=>fe e1 fun e3=>eC [a] (O [ff,e3] e2)) (eC [a] (O [(aQ false N),un] m))) fun P e=>aH (nx P 0) tt (nx P 1) fun e4=>ae e4 (K (i_ 8) e) (iFL 5 false 1 a e fun Q=>aB (fun R=>au Q true (iFL 4 false 1 a e fun e5=>ab .neq e5 (u8 3) fun e6=>eC [a] (R [tt,e6] e)) (eC [a] (R [(aQ true Q),un] e))) fun b n=>aB (fun S=>au (nx b 1) false (iFL 6 false 1 a n fun e7=>ab .neq e7 (i_ 0) fun e8=>eC [a,(nx b 0)] (S [ff,e8] n)) (eC [a,(nx b 0)] (S [(aQ false (nx b 1)),un] n))) fun T U=>aB (fun V=>au (nx b 0) true (aH (nx T 0) tt (nx T 1) fun e9=>eC [a] (V [tt,e9] U)) (eC [a] (V [(aQ true (nx b 0)),un] U))) fun c o=>aB (fun W=>au (nx c 1) false (iFL 7 true 3 a o fun f0=>aY (.agg [(i_ 0),(i_ 0),(i_ 0)]) [] fun f1=>lQ true [1,1,1] f0 f1 fun f2=>eC [(nx c 0)] (W [ff,f2] o)) (eC [(nx c 0)] (W [(aQ false (nx c 1)),un] o))) fun X Y=>aB (fun Z=>au (nx c 0) true (aH (nx X 0) tt (nx X 1) fun f3=>Z [tt,f3] Y) (Z [(aQ true (nx c 0)),un] Y)) fun a0 a1=>aH (nx a0 0) (nx a0 1) ff fun f4=>ae f4 (K (i_ 8) a1) (K (i_ 0) a1)))
theorem V92(x0:AV):Body p_ 92 [x0] (W92 x0):=mkB Tryz.func92 (sn (.seq (sn (.seq (.bz (oR 0 3 (.bj 2 false (fR 3 5) [1] [14,19]::oR 8 2 (.bj 9 false (fR 10 4) [1] [21,25]::.op 14 false::[])))) .nil)) (.seq (.seq (.bz (oR 0 4 (.bj 3 false (fR 4 3) [1] [30,33]::oR 7 2 (.bj 8 false (fR 9 4) [1] [35,39]::oR 13 2 (.bj 14 false (fR 15 4) [1] [41,45]::oR 19 2 (.bj 20 false (fR 21 5) [1] [47,52]::oR 26 2 (.bj 27 false (fR 28 5) [1] [54,59]::oR 33 2 (.bj 34 false (fR 35 5) [1] [61,66]::.op 40 false::[])))))))) .nil) (.seq (.seq (.bz (oR 0 3 (.bj 2 true (fR 3 4) [1] [70,74]::.bj 6 false (fR 7 3) [1,70] [74,77]::.bj 2 true (fR 10 2) [1] [70,79]::.bj 11 false (fR 12 4) [70] [79,83]::.bj 2 true [(16,false)] [] [70,84]::.op 17 false::[]))) .nil) .nil)))) 86 [.tmp 2] (by kernel_rfl) fun _ _=>by kernel_rfl
def W24(x0:AV)(h:aa)(K:AV→aa→Prop):Prop:=
 bJ [(i_ 0),(i_ 0)] h fun t a f =>
 bu x0 fun u=>ab .lss (nx a 1) u fun g=>aB (fun i=>au g true (ab .leq (nx a 1) (i_ 40) fun v=>eC [x0,(nx a 0),(nx a 1)] (i [tt,v] f)) (eC [x0,(nx a 0),(nx a 1)] (i [(aQ true g),un] f))) fun j b=>aH (nx j 0) (nx j 1) ff fun w=>ae w (aG 11 x0 (nx a 1) fun x=>bh 0 x fun y=>iFL 1 false 1 y b fun z=>iC p_ 47 [z] b fun k c=>aB (fun l=>au k false (aG 11 x0 (nx a 1) fun A=>bh 0 A fun B=>iFL 0 false 1 B c fun C=>gQ C fun D=>ab .gtr D (i_ 100) fun E=>eC [x0,(nx a 0),(nx a 1)] (l [ff,E] c)) (eC [x0,(nx a 0),(nx a 1)] (l [(aQ false k),un] c))) fun m d=>aH (nx m 0) tt (nx m 1) fun n=>aB (fun o=>au n false (aG 11 x0 (nx a 1) fun F=>bh 0 F fun G=>iFL 2 false 1 G d fun H=>gQ H fun I=>ab .gtr I (i_ 100) fun J=>eC [x0,(nx a 0),(nx a 1)] (o [ff,J] d)) (eC [x0,(nx a 0),(nx a 1)] (o [(aQ false n),un] d))) fun p e=>aH (nx p 0) tt (nx p 1) fun L=>ae L (K tt e) (aG 11 x0 (nx a 1) fun M=>bh 0 M fun N=>iFL 1 false 1 N e fun O=>iC p_ 48 [O,(i_ 300)] e fun P Q=>ab .add (nx a 0) P fun R=>ab .add (nx a 1) (i_ 1) fun S=>eC [x0] (t [R,S] Q))) (bu x0 fun T=>ab .gtr T (i_ 40) fun q=>aB (fun r=>au q false (ab .gtr (nx a 0) (i_ 1500) fun U=>r [ff,U] b) (r [(aQ false q),un] b)) fun s V=>aH (nx s 0) tt (nx s 1) fun W=>K W V)
theorem V24(x0:AV):Body p_ 24 [x0] (W24 x0):=mkB Tryz.func24 (sn (sn (.seq (sn (.one (.loop [0] [3,4] (.seq (.seq (.bz (oR 0 5 (.bj 4 true (fR 5 2) [0,3,4] [9,11]::.op 7 false::[]))) .nil) (.seq (.one (.seq (.seq (.bz (oR 0 8 (.bj 7 false (fR 8 8) [0,3,4] [22,30]::oR 16 2 (.bj 17 false (fR 18 8) [0,3,4] [32,40]::.op 26 false::[])))) .nil) .nil)) .nil))))) (.seq (.bz (oR 0 4 (.bj 3 false (fR 4 2) [] [54,56]::oR 6 2 []))) .nil)))) 58 [.tmp 2] (by kernel_rfl) fun _ _=>by kernel_rfl
def X1(x0:AV)(h:aa)(K:AV→aa→Prop):Prop:=
 ab .geq x0 (i_ 0) fun a=>aB (fun b=>au a true (ab .leq x0 (i_ 1000000) fun d=>b [tt,d] h) (b [(aQ true a),un] h)) fun c e=>aH (nx c 0) (nx c 1) ff fun f=>K f e
theorem ad7(x0:AV):Body p_ 136 [x0] (X1 x0):=mkB Tryz.func136 (sn (.seq (.bz (oR 0 3 (.bj 2 true (fR 3 2) [] [5,7]::oR 5 2 []))) .nil)) 9 [.tmp 2] (by kernel_rfl) fun _ _=>by kernel_rfl
def X0(x0:AV)(h:aa)(K:AV→aa→Prop):Prop:=
 br 46 x0 h fun a b=>iFL 2 false 1 a b fun m=>ab .eql m (.str []) fun n=>ae n (K tt b) (iFL 2 false 1 a b fun o=>iFL 0 false 1 a b fun p=>ab .eql o p fun q=>ae q (K ff b) (iFL 2 false 1 a b fun r=>iC p_ 167 [r] b fun g s=>aK 0 g fun c=>aK 1 g fun f=>bJ [(i_ 0)] s fun t d i =>
 ab .eql f (i_ 0) fun j=>aB (fun k=>au j true (bu c fun u=>ab .lss (nx d 0) u fun v=>eC [a,c,f,(nx d 0)] (k [tt,v] i)) (eC [a,c,f,(nx d 0)] (k [(aQ true j),un] i))) fun l e=>aH (nx l 0) (nx l 1) ff fun w=>ae w (aG 1 c (nx d 0) fun x=>ag false 1 x e fun y=>iFL 0 false 1 a e fun z=>ab .eql y z fun A=>ae A (K tt e) (ab .add (nx d 0) (i_ 1) fun B=>eC [a,c,f] (t [B] e))) (K ff e)))
theorem ad6(x0:AV):Body p_ 135 [x0] (X0 x0):=mkB Tryz.func135 (sn (sn (sn (sn (.seq (sn (.one (.loop [1,3,4] [5] (.seq (.seq (.bz (oR 0 3 (.bj 2 true (fR 3 4) [1,3,4,5] [22,26]::.op 7 false::[]))) .nil) (.seq (.one (.seq (.draw 7 (oR 0 7 []) [] []) .nil)) .nil))))) .nil))))) 37 [.tmp 2] (by kernel_rfl) fun _ _=>by kernel_rfl
end
section
open Go Go.Aw
variable{k:Nat}{K:AV→aa→Prop}
abbrev aD:=List UInt8
abbrev Pr:=aD×Bool×List AV
def Jl(r:List AV):Pr:=match r with|.str s:: .v (.bool b):: r=>(s,b,r)|_=>([],false,[])
def uE(p:Pr):List AV:=.str p.1:: b_ p.2.1:: p.2.2
def AD:List Pr:=lW.map Jl
def Gh:List Pr:=xH.map Jl
theorem LI:lW=AD.map uE:=rfl
theorem LJ:xH=Gh.map uE:=rfl
def nm:List (aD×Bool):=Gh.map fun p=>(p.1,p.2.1)
theorem ae8:AD.map (fun p=>(p.1,p.2.1))=nm:=rfl
theorem zT:AD.length=18:=rfl
theorem zU:Gh.length=18:=rfl
theorem aae:nm.length=18:=rfl
theorem VA:∀p∈AD,(uE p).length=12∧(uE p).all dH=true:=by
 have:(AD.all fun p=>Nat.beq (uE p).length 12&&(uE p).all dH)=true:=rfl;intro p hp;have:=By.1 this p hp;rw[On]at this;exact⟨nE this.1,this.2⟩
def sR(s:aD):List (aD×Bool)→Nat→Option Nat
 | [],_=>none
 | p:: l,k=>if p.1=s then some k else sR s l (k+1)
theorem CF{s:aD}{l:List (aD×Bool)}{p:aD×Bool}(h:l[k]?=some p)(n:Nat):sR s (l.drop k) n=if p.1=s then some n else sR s (l.drop (k+1)) (n+1):=by
 have hk:=(gE.1 h).1;rw[acO hk,sR,(gE.1 h).2]
theorem CG{s:aD}:∀(l:List (aD×Bool)) (k n:Nat),sR s l k=some n→k≤n∧n<k+l.length
 | [],k,n,h=>by cases h
 | p:: l,k,n,h=>by
   rw[sR]at h;rw[aah];split at h
   ·cases h;omega
   ·have:=CG l (k+1) n h;omega
def jN(s:aD):Option Nat:=sR s nm 0
theorem PW{p:Pr}(h:Gh[k]?=some p):nm[k]?=some (p.1,p.2.1):=by unfold nm;rw[lE,h];rfl
theorem PV{p:Pr}(h:AD[k]?=some p):nm[k]?=some (p.1,p.2.1):=by rw[←ae8,lE,h];rfl
def rP(s:aD):AV:=match jN s with|some n=>.aF [i_ n,i_ 0]|none=>.aF [i_ 0,i_ 6]
theorem Ot(s:aD):aP p_ 180 [.str s] (rP s):=by
 refine (aet _).gives (by simp) (by unfold rP;split<;>simp) ?_;unfold Yn;refine zzS (by kernel_rfl) oC (aU (α:=Nat) (fun k=>k≤18∧jN s=sR s (nm.drop k) k) (fun k=>[i_ k]) (fun _=>[]) (fun k=>18-k) 0 (by simp[jN]) (Wk.refl _ _ _ (by simp)) ?_);rintro k ⟨hk,hf⟩;refine zzk (n:=18) rfl fun _=>?_;refine zzC ?_;rcases AT k 18 with q|q
 ·obtain⟨p,hp⟩:∃p,Gh[k]?=some p:=⟨Gh[k]'(by rw[zU];exact q),dO (by rw[zU];exact q)⟩;have e:=CF (s:=s) (PW hp) k;refine zzL (by simp;omega) (zzg LJ rfl hp (zzX (zzW (zzI ?_))));refine fQ rfl (fun hc=>?_) (fun hc=>?_)
  ·refine .pure (by simp) ?_;rw[if_pos (by simpa using hc)]at e;unfold rP;rw[hf,e];rfl
  ·refine zzP (by unfold aN;omega) (af ?_);rw[if_neg (by simpa using hc)]at e;exact⟨k+1,⟨by omega,by rw[hf,e]⟩,Wk.refl _ _ _ (by simp),by omega⟩
 ·obtain rfl:k=18:=by omega
  refine zzK (by simp) (.pure (by simp) ?_);unfold rP;rw[hf];rfl
theorem Jn(p:Pr)(hp:(uE p).all dH=true)(s:aD)(k:K (b_ (decide (p.1=s))) [.aC ⟨9,[.str s],true⟩]):
 eJ p_ (.fn (.func 114) [] [.op 0 0]) [.agg (uE p)] [.aC ⟨9,[.str s],true⟩] K:=by
 refine⟨by kernel_rfl, ?_⟩;simp only[List.nil_append,acU];refine (adX _ _).kb ?_;unfold XR;refine dr hp (zzA (zzU rfl rfl (zzU rfl rfl (zzI ?_))));exact⟨_,_,Wk.back (n:=1) (M:=1) (by simp) (by simp) rfl rfl (by simp[gr,gU,Bd]) (by simp[Bd]),k⟩
theorem NG(s:aD)(kk:K (i_ (match jN s with|some n=>(n:Int)|none=>-1)) [.aC ⟨9,[.str s],true⟩]):
 eJ p_ (.fn (.func 113) [] []) [.sl 12 lW,.fn (.func 114) [] [.op 0 0]] [.aC ⟨9,[.str s],true⟩] K:=by
 refine⟨by kernel_rfl, ?_⟩;simp only[List.nil_append,aa1];refine (adW _ _).kb ?_;unfold XQ;refine zzk (n:=18) rfl fun _=>?_;refine aU (α:=Nat) (fun k=>k≤18∧jN s=sR s (nm.drop k) k) (fun k=>[i_ k]) (fun _=>[.aC ⟨9,[.str s],true⟩]) (fun k=>18-k) 0 (by simp[jN]) (Wk.refl _ _ _ (by simp)) ?_;rintro k ⟨hk,hf⟩;refine zzC ?_;rcases AT k 18 with q|q
 ·obtain⟨p,hp⟩:∃p,AD[k]?=some p:=⟨AD[k]'(by rw[zT];exact q),dO (by rw[zT];exact q)⟩;have e:=CF (s:=s) (PV hp) k;obtain⟨o1,o2⟩:=VA p (gO hp);refine zzL (by simp;omega) (zzg LI rfl hp (zzY o1 (Jn p o2 s ?_)));refine fQ rfl (fun hc=>?_) (fun hc=>?_)
  ·rw[if_pos (by simpa using hc)]at e;refine⟨_,_,Wk.refl _ _ _ (by simp), ?_⟩;rw[hf,e]at kk;exact kk
  ·refine zzP (by unfold aN;omega) (af ?_);rw[if_neg (by simpa using hc)]at e;exact⟨k+1,⟨by omega,by rw[hf,e]⟩,Wk.refl _ _ _ (by simp),by omega⟩
 ·obtain rfl:k=18:=by omega
  refine zzK (by simp) ?_;refine⟨_,_,Wk.refl _ _ _ (by simp), ?_⟩;rw[hf]at kk;exact kk
theorem HM(s:aD):aP p_ 74 [.str s] (rP s):=by
 refine (V74 _).gives (by simp) (by unfold rP;split<;>simp) ?_;unfold W74;refine dr (by simp) (zzS (by kernel_rfl) lz (NG s ?_));unfold rP;cases jN s with
 | none =>
   refine zzC (zzL rfl ?_);exact .pure (by simp) rfl
 | some n =>
   refine zzC (zzK (by simp) ?_);exact .pure (by simp) rfl
/-! ### Custom names -/
def db(s:aD):Bool:=decide (2<s.length)&&decide (s.length≤64)&&decide (s.take 2=[45,45])
theorem TG{n:Nat}{x v:AV}{l:List UInt8}{K:AV→Prop}(ex:x=.str l)(ev:v=i_ (n:Int))(hn:n≤l.length)(q:K (.str (l.take n))):mw x none (some v) K:=by
 subst ex;subst ev;refine⟨⟨by omega,by omega,by omega⟩, ?_⟩;simpa using q
theorem Ml(s:aD):aP p_ 112 [.str s,.str [45,45]] (b_ (decide (s.take 2=[45,45]))):=by
 have h0:aP p_ 157 [.str s,.str [45,45]] (b_ (decide (s.take 2=[45,45]))):=by
  refine (aek _ _).gives (by simp) (by simp) ?_;unfold Ye;repeat' (first|(with_reducible apply ay)|((with_reducible apply iy);rfl;rfl)|((with_reducible apply fx);rfl;rfl)|((with_reducible apply aO);rfl)|((with_reducible apply aL);rfl)|((with_reducible apply nM);rfl;intro _)|(refine TG (n:=2) rfl rfl (by first|(simp at *;done)|(simp at *;omega)) ?_)|((with_reducible apply fi);rfl)|(with_reducible intro _))
  all_goals
   refine .pure (by simp) ?_;simp only[kE,nX,AV.v.injEq,Value.bool.injEq];all_goals (try grind)
 refine (adV _ _).gives (by simp) (by simp) ?_;unfold XP;refine zzS (by kernel_rfl) h0 ?_;exact .pure (by simp) rfl
theorem oB(s:aD):aP p_ 73 [.str s] (b_ (db s)):=by
 refine (V73 _).gives (by simp) (by simp) ?_;unfold W73;repeat' (first|(with_reducible first|apply ay|apply af)|((with_reducible first|apply jE|apply dF);rfl;rfl)|((with_reducible apply aO);rfl)|((with_reducible apply aL);rfl)|((with_reducible apply aX);rfl;first|rfl|assumption)|((with_reducible apply nM);rfl;intro _)|(refine aA (by kernel_rfl) (Ml s) ?_)|((with_reducible apply fi);rfl)|(with_reducible intro _))
 all_goals
  refine .pure (by simp) ?_;simp only[kE,nX,AV.v.injEq,Value.bool.injEq,db]
  grind
theorem lO(s:aD):aP p_ 11 [.str s] (b_ (db s)):=by
 refine (V11 _).gives (by simp) (by simp) ?_;unfold W11;repeat' (first|(with_reducible first|apply ay|apply af)|((with_reducible first|apply jE|apply dF);rfl;rfl)|((with_reducible apply fx);rfl;rfl)|((with_reducible apply aO);rfl)|((with_reducible apply aL);rfl)|((with_reducible apply aX);rfl;first|rfl|assumption)|((with_reducible apply nM);rfl;intro _)|(refine TG (n:=2) rfl rfl (by first|(simp at *;done)|(simp at *;omega)) ?_)|((with_reducible apply fi);rfl)|(with_reducible intro _))
 all_goals
  refine .pure (by simp) ?_;simp only[kE,nX,AV.v.injEq,Value.bool.injEq,db]
  grind
def lR(s:aD):AV:=if db s then .aF [tt,i_ 0] else match jN s with|some n=>.aF [b_ (nm.getD n ([],false)).2,i_ 0]|none=>.aF [ff,i_ 6]
theorem FY(s:aD):Aw.Pure (lR s):=by unfold lR;split<;>(try split)<;>simp
theorem A6{s:aD}{n:Nat}(h:jN s=some n):n<18:=by
 have:=CG nm 0 n h;rw[aae]at this;omega
theorem po(s:aD):aP p_ 38 [.str s] (lR s):=by
 refine (V38 _).gives (by simp) (FY s) ?_;unfold W38;have hF:=HM s;refine zzS (by kernel_rfl) (oB s) ?_
 by_cases hc:db s=true
 ·refine zzL hc ?_;exact .pure (by simp) (by rw[lR,if_pos hc])
 ·refine zzK (by simpa using hc) ?_;rw[lR,if_neg hc];unfold rP at hF;cases hf:jN s with
  | none =>
    rw[hf]at hF;repeat' (first|((with_reducible apply cZ);rfl;rfl)|((with_reducible apply ao);rfl;first|rfl|assumption)|((with_reducible apply bl);rfl;rfl)|(refine aA (by kernel_rfl) (hF) ?_))
    exact .pure (by simp) rfl
  | some n =>
    rw[hf]at hF;have hn:=A6 hf;obtain⟨p,hp⟩:∃p,AD[n]?=some p:=⟨AD[n]'(by rw[zT];exact hn),dO (by rw[zT];exact hn)⟩;have e:=PV hp;repeat' (first|((with_reducible apply cZ);rfl;rfl)|((with_reducible apply ah);rfl;first|rfl|assumption)|((with_reducible apply dX);rfl)|((with_reducible apply de);rfl)|((with_reducible apply bl);rfl;rfl)|(refine aA (by kernel_rfl) (hF) ?_)|(refine aA (by kernel_rfl) (lz) ?_)|(refine zzg LI rfl hp ?_))
    refine .pure (by simp) ?_;simp only[oF,e];rfl
theorem vG(s:aD):aP p_ 134 [.str s] (lR s):=by
 refine (ad5 _).gives (by simp) (FY s) ?_;unfold XZ;have hF:=Ot s;refine zzS (by kernel_rfl) (lO s) ?_
 by_cases hc:db s=true
 ·refine zzL hc ?_;exact .pure (by simp) (by rw[lR,if_pos hc])
 ·refine zzK (by simpa using hc) ?_;rw[lR,if_neg hc];unfold rP at hF;cases hf:jN s with
  | none =>
    rw[hf]at hF;repeat' (first|((with_reducible apply cZ);rfl;rfl)|((with_reducible apply ao);rfl;first|rfl|assumption)|((with_reducible apply bl);rfl;rfl)|(refine aA (by kernel_rfl) (hF) ?_))
    exact .pure (by simp) rfl
  | some n =>
    rw[hf]at hF;have hn:=A6 hf;obtain⟨p,hp⟩:∃p,Gh[n]?=some p:=⟨Gh[n]'(by rw[zU];exact hn),dO (by rw[zU];exact hn)⟩;have e:=PW hp;repeat' (first|((with_reducible apply cZ);rfl;rfl)|((with_reducible apply ah);rfl;first|rfl|assumption)|((with_reducible apply dX);rfl)|((with_reducible apply de);rfl)|((with_reducible apply bl);rfl;rfl)|(refine aA (by kernel_rfl) (hF) ?_)|(refine aA (by kernel_rfl) (oC) ?_)|(refine zzg LJ rfl hp ?_))
    refine .pure (by simp) ?_;simp only[oF,e];rfl
/-! ### Lists of names -/
def fa(l:List aD):List (List AV):=l.map fun s=>[.str s]
theorem kj:∀l,du (fa l)
 | []=>by simp[fa,du]
 | s:: l=>by have:=kj l;unfold fa at this ⊢;simp only[IF,du];exact⟨by simp,this⟩
def nC(v:aD):List aD→Nat→Int
 | [],_=>-1
 | s:: l,k=>if v=s then k else nC v l (k+1)
theorem Pf{v s:aD}{l:List aD}(h:l[k]?=some s)(n:Nat):nC v (l.drop k) n=if v=s then (n:Int) else nC v (l.drop (k+1)) (n+1):=by
 have hk:=(gE.1 h).1;rw[acO hk,nC,(gE.1 h).2]
theorem Ba(v:aD):∀(l:List aD) (k:Nat),(0≤nC v l k↔v∈l)
 | [],k=>by simp[nC]
 | s:: l,k=>by
   rw[nC];split
   ·rename_i h;subst h;simp
   ·rename_i h;rw[Ba v l (k+1)];simp[h]
theorem Cq(l:List aD)(v:aD)(hl:l.length<2^40):aP p_ 104 [.sl 1 (fa l),.str v] (i_ (nC v l 0)):=by
 refine (adN _ _).gives (by simp[kj]) (by simp) ?_;unfold XH;refine zzk (n:=l.length) (by simp[fa]) fun _=>?_;refine aU (α:=Nat) (fun k=>k≤l.length∧nC v l 0=nC v (l.drop k) k) (fun k=>[i_ k]) (fun _=>[]) (fun k=>l.length-k) 0 (by simp) (Wk.refl _ _ _ (by simp)) ?_;rintro k ⟨hk,hf⟩;refine zzC ?_;rcases AT k l.length with q|q
 ·obtain⟨s,hs⟩:∃x,l[k]?=some x:=⟨l[k],dO q⟩;have e:=Pf (v:=v) hs k;refine zzL (by simpa using q) (zzg (f:=fun s=>[.str s]) rfl rfl hs (zzW (zzI ?_)));refine fQ rfl (fun hc=>?_) (fun hc=>?_)
  ·rw[if_pos (by simpa using hc)]at e;exact .pure (by simp) (by rw[hf,e];rfl)
  ·rw[if_neg (by simpa using hc)]at e;refine zzP (by unfold aN;omega) (af ?_);exact⟨k+1,⟨q,by rw[hf,e]⟩,Wk.refl _ _ _ (by simp),by omega⟩
 ·have hk:k=l.length:=by omega
  subst hk;rw[List.drop_length]at hf;refine zzK (by simp) ?_;exact .pure (by simp) (by rw[hf];rfl)
theorem mv(l:List aD)(v:aD)(hl:l.length<2^40):aP p_ 64 [.sl 1 (fa l),.str v] (b_ (decide (v∈l))):=by
 refine (V64 _ _).gives (by simp[kj]) (by simp) ?_;unfold W64;refine zzS (by kernel_rfl) (Cq l v hl) (zzF (.pure (by simp) ?_));have:=Ba v l 0;simp[this]
def mA:aD:=[109,97,114,103,105,110]
def vE:aD:=[98,111,114,100,101,114]
def ua:aD:=[111,117,116,108,105,110,101]
def Cc:aD:=[98,97,99,107,103,114,111,117,110,100]
def Jh:List aD:=[[116,111,112],[114,105,103,104,116],[98,111,116,116,111,109],[108,101,102,116]]
def dA(s:aD):List aD:=if s=mA then Jh.map fun x=>mA++[45]++x else if s=vE∨s=ua∨s=Cc then [s++[45,99,111,108,111,114]] else []
def tY(s:aD):AV:=if dA s=[] then .v (.slice none 0 0) else .sl 1 (fa (dA s))
theorem I0(s:aD):Aw.Pure (tY s):=by unfold tY;split<;>simp[kj]
theorem Oi:aP p_ 192 [] (.sl 1 (fa [mA,vE,ua,Cc])):=by
 refine (aeA).gives (by simp) (by simp[kj]) ?_;unfold Yu;refine cN rfl ?_;exact .pure (by simp[chunks,dw,iq]) rfl
theorem HP(s:aD)(hs:s.length<2^40):aP p_ 154 [.str s] (tY s):=by
 refine (aeh _).gives (by simp) (I0 s) ?_;unfold Yb;refine zzS (by kernel_rfl) Oi (zzS (by kernel_rfl) (mv [mA,vE,ua,Cc] s (by simp)) (zzO ?_))
 by_cases hm:s=mA
 ·refine zzK (by simp[hm]) (zzJ (zzK (by simp[hm,mA]) (cN rfl ?_)));refine zzk rfl fun _=>?_;subst hm;refine aU (α:=Nat) (fun k=>k≤4) (fun k=>[.sb 0 1 (fa ((dA mA).take k)),i_ k]) (fun k=>[.tok 9 1 k]) (fun k=>4-k) 0 (by simp) ?_ ?_
  ·have a:=Wk.nil (n:=0) (s:=[.v (.slice none 0 0),i_ 0]) (h:=[]) (by simp) 0 rfl;have b:=Wk.tok (n:=0) (s:=[.emp,i_ 0]) (h:=[]) (by simp) 0 9 1 rfl;exact a.trans b
  ·intro k hk;obtain rfl|rfl|rfl|rfl|rfl:k=0∨k=1∨k=2∨k=3∨k=4:=by omega
   iterate 4
    ·refine zzC (zzL rfl (zD rfl rfl (by decide) (zzW (zzc (by unfold maxLen;decide) (zzc (by unfold maxLen;decide) (cN rfl (kP (h':=[_]) rfl rfl rfl fw rfl (by unfold dU maxLen;decide) rfl (zzP (by unfold aN;omega) (af ?_)))))))));exact⟨_,by decide,Wk.refl _ _ _ (by simp),by decide⟩
   ·refine zzC (zzK rfl (fg.of ?_));show _=_;rfl
 ·by_cases hb:s=vE∨s=ua∨s=Cc
  ·refine zzK (by rcases hb with h|h|h<;>simp[h]) (zzJ (zzL (by simpa[mA]using hm) (zzc (by unfold maxLen;simp;omega) (cN (cs:=[.str (s++[45,99,111,108,111,114])]) rfl (.pure (by simp[chunks]) ?_)))));unfold tY dA;rw[if_neg hm,if_pos hb];simp[fa,chunks]
  ·refine zzL (by simp[not_or]at hb;simp[hm,hb]) (.pure (by simp) ?_);unfold tY dA;rw[if_neg hm,if_neg hb];simp
theorem Mq(s:aD)(hs:s.length<2^40):aP p_ 168 [.str s] (tY s):=by
 refine (aes _).gives (by simp) (I0 s) ?_;unfold Ym;have hin:s.length+6≤maxLen:=by unfold maxLen;omega
 repeat' (first|(with_reducible first|apply ay|apply af)|((with_reducible apply fx);rfl;rfl)|((with_reducible apply ao);rfl;first|rfl|assumption)|(refine cN rfl ?_)|(refine zzc hin ?_)|((with_reducible apply fQ);rfl)|(with_reducible intro _))
 all_goals
  refine .pure (by simp[chunks,dw,iq]) ?_;unfold tY dA;simp only[OF,decide_eq_false_iff_not]at *
  simp_all [mA,vE,ua,Cc,fa,chunks,dw,iq,Jh]
end
section
open Go Go.Aw
variable [Laid]
def W40(x0:AV)(h:aa)(K:AV→aa→Prop):Prop:=
 iC p_ 79 [x0,(u8 0)] h fun c d=>br 136 (.agg [(i_ 0),(i_ 0),ff]) d fun b e=>aE 3 b c e fun a=>iFL 0 false 1 b a fun f=>ab .gtr f (i_ 16) fun g=>ae g (K (i_ 20) a) (iFL 1 false 1 b a fun i=>ab .gtr i (i_ 1500) fun j=>ae j (K (i_ 4) a) (iFL 2 false 1 b a fun k=>ae k (K (i_ 8) a) (K (i_ 0) a)))
theorem V40(x0:AV):Body p_ 40 [x0] (W40 x0):=mkB Tryz.func40 .nil 17 [.tmp 2] (by kernel_rfl) fun _ _=>by kernel_rfl
def XS(x0:AV)(h:aa)(K:AV→aa→Prop):Prop:=
 ab .eql x0 (u8 2) fun c=>ae c (K (u8 22) h) (aB (fun a=>ab .eql x0 (u8 19) fun d=>ae d (eC [x0] (a [tt] h)) (ab .eql x0 (u8 21) fun e=>ae e (eC [x0] (a [tt] h)) (ab .eql x0 (u8 23) fun f=>eC [x0] (a [f] h)))) fun g b=>ae (nx g 0) (ab .add x0 (u8 1) fun i=>K i b) (K (u8 0) b))
theorem adY(x0:AV):Body p_ 116 [x0] (XS x0):=mkB Tryz.func116 (sn (.seq (sn (.one (sn (.two .nil (.join [0] [6] .nil .nil))))) .nil)) 12 [.tmp 2] (by kernel_rfl) fun _ _=>by kernel_rfl
def W79(x0 x1:AV)(h:aa)(K:AV→aa→Prop):Prop:=
 br 136 (.agg [(i_ 0),(i_ 0),ff]) h fun b L=>br 136 (.agg [(i_ 0),(i_ 0),ff]) L fun a M=>bu x0 fun d=>bJ [(i_ 0)] M fun N c j =>
 ab .lss (nx c 0) d fun O=>ae O (aB (fun q=>aG 6 x0 (nx c 0) fun P=>ag true 6 P j fun Q=>br 100 (.agg [(u8 0),(.str []),(i_ 0),(.str []),ff,nS]) j fun e R=>aE 6 e Q R fun r=>iFL 1 false 1 a r fun S=>ab .add S (i_ 1) fun T=>bh 1 a fun U=>aE 1 U T r fun s=>bh 0 e fun V=>iFL 0 false 1 V s fun W=>iC p_ 116 [W] s fun f l=>aB (fun t=>ab .neq x1 (u8 0) fun u=>aB (fun v=>au u true (bh 0 e fun X=>iFL 0 false 1 X l fun Y=>ab .eql Y x1 fun Z=>eC [x1,b,a,e,f,x0,d,(nx c 0)] (v [tt,Z] l)) (eC [x1,b,a,e,f,x0,d,(nx c 0)] (v [(aQ true u),un] l))) fun w x=>aH (nx w 0) (nx w 1) ff fun y=>aB (fun z=>au y false (ab .eql f (u8 0) fun a0=>eC [x1,b,a,e,f,x0,d,(nx c 0)] (z [ff,a0] x)) (eC [x1,b,a,e,f,x0,d,(nx c 0)] (z [(aQ false y),un] x))) fun i m=>aB (fun A=>au (nx i 1) true (iFL 5 false 1 e m fun a1=>bu a1 fun a2=>ab .gtr a2 (i_ 0) fun a3=>eC [x1,b,a,e,f,x0,d,(nx c 0),(nx i 0)] (A [tt,a3] m)) (eC [x1,b,a,e,f,x0,d,(nx c 0),(nx i 0)] (A [(aQ true (nx i 1)),un] m))) fun B C=>aB (fun D=>au (nx i 0) false (aH (nx B 0) (nx B 1) ff fun a4=>eC [x1,b,a,e,f,x0,d,(nx c 0)] (D [ff,a4] C)) (eC [x1,b,a,e,f,x0,d,(nx c 0)] (D [(aQ false (nx i 0)),un] C))) fun E F=>aH (nx E 0) tt (nx E 1) fun a5=>ae a5 (bh 2 a fun a6=>aE 1 a6 tt F fun a7=>eC [x1,b,a,e,f,x0,d,(nx c 0)] (t [] a7)) (eC [x1,b,a,e,f,x0,d,(nx c 0)] (t [] F))) fun c7 n=>ab .eql f (u8 0) fun a8=>ae a8 (eC [x1,b,a,x0,d,(nx c 0)] (q [] n)) (iFL 5 false 1 e n fun a9=>iC p_ 79 [a9,f] n fun b0 b1=>br 136 (.agg [(i_ 0),(i_ 0),ff]) b1 fun k b2=>aE 3 k b0 b2 fun g=>iFL 0 false 1 a g fun b3=>iFL 0 false 1 k g fun b4=>ab .add b4 (i_ 1) fun b5=>iY b3 b5 fun o=>iFL 1 false 1 a g fun b6=>iFL 1 false 1 k g fun b7=>ab .add b6 b7 fun b8=>ab .add b8 (i_ 1) fun p=>iFL 2 false 1 a g fun G=>aB (fun H=>au G false (iFL 2 false 1 k g fun b9=>eC [x1,b,a,x0,d,(nx c 0),o,p] (H [ff,b9] g)) (eC [x1,b,a,x0,d,(nx c 0),o,p] (H [(aQ false G),un] g))) fun I c0=>aH (nx I 0) tt (nx I 1) fun c1=>aY (.agg [(i_ 0),(i_ 0),ff]) [(0,1,o),(1,1,p),(2,1,c1)] fun c2=>aE 3 a c2 c0 fun c3=>eC [x1,b,a,x0,d,(nx c 0)] (q [] c3))) fun c8 c4=>ab .add (nx c 0) (i_ 1) fun c5=>eC [x1,b,a,x0,d] (N [c5] c4)) (ag true 3 a j fun c6=>aE 3 b c6 j fun J=>ag true 3 b J fun r91=>K r91 J)
theorem V79(x0 x1:AV):Body p_ 79 [x0,x1] (W79 x0 x1):=mkB Tryz.func79 (sn (sn (.seq (sn (.one (.loop [1,4,5,10,11] [12] (sn (sn (.join [1,4,5,10,11,12] [] (.one (sn (sn (sn (.join [1,4,5,7,8,10,11,12] [] (.seq (.bz (oR 0 3 (.bj 2 true (fR 3 5) [1,4,5,7,8,10,11,12] [26,31]::oR 8 2 (.bj 9 false (fR 10 3) [1,4,5,7,8,10,11,12] [33,36]::.bj 12 true (fR 13 4) [1,4,5,7,8,10,11,12,33] [36,40]::.bj 9 false [(17,false)] [1,4,5,7,8,10,11,12] [33,41]::.op 18 false::[])))) .nil) (sn (sn (.bz (oR 0 15 (.bj 14 false (fR 15 2) [1,4,5,10,11,12,55,61] [64,66]::oR 17 3 [])))))))))) .nil)))))) .nil))) 71 [.cell 4 136] (by kernel_rfl) fun _ _=>by kernel_rfl
def W67(x0:AV)(h:aa)(K:AV→aa→Prop):Prop:=
 iC p_ 91 [x0] h fun d a=>ab .gtr d (i_ 16) fun e=>ae e (K (i_ 20) a) (iC p_ 106 [x0] a fun f b=>bu f fun g=>ab .gtr g (i_ 1500) fun i=>ae i (K (i_ 4) b) (iC p_ 107 [x0,(u8 0)] b fun j c=>fe j fun k=>ae k (K (i_ 8) c) (K (i_ 0) c)))
theorem V67(x0:AV):Body p_ 67 [x0] (W67 x0):=mkB Tryz.func67 .nil 13 [.tmp 2] (by kernel_rfl) fun _ _=>by kernel_rfl
def XY(x0:AV)(h:aa)(K:AV→aa→Prop):Prop:=
 ab .eql x0 (u8 19) fun c=>ae c (K (u8 20) h) (aB (fun b=>ab .eql x0 (u8 21) fun d=>ae d (eC [x0] (b [tt] h)) (ab .eql x0 (u8 2) fun e=>eC [x0] (b [e] h))) fun f a=>ae (nx f 0) (K (u8 22) a) (ab .eql x0 (u8 23) fun g=>ae g (K (u8 24) a) (K (u8 0) a)))
theorem ad4(x0:AV):Body p_ 133 [x0] (XY x0):=mkB Tryz.func133 (sn (.seq (sn (.one (sn (.two .nil (.join [3] [6] .nil .nil))))) .nil)) 11 [.tmp 2] (by kernel_rfl) fun _ _=>by kernel_rfl
def W91(x0:AV)(h:aa)(K:AV→aa→Prop):Prop:=
 bJ [(i_ 0),(i_ 0)] h fun e a b =>
 bu x0 fun f=>ab .lss (nx a 1) f fun g=>ae g (aB (fun d=>aG 6 x0 (nx a 1) fun i=>bh 0 i fun j=>iFL 0 false 1 j b fun k=>iC p_ 133 [k] b fun l c=>ab .neq l (u8 0) fun m=>ae m (aG 6 x0 (nx a 1) fun n=>iFL 5 false 1 n c fun o=>iC p_ 91 [o] c fun p q=>ab .add (i_ 1) p fun r=>iY (nx a 0) r fun s=>eC [x0,(nx a 1)] (d [s] q)) (eC [x0,(nx a 1)] (d [(nx a 0)] c))) fun t u=>ab .add (nx a 1) (i_ 1) fun v=>eC [x0] (e [(nx t 0),v] u)) (K (nx a 0) b)
theorem V91(x0:AV):Body p_ 91 [x0] (W91 x0):=mkB Tryz.func91 (sn (sn (.seq (sn (.one (.loop [0] [3,4] (sn (.join [0,4] [3] .nil .nil))))) .nil))) 29 [.tmp 2] (by kernel_rfl) fun _ _=>by kernel_rfl
def W47(x0:AV)(h:aa)(K:AV→aa→Prop):Prop:=
 iC p_ 48 [x0,(i_ 300)] h fun e a=>ab .gtr e (i_ 300) fun b=>aB (fun c=>au b false (iC p_ 91 [x0] a fun f g=>ab .gtr f (i_ 40) fun i=>c [ff,i] g) (c [(aQ false b),un] a)) fun d j=>aH (nx d 0) tt (nx d 1) fun k=>K k j
theorem V47(x0:AV):Body p_ 47 [x0] (W47 x0):=mkB Tryz.func47 (sn (.seq (.bz (oR 0 4 (.bj 3 false (fR 4 3) [] [6,9]::oR 7 2 []))) .nil)) 11 [.tmp 2] (by kernel_rfl) fun _ _=>by kernel_rfl
def W48(x0 x1:AV)(h:aa)(K:AV→aa→Prop):Prop:=
 bJ [(i_ 0),(i_ 0)] h fun g a c =>
 bu x0 fun i=>ab .lss (nx a 1) i fun d=>aB (fun e=>au d true (ab .leq (nx a 0) x1 fun j=>eC [x0,x1,(nx a 0),(nx a 1)] (e [tt,j] c)) (eC [x0,x1,(nx a 0),(nx a 1)] (e [(aQ true d),un] c))) fun f b=>aH (nx f 0) (nx f 1) ff fun k=>ae k (aG 6 x0 (nx a 1) fun l=>bh 0 l fun m=>iFL 1 false 1 m b fun n=>ni n fun o=>ab .add (i_ 1) o fun p=>aG 6 x0 (nx a 1) fun q=>bh 0 q fun r=>iFL 3 false 1 r b fun s=>ni s fun t=>ab .add p t fun u=>aG 6 x0 (nx a 1) fun v=>iFL 5 false 1 v b fun w=>ab .sub x1 (nx a 0) fun x=>iQ p_ 48 [w,x] b fun y=>ab .add u y fun z=>ab .add (nx a 0) z fun A=>ab .add (nx a 1) (i_ 1) fun B=>eC [x0,x1] (g [A,B] b)) (K (nx a 0) b)
theorem V48(x0 x1:AV):Body p_ 48 [x0,x1] (W48 x0 x1):=mkB Tryz.func48 (sn (sn (.seq (sn (.one (.loop [0,1] [5,6] (.seq (.seq (.bz (oR 0 5 (.bj 4 true (fR 5 3) [0,1,5,6] [11,14]::.op 8 false::[]))) .nil) (.seq (.one (.draw 29 (oR 0 29 []) [] [])) .nil))))) .nil))) 47 [.tmp 4] (by kernel_rfl) fun _ _=>by kernel_rfl
def XJ(x0:AV)(h:aa)(K:AV→aa→Prop):Prop:=
 bJ [nS,(i_ 0)] h fun i a b =>
 bu x0 fun j=>ab .lss (nx a 1) j fun k=>ae k (aB (fun d=>aG 6 x0 (nx a 1) fun l=>iFL 0 true 5 l b fun m=>jP 98 1 5 (.agg [(u8 0),(.str []),(i_ 0),(.str []),ff]) [(0,5,m)] b fun n o=>eE false 98 5 56 (nx a 0) n o fun e f=>aG 6 x0 (nx a 1) fun p=>bh 0 p fun q=>iFL 0 false 1 q f fun r=>iC p_ 133 [r] f fun g c=>ab .neq g (u8 0) fun s=>ae s (aG 6 x0 (nx a 1) fun t=>iFL 5 false 1 t c fun u=>iC p_ 106 [u] c fun v w=>eE false 98 5 56 e v w fun x y=>aY (.agg [(u8 0),(.str []),(i_ 0),(.str []),ff]) [(0,1,g)] fun z=>jP 98 1 5 (.agg [(u8 0),(.str []),(i_ 0),(.str []),ff]) [(0,5,z)] y fun A B=>eE false 98 5 56 x A B fun C D=>eC [x0,(nx a 1)] (d [C] D)) (eC [x0,(nx a 1)] (d [e] c))) fun E F=>ab .add (nx a 1) (i_ 1) fun G=>eC [x0] (i [(nx E 0),G] F)) (K (nx a 0) b)
theorem adP(x0:AV):Body p_ 106 [x0] (XJ x0):=mkB Tryz.func106 (sn (sn (.seq (sn (.one (.loop [0] [3,4] (sn (.join [0,4] [3] .nil .nil))))) .nil))) 43 [.tmp 2] (by kernel_rfl) fun _ _=>by kernel_rfl
def XK(x0 x1:AV)(h:aa)(K:AV→aa→Prop):Prop:=
 bJ [(i_ 0)] h fun D a e =>
 bu x0 fun E=>ab .lss (nx a 0) E fun F=>ae F (aG 6 x0 (nx a 0) fun G=>bh 0 G fun H=>iFL 0 false 1 H e fun I=>iC p_ 133 [I] e fun b f=>ab .eql b (u8 0) fun j=>aB (fun k=>au j true (aG 6 x0 (nx a 0) fun J=>iFL 5 false 1 J f fun L=>bu L fun M=>ab .gtr M (i_ 0) fun N=>eC [x0,x1,(nx a 0),b] (k [tt,N] f)) (eC [x0,x1,(nx a 0),b] (k [(aQ true j),un] f))) fun l m=>aH (nx l 0) (nx l 1) ff fun n=>aB (fun o=>au n false (ab .neq x1 (u8 0) fun O=>eC [x0,x1,(nx a 0),b] (o [ff,O] m)) (eC [x0,x1,(nx a 0),b] (o [(aQ false n),un] m))) fun c g=>aB (fun p=>au (nx c 1) true (aG 6 x0 (nx a 0) fun P=>bh 0 P fun Q=>iFL 0 false 1 Q g fun R=>ab .eql R x1 fun S=>eC [x0,x1,(nx a 0),b,(nx c 0)] (p [tt,S] g)) (eC [x0,x1,(nx a 0),b,(nx c 0)] (p [(aQ true (nx c 1)),un] g))) fun q r=>aB (fun s=>au (nx c 0) false (aH (nx q 0) (nx q 1) ff fun T=>eC [x0,x1,(nx a 0),b] (s [ff,T] r)) (eC [x0,x1,(nx a 0),b] (s [(aQ false (nx c 0)),un] r))) fun t u=>aH (nx t 0) tt (nx t 1) fun v=>aB (fun w=>au v false (ab .neq b (u8 0) fun U=>eC [x0,x1,(nx a 0),b] (w [ff,U] u)) (eC [x0,x1,(nx a 0),b] (w [(aQ false v),un] u))) fun d i=>aB (fun x=>au (nx d 1) true (aG 6 x0 (nx a 0) fun V=>iFL 5 false 1 V i fun W=>iC p_ 107 [W,b] i fun X Y=>fe X fun Z=>eC [x0,x1,(nx a 0),(nx d 0)] (x [tt,Z] Y)) (eC [x0,x1,(nx a 0),(nx d 0)] (x [(aQ true (nx d 1)),un] i))) fun y z=>aB (fun A=>au (nx d 0) false (aH (nx y 0) (nx y 1) ff fun a0=>eC [x0,x1,(nx a 0)] (A [ff,a0] z)) (eC [x0,x1,(nx a 0)] (A [(aQ false (nx d 0)),un] z))) fun B C=>aH (nx B 0) tt (nx B 1) fun a1=>ae a1 (K ff C) (ab .add (nx a 0) (i_ 1) fun a2=>eC [x0,x1] (D [a2] C))) (K tt e)
theorem adQ(x0 x1:AV):Body p_ 107 [x0,x1] (XK x0 x1):=mkB Tryz.func107 (sn (.seq (sn (.one (.loop [0,1] [5] (sn (.seq (.one (sn (.seq (.bz (oR 0 3 (.bj 2 true (fR 3 7) [0,1,5,6] [22,29]::oR 10 2 (.bj 11 false (fR 12 3) [0,1,5,6] [31,34]::.bj 14 true (fR 15 8) [0,1,5,6,31] [34,42]::.bj 11 false [(23,false)] [0,1,5,6] [31,43]::oR 24 2 (.bj 25 false (fR 26 3) [0,1,5,6] [45,48]::.bj 28 true (fR 29 8) [0,1,5,45] [48,56]::.bj 25 false [(37,false)] [0,1,5] [45,57]::.op 38 false::[]))))) .nil))) .nil))))) .nil)) 59 [.tmp 4] (by kernel_rfl) fun _ _=>by kernel_rfl
end
end Go.Proofs.YtldpambpnajgiaaGreatDoor
namespace Go.dz
section
open Go Go.Aw
abbrev aD:=List UInt8
inductive Vl where
 | mk (kind:Int) (text:aD) (num:Int) (unit:aD) (flag:Bool) (list:List Vl)
def Vl.kind:Vl→Int|.mk k _ _ _ _ _=>k
def Vl.text:Vl→aD|.mk _ t _ _ _ _=>t
def Vl.num:Vl→Int|.mk _ _ n _ _ _=>n
def Vl.unit:Vl→aD|.mk _ _ _ u _ _=>u
def Vl.flag:Vl→Bool|.mk _ _ _ _ f _=>f
def Vl.list:Vl→List Vl|.mk _ _ _ _ _ l=>l
abbrev u1(n:Int):AV:=.v (.int .u8 n)
mutual
def cQ:Vl→List AV
 | .mk k t n u f l=>[u1 k,.str t,i_ n,.str u,b_ f,.sl 6 (ar l)]
def ar:List Vl→List (List AV)
 | []=>[]
 | v:: l=>cQ v:: ar l
end
theorem aJ:∀l,ar l=l.map cQ
 | []=>by simp[ar]
 | p:: l=>by simp[ar,aJ l]
def pE(v:Vl):List AV:=[u1 v.kind,.str v.text,i_ v.num,.str v.unit,b_ v.flag]
theorem cK(v:Vl):cQ v=[u1 v.kind,.str v.text,i_ v.num,.str v.unit,b_ v.flag,.sl 6 (v.list.map cQ)]:=by
 cases v;simp[cQ,aJ,Vl.kind,Vl.text,Vl.num,Vl.unit,Vl.flag,Vl.list]
mutual
theorem zX:∀x:Vl,bf (cQ x)
 | .mk k t n u f l=>by simp[cQ,bf,Aw.Pure,dd l]
theorem dd:∀l:List Vl,du (ar l)
 | []=>by simp[ar,du]
 | v:: l=>by simp[ar,du,zX v,dd l]
end
def gY(k:Int):Int:=if k=2 then 22 else if k=19∨k=21∨k=23 then k+1 else 0
mutual
def zH:Vl→Nat
 | .mk k _ _ _ _ l=>if gY k=0 then 0 else gw l+1
def gw:List Vl→Nat
 | []=>0
 | v:: l=>max (zH v) (gw l)
end
mutual
def AR:Vl→Nat
 | .mk k _ _ _ _ l=>if gY k=0 then 1 else jc l+2
def jc:List Vl→Nat
 | []=>0
 | v:: l=>AR v+jc l
end
mutual
def L1(c:Int):Vl→Bool
 | .mk k _ _ _ _ l=>!decide (c=0)&&decide (k=c)||(if gY k=0 then !l.isEmpty else jb (gY k) l)
def jb(c:Int):List Vl→Bool
 | []=>false
 | v:: l=>L1 c v||jb c l
end
def pJ(k:Int)(t:aD)(n:Int)(u:aD)(f:Bool):List AV:=[u1 k,.str t,i_ n,.str u,b_ f]
mutual
def ta:Vl→List (List AV)
 | .mk k t n u f l=>pJ k t n u f:: (if gY k=0 then [] else gC l++[pJ (gY k) [] 0 [] false])
def gC:List Vl→List (List AV)
 | []=>[]
 | v:: l=>ta v++gC l
end
mutual
theorem QB:∀v,(ta v).length=AR v
 | .mk k t n u f l=>by
   rw[ta,AR];split
   ·rfl
   ·simp[qz l]
theorem qz:∀l,(gC l).length=jc l
 | []=>by simp[gC,jc]
 | v:: l=>by simp[gC,jc,QB v,qz l]
end
mutual
theorem NK:∀v,du (ta v)
 | .mk k t n u f l=>by
   rw[ta,du];refine⟨by simp[pJ,bf,Aw.Pure], ?_⟩;split
   ·simp[du]
   ·exact (ub _ _).2 ⟨ph l,by simp[du,bf,pJ,Aw.Pure]⟩
theorem ph:∀l,du (gC l)
 | []=>by simp[gC,du]
 | v:: l=>by rw[gC];exact (ub _ _).2 ⟨NK v,ph l⟩
theorem ub:∀a b:List (List AV),du (a++b)↔du a∧du b
 | [],b=>by simp[du]
 | x:: a,b=>by simp[du,ub a b,and_assoc]
end
mutual
theorem NL:∀v,(ta v).all (gh 5)=true
 | .mk k t n u f l=>by
   rw[ta];split
   ·simp[pJ,gh,dH]
   ·have:=vr l;rw[acG,List.all_append,this];simp[pJ,gh,dH]
theorem vr:∀l,(gC l).all (gh 5)=true
 | []=>by simp[gC]
 | v:: l=>by rw[gC,List.all_append,NL v,vr l];rfl
end
def dC(l:List Vl):Int:=if 16<gw l then 20 else if 1500<jc l then 4 else if jb 0 l then 8 else 0
/-! ### A size -/
mutual
def zV:Vl→Nat
 | .mk _ t _ u _ l=>1+t.length+u.length+aW l
def aW:List Vl→Nat
 | []=>0
 | v:: l=>zV v+aW l
end
theorem mF:∀v,0<zV v
 | .mk _ _ _ _ _ _=>by rw[zV];omega
theorem gX{l:List Vl}{v:Vl}(h:v∈l):zV v≤aW l:=by
 induction l with
 | nil=>cases h
 | cons y l ih =>
   rw[aW];rcases IS.1 h with rfl|h
   ·omega
   ·have:=ih h;omega
theorem fu:∀l:List Vl,l.length≤aW l
 | []=>by simp
 | v:: l=>by have:=fu l;have:=mF v;rw[aW,aah];omega
mutual
theorem US:∀v,AR v≤2*zV v
 | .mk k t n u f l=>by
   have:=qX l;rw[AR,zV];split<;>omega
theorem qX:∀l,jc l≤2*aW l
 | []=>by simp[jc]
 | v:: l=>by have:=US v;have:=qX l;rw[jc,aW];omega
end
mutual
theorem Ri:∀v,zH v≤zV v
 | .mk k t n u f l=>by
   have:=pP l;rw[zH,zV];split<;>omega
theorem pP:∀l,gw l≤aW l
 | []=>by simp[gw]
 | v:: l=>by have:=Ri v;have:=pP l;rw[gw,aW];omega
end
theorem xS:∀a b:List Vl,gw (a++b)=max (gw a) (gw b)
 | [],b=>by simp[gw]
 | v:: a,b=>by simp[gw,xS a b,Nat.max_assoc]
theorem yw:∀a b:List Vl,jc (a++b)=jc a+jc b
 | [],b=>by simp[jc]
 | v:: a,b=>by simp[jc,yw a b,Nat.add_assoc]
theorem tw(c:Int):∀a b:List Vl,jb c (a++b)=(jb c a||jb c b)
 | [],b=>by simp[jb]
 | v:: a,b=>by simp[jb,tw c a b,Bool.or_assoc]
theorem xW:∀a b:List Vl,gC (a++b)=gC a++gC b
 | [],b=>by simp[gC]
 | v:: a,b=>by simp[gC,xW a b]
theorem oS:∀a b:List Vl,aW (a++b)=aW a+aW b
 | [],b=>by simp[aW]
 | v:: a,b=>by simp[aW,oS a b,Nat.add_assoc]
section
variable {l:List Vl} {k:Nat} {v:Vl}
theorem Au(h:l[k]?=some v):gw (l.take (k+1))=max (gw (l.take k)) (zH v):=by
 rw[Gt,h,xS];simp[gw]
theorem L8(h:l[k]?=some v):jc (l.take (k+1))=jc (l.take k)+AR v:=by
 rw[Gt,h,yw];simp[jc]
theorem Cd(c:Int)(h:l[k]?=some v):jb c (l.take (k+1))=(jb c (l.take k)||L1 c v):=by
 rw[Gt,h,tw];simp[jb]
theorem JY(h:l[k]?=some v):gC (l.take (k+1))=gC (l.take k)++ta v:=by
 rw[Gt,h,xW];simp[gC]
end
theorem jG(l:List Vl)(k:Nat):aW (l.take k)≤aW l:=by
 have:=oS (l.take k) (l.drop k);rw[List.take_append_drop]at this;omega
/-! ### The size -/
mutual
def fZ(lim:Int)(n:Int):List Vl→Int
 | []=>n
 | v:: l=>if n≤lim then fZ lim (n+DV (lim-n) v) l else n
def DV(lim:Int):Vl→Int
 | .mk _ t _ u _ l=>1+t.length+u.length+fZ lim 0 l
end
mutual
theorem nw(lim n:Int):∀l,n≤fZ lim n l∧fZ lim n l≤n+aW l∧(fZ lim n l≤lim→fZ lim n l=n+aW l)
 | []=>by rw[fZ,aW];simp
 | v:: l=>by
   have h1:=aa3 (lim-n) v;have h2:=nw lim (n+DV (lim-n) v) l;rw[fZ,aW];split<;>omega
theorem aa3(lim:Int):∀v,1≤DV lim v∧DV lim v≤zV v∧(DV lim v≤lim→DV lim v=zV v)
 | .mk k t nu u f l=>by
   have h:=nw lim 0 l;rw[DV,zV];omega
end
theorem Gs(lim n:Int)(h:lim<n):∀l,fZ lim n l=n
 | []=>by rw[fZ]
 | v:: l=>by rw[fZ,if_neg (by omega)]
theorem vq(lim n:Int):∀a b,fZ lim n (a++b)=fZ lim (fZ lim n a) b
 | [],b=>by rw[List.nil_append,fZ]
 | v:: a,b=>by
   rw[acU,fZ,fZ];split
   ·exact vq lim _ a b
   ·rename_i h;rw[Gs lim n (by omega)]
theorem Qw{lim:Int}{l:List Vl}{k:Nat}{v:Vl}(h:l[k]?=some v)(hle:fZ lim 0 (l.take k)≤lim):fZ lim 0 (l.take (k+1))=fZ lim 0 (l.take k)+DV (lim-fZ lim 0 (l.take k)) v:=by
 rw[Gt,h,vq];simp[fZ,hle]
theorem Tb{lim:Int}{l:List Vl}{k:Nat}(h:lim<fZ lim 0 (l.take k)):fZ lim 0 l=fZ lim 0 (l.take k):=by
 have:=vq lim 0 (l.take k) (l.drop k);rw[List.take_append_drop,Gs _ _ h]at this;exact this
end
end Go.dz
namespace Go.Proofs.YtldpambpnajgiaaGreatDoor
section
open Go Go.Aw Go.dz
variable [Laid]
variable{n:Nat}{K:AV→Prop}{a b:Int}
theorem Co(k:Int):aP p_ 116 [u1 k] (u1 (gY k)):=by
 refine (adY _).gives (by simp) (by simp) ?_;unfold XS;rcases (by omega:k=2∨k=19∨k=21∨k=23∨(k≠2∧k≠19∧k≠21∧k≠23)) with rfl|rfl|rfl|rfl|⟨h1,h2,h3,h4⟩
 ·simp;exact .pure (by simp) rfl
 ·simp;exact .pure (by simp) rfl
 ·simp;exact .pure (by simp) rfl
 ·simp;exact .pure (by simp) rfl
 ·simp[h1,h2,h3,h4];exact .pure (by simp) (by simp[gY,h1,h2,h3,h4])
theorem nt(k:Int):aP p_ 133 [u1 k] (u1 (gY k)):=by
 refine (ad4 _).gives (by simp) (by simp) ?_;unfold XY;rcases (by omega:k=2∨k=19∨k=21∨k=23∨(k≠2∧k≠19∧k≠21∧k≠23)) with rfl|rfl|rfl|rfl|⟨h1,h2,h3,h4⟩
 ·simp;exact .pure (by simp) rfl
 ·simp;exact .pure (by simp) rfl
 ·simp;exact .pure (by simp) rfl
 ·simp;exact .pure (by simp) rfl
 ·simp[h1,h2,h3,h4];exact .pure (by simp) (by simp[gY,h1,h2,h3,h4])
omit [Laid] in
theorem tq{x y:AV}(ex:x=i_ a)(ey:y=i_ b)(q:K (i_ (max a b))):iY x y K:=by
 subst ex;subst ey;refine⟨rfl, ?_⟩;rw[show (if a<b then b else a)=max a b by omega];exact q
omit [Laid] in
theorem zzh(q:K (i_ (max a b))):iY (i_ a) (i_ b) K:=tq rfl rfl q
def zP(c:Int)(l:List Vl):AV:=.agg [i_ (gw l),i_ (jc l),b_ (jb c l)]
def Xp(n:Nat):Prop:=∀(l:List Vl) (c:Int),aW l≤n→aP p_ 79 [.sl 6 (ar l),u1 c] (zP c l)
theorem Wd(hn:n<2^40)(hP:∀n',n'<n→Xp n'):Xp n:=by
 intro l c hz;refine (V79 _ _).gives (by simp[dd]) (by simp[zP]) ?_;unfold W79;have hlen:(ar l).length=l.length:=by simp[aJ]
 have hll:=fu l;refine dr (by simp) (dr (by simp) ?_);refine zzk (n:=l.length) hlen fun _=>?_;refine aU (α:=Nat) (fun k=>k≤l.length) (fun k=>[i_ k]) (fun k=>[.aC ⟨136,[i_ 0,i_ 0,ff],true⟩,.aC ⟨136,[i_ (gw (l.take k)),i_ (jc (l.take k)),b_ (jb c (l.take k))],true⟩]) (fun k=>l.length-k) 0 (by simp) (by simpa[gw,jc,jb]using Wk.refl _ _ _ (by simp)) ?_;intro k hk;refine zzC ?_;rcases AT k l.length with q|q
 ·obtain⟨⟨kd,tx,nu,un',fl,l2⟩,hx⟩:∃x,l[k]?=some x:=⟨l[k],dO q⟩;have hin:aN ((k:Int)+1):=by unfold aN;omega
  have hzv:=gX (gO hx);rw[zV]at hzv;have hrec:=hP (aW l2) (by omega) l2 (gY kd) (aS _);have d1:=Au hx;have d2:=L8 hx;have d3:=Cd c hx;rw[zH]at d1;rw[AR]at d2;rw[L1]at d3;have b1:=pP (l.take k);have b2:=qX (l.take k);have b0:=jG l k;have b3:=pP l2;have b4:=qX l2;have h2len:(ar l2).length=l2.length:=by simp[aJ]
  obtain⟨D,hD⟩:∃D,gw (l.take k)=D:=⟨_,rfl⟩;obtain⟨C,hC⟩:∃C,jc (l.take k)=C:=⟨_,rfl⟩;obtain⟨B,hB⟩:∃B,jb c (l.take k)=B:=⟨_,rfl⟩;obtain⟨D2,hD2⟩:∃D,gw l2=D:=⟨_,rfl⟩;obtain⟨C2,hC2⟩:∃C,jc l2=C:=⟨_,rfl⟩;obtain⟨B2,hB2⟩:∃B,jb (gY kd) l2=B:=⟨_,rfl⟩;rw[zP,hD2,hC2,hB2]at hrec;rw[hD]at d1 b1 ⊢;rw[hC]at d2 b2 ⊢;rw[hB]at d3 ⊢;rw[hD2]at d1 b3;rw[hC2]at d2 b4;rw[hB2]at d3;have i1:aN ((C:Int)+1):=by unfold aN;omega
  have i2:aN ((D2:Int)+1):=by unfold aN;omega
  have i3:aN ((C:Int)+1+C2):=by unfold aN;omega
  have i4:aN ((C:Int)+1+C2+1):=by unfold aN;omega
  have he:(l2=[])↔l2.length=0:=List.length_eq_zero_iff.symm;refine zzL (by simpa using q) (ay (zzg (aJ l) rfl hx (zzY (by simp[cK]) (dr rfl ?_))));rw[cQ];refine eS (cs:=[u1 kd,.str tx,i_ nu,.str un',b_ fl,.sl 6 (ar l2)]) rfl rfl rfl rfl (aS _) rfl rfl ?_
  by_cases hc0:gY kd=0
  ·have g0:decide (gY kd=0)=true:=by simpa using hc0
   rw[if_pos hc0]at d1 d2 d3;repeat' (first|(with_reducible first|apply ay|apply af)|((with_reducible first|apply dF|apply dy|apply cZ);rfl;rfl)|((with_reducible apply di);rfl;rfl;first|assumption|(unfold aN;omega))|((with_reducible apply aO);rfl)|((with_reducible apply aL);rfl)|((with_reducible apply ao);rfl;first|rfl|assumption)|((with_reducible apply aM);rfl;first|rfl|assumption)|((with_reducible apply aX);rfl;first|rfl|assumption)|((with_reducible apply iG);rfl)|((with_reducible apply jT);rfl)|((with_reducible apply aV);rfl)|((with_reducible apply aR);rfl;rfl;rfl)|((with_reducible apply eS);rfl;rfl;rfl;rfl;(first|exact aS _|simp);(first|rfl|simp);(first|rfl|simp))|((with_reducible apply dg);rfl;(first|rfl|simp);intro _)|(refine aA (by kernel_rfl) (Co kd) ?_)|((with_reducible apply fQ);rfl)|((with_reducible apply fi);rfl)|(with_reducible intro _))
   all_goals
    refine⟨k+1,q,Wk.back (M:=2) (by simp) (by simp) ?_ rfl (by simp[gr];exact⟨iZ _ _ (by simp),iZ _ _ (by simp)⟩) (by simp[Bd]),by omega⟩;rw[d1,d2,d3];simp[dw]
    grind
  ·have g0:decide (gY kd=0)=false:=by simpa using hc0
   rw[if_neg hc0]at d1 d2 d3;repeat' (first|((with_reducible apply tq);rfl;rfl)|(with_reducible first|apply ay|apply af)|((with_reducible first|apply dy|apply cZ);rfl;rfl)|((with_reducible apply di);rfl;rfl;first|assumption|(unfold aN;omega))|((with_reducible apply aO);rfl)|((with_reducible apply aL);rfl)|((with_reducible apply ao);rfl;first|rfl|assumption)|((with_reducible apply ah);rfl;first|rfl|assumption)|((with_reducible apply aM);rfl;first|rfl|assumption)|((with_reducible apply aX);rfl;first|rfl|assumption)|((with_reducible apply iG);rfl)|((with_reducible apply jT);rfl)|((with_reducible apply aV);rfl)|((with_reducible apply aR);rfl;rfl;rfl)|((with_reducible apply dr);first|rfl|simp)|((with_reducible apply eS);rfl;rfl;rfl;rfl;(first|exact aS _|simp);(first|rfl|simp);(first|rfl|simp))|((with_reducible apply bt);rfl)|(refine aA (by kernel_rfl) (Co kd) ?_)|(refine aA (by kernel_rfl) (hrec) ?_)|((with_reducible apply fi);rfl)|(with_reducible intro _))
   all_goals
    refine⟨k+1,q,Wk.back (M:=2) (by simp) (by simp) ?_ rfl (by simp[gr];exact⟨iZ _ _ (by simp),iZ _ _ (by simp)⟩) (by simp[Bd]),by omega⟩;rw[d1,d2,d3];simp[dw]
    grind
 ·have hk:k=l.length:=by omega
  subst hk;rw[GO];refine zzK (by simp) (zzV rfl (by simp) (eS (cs:=[i_ (gw l),i_ (jc l),b_ (jb c l)]) rfl rfl rfl rfl (by simp) (by simp) (by simp) (zzV rfl (by simp) ?_)));exact .pure (by simp) (by simp[zP])
theorem Z1:∀n,n<2^40→Xp n:=by
 intro n;induction n using Nat.strongRecOn with
 | _ n ih=>exact fun hn=>Wd hn fun n' h=>ih n' h (by omega)
theorem Q8(l:List Vl)(c:Int)(hz:aW l<2^40):aP p_ 79 [.sl 6 (ar l),u1 c] (zP c l):=Z1 _ hz l c (aS _)
theorem mO(l:List Vl)(hz:aW l<2^40):aP p_ 40 [.sl 6 (ar l)] (i_ (dC l)):=by
 refine (V40 _).gives (by simp[dd]) (by simp) ?_;unfold W40;have hL:=Q8 l 0 hz;rw[zP]at hL;repeat' (first|((with_reducible apply dF);rfl;rfl)|((with_reducible apply aV);rfl)|((with_reducible apply aR);rfl;rfl;rfl)|((with_reducible apply dr);first|rfl|simp)|((with_reducible apply eS);rfl;rfl;rfl;rfl;(first|exact aS _|simp);(first|rfl|simp);(first|rfl|simp))|(refine aA (by kernel_rfl) (hL) ?_)|((with_reducible apply fQ);rfl)|(with_reducible intro _))
 all_goals
  refine .pure (by simp) ?_;simp only[AV.v.injEq,Value.int.injEq,true_and];simp[dw]at *;simp[dC, *];try omega
/-! ### The reference -/
def Xn(n:Nat):Prop:=∀(l:List Vl),aW l≤n→aP p_ 91 [.sl 6 (ar l)] (i_ (gw l))
theorem Vh(hn:n<2^40)(hP:∀n',n'<n→Xn n'):Xn n:=by
 intro l hz;refine (V91 _).gives (by simp[dd]) (by simp) ?_;unfold W91;have hlen:(ar l).length=l.length:=by simp[aJ]
 have hll:=fu l;refine aU (α:=Nat) (fun k=>k≤l.length) (fun k=>[i_ (gw (l.take k)),i_ k]) (fun _=>[]) (fun k=>l.length-k) 0 (by simp) (by simpa[gw]using Wk.refl _ _ _ (by simp)) ?_;intro k hk;refine zzk (n:=l.length) hlen fun _=>?_;refine zzC ?_;rcases AT k l.length with q|q
 ·obtain⟨⟨kd,tx,nu,un',fl,l2⟩,hx⟩:∃x,l[k]?=some x:=⟨l[k],dO q⟩;have hin:aN ((k:Int)+1):=by unfold aN;omega
  have hzv:=gX (gO hx);rw[zV]at hzv;have h2len:(ar l2).length=l2.length:=by simp[aJ]
  have hrec:=hP (aW l2) (by omega) l2 (aS _);have d1:=Au hx;rw[zH]at d1;have b1:=pP (l.take k);have b0:=jG l k;have b3:=pP l2;have i1:aN (1+(gw l2:Int)):=by unfold aN;omega
  refine zzL (by simpa using q) ?_
  by_cases hc0:gY kd=0
  ·have g0:(!decide (gY kd=0))=false:=by simpa using hc0
   rw[if_pos hc0]at d1;repeat' (first|(with_reducible first|apply ay|apply af)|((with_reducible apply cZ);rfl;rfl)|((with_reducible apply di);rfl;rfl;first|assumption|(unfold aN;omega))|((with_reducible apply ah);rfl;first|rfl|assumption)|((with_reducible apply dX);rfl)|((with_reducible apply de);rfl)|(refine zzg (aJ l) rfl hx ?_)|(refine aA (by kernel_rfl) (nt kd) ?_))
   refine⟨k+1,q,Wk.le (by simp) (by rw[d1];simp),by omega⟩
  ·have g0:(!decide (gY kd=0))=true:=by simpa using hc0
   rw[if_neg hc0]at d1;repeat' (first|((with_reducible apply tq);rfl;rfl)|(with_reducible first|apply ay|apply af)|((with_reducible apply cZ);rfl;rfl)|((with_reducible apply di);rfl;rfl;first|assumption|(unfold aN;omega))|((with_reducible apply ao);rfl;first|rfl|assumption)|((with_reducible apply dX);rfl)|((with_reducible apply de);rfl)|(refine zzg (aJ l) rfl hx ?_)|(refine aA (by kernel_rfl) (nt kd) ?_)|(refine aA (by kernel_rfl) (hrec) ?_))
   refine⟨k+1,q,Wk.le (by simp) (by rw[d1];simp;omega),by omega⟩
 ·have hk:k=l.length:=by omega
  subst hk;rw[GO];refine zzK (by simp) ?_;exact .pure (by simp) rfl
theorem HL(l:List Vl)(hz:aW l<2^40):aP p_ 91 [.sl 6 (ar l)] (i_ (gw l)):=by
 have:∀n,n<2^40→Xn n:=by
  intro n;induction n using Nat.strongRecOn with
  | _ n ih=>exact fun hn=>Vh hn fun n' h=>ih n' h (by omega)
 exact this _ hz l (aS _)
def Xu(n:Nat):Prop:=∀(l:List Vl) (c:Int),aW l≤n→aP p_ 107 [.sl 6 (ar l),u1 c] (b_ (!jb c l))
theorem WY(hn:n<2^40)(hP:∀n',n'<n→Xu n'):Xu n:=by
 intro l c hz;refine (adQ _ _).gives (by simp[dd]) (by simp) ?_;unfold XK;have hlen:(ar l).length=l.length:=by simp[aJ]
 have hll:=fu l;refine aU (α:=Nat) (fun k=>k≤l.length∧jb c (l.take k)=false) (fun k=>[i_ k]) (fun _=>[]) (fun k=>l.length-k) 0 (by simp[jb]) (Wk.refl _ _ _ (by simp)) ?_;rintro k ⟨hk,hbk⟩;refine zzk (n:=l.length) hlen fun _=>?_;refine zzC ?_;rcases AT k l.length with q|q
 ·obtain⟨⟨kd,tx,nu,un',fl,l2⟩,hx⟩:∃x,l[k]?=some x:=⟨l[k],dO q⟩;have hin:aN ((k:Int)+1):=by unfold aN;omega
  have hzv:=gX (gO hx);rw[zV]at hzv;have h2len:(ar l2).length=l2.length:=by simp[aJ]
  have hrec:=hP (aW l2) (by omega) l2 (gY kd) (aS _);have d3:=Cd c hx;rw[L1,hbk,Bool.false_or]at d3;have hall:jb c (l.take (k+1))=true→jb c l=true:=fun h=>by
   have:=tw c (l.take (k+1)) (l.drop (k+1));rw[List.take_append_drop,h]at this;simpa using this
  have he:(l2=[])↔l2.length=0:=List.length_eq_zero_iff.symm;refine zzL (by simpa using q) ?_
  by_cases hc0:gY kd=0
  ·have g0:decide (gY kd=0)=true:=by simpa using hc0
   rw[if_pos hc0]at d3;repeat' (first|(with_reducible first|apply ay|apply af)|((with_reducible first|apply dF|apply dy|apply cZ);rfl;rfl)|((with_reducible apply di);rfl;rfl;first|assumption|(unfold aN;omega))|((with_reducible apply aO);rfl)|((with_reducible apply aL);rfl)|((with_reducible apply ao);rfl;first|rfl|assumption)|((with_reducible apply ah);rfl;first|rfl|assumption)|((with_reducible apply aM);rfl;first|rfl|assumption)|((with_reducible apply aX);rfl;first|rfl|assumption)|((with_reducible apply iG);rfl)|((with_reducible apply jT);rfl)|((with_reducible apply dX);rfl)|((with_reducible apply de);rfl)|((with_reducible apply dg);rfl;(first|rfl|simp);intro _)|(refine zzg (aJ l) rfl hx ?_)|(refine aA (by kernel_rfl) (nt kd) ?_)|((with_reducible apply fi);rfl)|(with_reducible intro _))
   all_goals first
    | (refine⟨k+1,⟨q,by grind⟩,Wk.refl _ _ _ (by simp),by omega⟩;done)
    | (refine .pure (by simp) ?_;simp;refine hall ?_;grind)
  ·have g0:decide (gY kd=0)=false:=by simpa using hc0
   rw[if_neg hc0]at d3;repeat' (first|(with_reducible first|apply ay|apply af)|((with_reducible first|apply dy|apply cZ);rfl;rfl)|((with_reducible apply di);rfl;rfl;first|assumption|(unfold aN;omega))|((with_reducible apply fJ);rfl)|((with_reducible apply aO);rfl)|((with_reducible apply aL);rfl)|((with_reducible apply ao);rfl;first|rfl|assumption)|((with_reducible apply aM);rfl;first|rfl|assumption)|((with_reducible apply aX);rfl;first|rfl|assumption)|((with_reducible apply iG);rfl)|((with_reducible apply vw);rfl)|((with_reducible apply jT);rfl)|((with_reducible apply dX);rfl)|((with_reducible apply de);rfl)|(refine zzg (aJ l) rfl hx ?_)|(refine aA (by kernel_rfl) (nt kd) ?_)|(refine aA (by kernel_rfl) (hrec) ?_)|((with_reducible apply fQ);rfl)|((with_reducible apply fi);rfl)|(with_reducible intro _))
   all_goals first
    | (refine⟨k+1,⟨q,by grind⟩,Wk.refl _ _ _ (by simp),by omega⟩;done)
    | (refine .pure (by simp) ?_;simp;refine hall ?_;grind)
 ·have hk:k=l.length:=by omega
  subst hk;rw[GO]at hbk;refine zzK (by simp) ?_;exact .pure (by simp) (by simp[hbk])
theorem Mu(l:List Vl)(c:Int)(hz:aW l<2^40):aP p_ 107 [.sl 6 (ar l),u1 c] (b_ (!jb c l)):=by
 have:∀n,n<2^40→Xu n:=by
  intro n;induction n using Nat.strongRecOn with
  | _ n ih=>exact fun hn=>WY hn fun n' h=>ih n' h (by omega)
 exact this _ hz l c (aS _)
def Xy(n:Nat):Prop:=∀(l:List Vl),aW l≤n→aP p_ 106 [.sl 6 (ar l)] (.sl 5 (gC l))
theorem Xd(hn:n<2^39)(hP:∀n',n'<n→Xy n'):Xy n:=by
 intro l hz;refine (adP _).gives (by simp[dd]) (by rw[Aw.Pure];exact ph l) ?_;unfold XJ;have hlen:(ar l).length=l.length:=by simp[aJ]
 have hll:=fu l;refine aU (α:=Nat) (fun k=>k≤l.length) (fun k=>[.sb 0 5 (gC (l.take k)),i_ k]) (fun k=>[.tok 98 5 (gC (l.take k)).length]) (fun k=>l.length-k) 0 (by simp) ?_ ?_
 ·have a:=Wk.nil (n:=0) (s:=[.v (.slice none 0 0),i_ 0]) (h:=[]) (by simp) 0 rfl;have b:=Wk.tok (n:=0) (s:=[.emp,i_ 0]) (h:=[]) (by simp) 0 98 5 rfl;simpa[gC]using a.trans b
 intro k hk;refine zzk (n:=l.length) hlen fun _=>?_;refine zzC ?_;rcases AT k l.length with q|q
 ·obtain⟨⟨kd,tx,nu,un',fl,l2⟩,hx⟩:∃x,l[k]?=some x:=⟨l[k],dO q⟩;have hin:aN ((k:Int)+1):=by unfold aN;omega
  have hzv:=gX (gO hx);rw[zV]at hzv;have hrec:=hP (aW l2) (by omega) l2 (aS _);have d1:=JY hx;rw[ta]at d1;have b0:=jG l k;have b1:=qX (l.take k);have b2:=qX l2;have t1:=qz (l.take k);have t2:=qz l2;have pr:=ph (l.take (k+1));obtain⟨R,hR⟩:∃R,gC (l.take k)=R:=⟨_,rfl⟩;rw[hR]at d1 t1 ⊢;obtain⟨R2,hR2⟩:∃R,gC l2=R:=⟨_,rfl⟩;have rok:=vr l2;rw[hR2]at d1 t2 hrec rok;refine zzL (by simpa using q) (ay (zzg (aJ l) rfl hx ?_));rw[cQ];refine zzX (qQ rfl (by simp) (K7 (n:=1) (h':=[_,_]) (cs:=pJ kd tx nu un' fl) rfl rfl rfl rfl rfl rfl (kP (h':=[_,_]) (id:=0) (k:=R.length) (base:=R) (rows:=[pJ kd tx nu un' fl]) rfl rfl rfl ((Jm rfl (aS _)).trans rfl) rfl (by unfold dU maxLen;simp;omega) rfl ?_)))
  by_cases hc0:gY kd=0
  ·have g0:(!decide (gY kd=0))=false:=by simpa using hc0
   rw[if_pos hc0]at d1;repeat' (first|(with_reducible apply af)|((with_reducible apply cZ);rfl;rfl)|((with_reducible apply di);rfl;rfl;first|assumption|(unfold aN;omega))|((with_reducible apply ah);rfl;first|rfl|assumption)|((with_reducible apply dX);rfl)|((with_reducible apply de);rfl)|(refine zzg (aJ l) rfl hx ?_)|(refine aA (by kernel_rfl) (nt kd) ?_))
   refine⟨k+1,q, ?_,by omega⟩;rw[d1]at pr ⊢;exact Wk.back (n:=0) (M:=1) (by simp) (by simp) (by simp) rfl (by simp[gr]) (by
    have hb:=iR 1 (.sl 5 (R++[pJ kd tx nu un' fl])) (by rw[Aw.Pure];exact pr);rw[Bd]at hb;simp[Bd,hb])
  ·have g0:(!decide (gY kd=0))=true:=by simpa using hc0
   rw[if_neg hc0]at d1;repeat' (first|((with_reducible apply cZ);rfl;rfl)|((with_reducible apply ao);rfl;first|rfl|assumption)|((with_reducible apply dX);rfl)|((with_reducible apply de);rfl)|(refine zzg (aJ l) rfl hx ?_)|(refine aA (by kernel_rfl) (nt kd) ?_)|(refine aA (by kernel_rfl) (hrec) ?_))
   refine kP (h':=[_,_]) (id:=0) (k:=R.length+1) (base:=R++[pJ kd tx nu un' fl]) (rows:=R2) rfl rfl (by simp) fw rok (by unfold dU maxLen;omega) rfl ?_;repeat' (first|((with_reducible apply bt);rfl))
   refine K7 (n:=2) (h':=[_,_,_]) (cs:=pJ (gY kd) [] 0 [] false) rfl rfl rfl rfl rfl rfl (kP (h':=[_,_,_]) (id:=0) (k:=R.length+1+R2.length) (base:=R++[pJ kd tx nu un' fl]++R2) (rows:=[pJ (gY kd) [] 0 [] false]) rfl rfl (by simp;omega) ((Jm rfl (aS _)).trans rfl) rfl (by unfold dU maxLen;simp;omega) rfl ?_);repeat' (first|(with_reducible apply af)|((with_reducible apply di);rfl;rfl;first|assumption|(unfold aN;omega)))
   refine⟨k+1,q, ?_,by omega⟩;rw[d1]at pr ⊢;exact Wk.back (n:=0) (M:=1) (by simp) (by simp) (by simp;omega) (by simp) (by simp[gr]) (by
    have hb:=iR 1 (.sl 5 (R++pJ kd tx nu un' fl:: (R2++[pJ (gY kd) [] 0 [] false]))) (by rw[Aw.Pure];exact pr);rw[Bd]at hb;simp[Bd,hb])
 ·have hk:k=l.length:=by omega
  subst hk;rw[GO];refine zzK (by simp) (fg.of ?_);have pr:=ph l;simp[tl,gP];rw[BV _ _ _ _ pr]
theorem Md(l:List Vl)(hz:aW l<2^39):aP p_ 106 [.sl 6 (ar l)] (.sl 5 (gC l)):=by
 have:∀n,n<2^39→Xy n:=by
  intro n;induction n using Nat.strongRecOn with
  | _ n ih=>exact fun hn=>Xd hn fun n' h=>ih n' h (by omega)
 exact this _ hz l (aS _)
theorem Ap(l:List Vl)(hz:aW l<2^39):aP p_ 67 [.sl 6 (ar l)] (i_ (dC l)):=by
 refine (V67 _).gives (by simp[dd]) (by simp) ?_;unfold W67;have t1:=qz l;repeat' (first|((with_reducible apply dF);rfl;rfl)|((with_reducible apply fJ);rfl)|((with_reducible apply vw);rfl)|((with_reducible apply dg);rfl;(first|rfl|simp);intro _)|(refine aA (by kernel_rfl) (HL l (by omega)) ?_)|(refine aA (by kernel_rfl) (Md l hz) ?_)|(refine aA (by kernel_rfl) (Mu l 0 (by omega)) ?_)|((with_reducible apply fQ);rfl)|(with_reducible intro _))
 all_goals
  refine .pure (by simp) ?_;simp only[AV.v.injEq,Value.int.injEq,true_and];simp[t1]at *;simp[dC, *];try omega
omit [Laid] in
theorem D9{x:AV}{l:List UInt8}(e:x=.str l)(q:K (i_ l.length)):ni x K:=by subst e;exact q
def Xx(n:Nat):Prop:=∀(l:List Vl) (lim:Int),aW l≤n→0≤lim→lim≤2^50→aP p_ 48 [.sl 6 (ar l),i_ lim] (i_ (fZ lim 0 l))
theorem Xb(hn:n<2^39)(hP:∀n',n'<n→Xx n'):Xx n:=by
 intro l lim hz hl1 hl2;refine (V48 _ _).gives (by simp[dd]) (by simp) ?_;unfold W48;have hlen:(ar l).length=l.length:=by simp[aJ]
 have hll:=fu l;refine aU (α:=Nat) (fun k=>k≤l.length) (fun k=>[i_ (fZ lim 0 (l.take k)),i_ k]) (fun _=>[]) (fun k=>l.length-k) 0 (by simp) (by simpa[fZ]using Wk.refl _ _ _ (by simp)) ?_;intro k hk;refine zzk (n:=l.length) hlen fun _=>?_;refine zzC ?_;rcases AT k l.length with q|q
 ·obtain⟨⟨kd,tx,nu,un',fl,l2⟩,hx⟩:∃x,l[k]?=some x:=⟨l[k],dO q⟩;have hin:aN ((k:Int)+1):=by unfold aN;omega
  have hzv:=gX (gO hx);rw[zV]at hzv;have q1:decide ((k:Int)<l.length)=true:=by simpa using q
  have b0:=jG l k;obtain⟨b1,b2,_⟩:=nw lim 0 (l.take k)
  by_cases hle:fZ lim 0 (l.take k)≤lim
  ·have g0:decide (fZ lim 0 (l.take k)≤lim)=true:=by simpa using hle
   have d1:=Qw hx hle;rw[DV]at d1;obtain⟨S,hS⟩:∃S,fZ lim 0 (l.take k)=S:=⟨_,rfl⟩;rw[hS]at d1 g0 b1 b2 hle ⊢;have hrec:=hP (aW l2) (by omega) l2 (lim-S) (aS _) (by omega) (by omega);obtain⟨c1,c2,_⟩:=nw (lim-S) 0 l2;have hrec2:aP p_ 48 [.sl 6 (ar l2),i_ (lim-S)] (i_ (fZ (lim-S) 0 l2)):=hrec;repeat' (first|(with_reducible first|apply ay|apply af)|((with_reducible apply jE);rfl;rfl)|((with_reducible apply di);rfl;rfl;first|assumption|(unfold aN;omega))|((with_reducible apply yc);rfl;rfl;first|assumption|(unfold aN;omega))|((with_reducible apply aO);rfl)|((with_reducible apply ao);rfl;first|rfl|assumption)|((with_reducible apply aM);rfl;first|rfl|assumption)|((with_reducible apply dX);rfl)|((with_reducible apply de);rfl)|(refine zzg (aJ l) rfl hx ?_)|(refine D9 rfl ?_)|(refine zzT (by kernel_rfl) hrec2 ?_))
   exact⟨k+1,q,Wk.le (by simp) (by rw[d1];simp),by omega⟩
  ·have g0:decide (fZ lim 0 (l.take k)≤lim)=false:=by simpa using hle
   repeat' (first|(with_reducible first|apply ay|apply af)|((with_reducible apply jE);rfl;rfl)|((with_reducible apply aO);rfl)|((with_reducible apply ah);rfl;first|rfl|assumption)|((with_reducible apply aM);rfl;first|rfl|assumption))
   exact .pure (by simp) (by rw[Tb (l:=l) (k:=k) (by omega)];rfl)
 ·have hk:k=l.length:=by omega
  subst hk;rw[GO];have q1:decide ((l.length:Int)<l.length)=false:=by simp
  repeat' (first|(with_reducible first|apply ay|apply af)|((with_reducible apply aL);rfl)|((with_reducible apply ah);rfl;first|rfl|assumption)|((with_reducible apply aX);rfl;first|rfl|assumption))
  exact .pure (by simp) rfl
theorem AZ(l:List Vl)(lim:Int)(hz:aW l<2^39)(h1:0≤lim)(h2:lim≤2^50):aP p_ 48 [.sl 6 (ar l),i_ lim] (i_ (fZ lim 0 l)):=by
 have:∀n,n<2^39→Xx n:=by
  intro n;induction n using Nat.strongRecOn with
  | _ n ih=>exact fun hn=>Xb hn fun n' h=>ih n' h (by omega)
 exact this _ hz l lim (aS _) h1 h2
def vK(l:List Vl):Bool:=decide (300<fZ 300 0 l)||decide ((40:Int)<gw l)
theorem Cr(l:List Vl)(hz:aW l<2^39):aP p_ 47 [.sl 6 (ar l)] (b_ (vK l)):=by
 refine (V47 _).gives (by simp[dd]) (by simp) ?_;unfold W47;repeat' (first|(with_reducible apply ay)|((with_reducible apply dF);rfl;rfl)|((with_reducible apply aO);rfl)|((with_reducible apply aL);rfl)|(refine aA (by kernel_rfl) (AZ l 300 hz (by omega) (by omega)) ?_)|(refine aA (by kernel_rfl) (HL l (by omega)) ?_)|((with_reducible apply fi);rfl)|(with_reducible intro _))
 all_goals
  refine .pure (by simp) ?_;simp only[kE,nX,AV.v.injEq,Value.bool.injEq,vK];first
   | (simp_all;done)
   | (simp_all;omega)
   | grind
end
section
open Go Go.Aw Go.dz
def o4(s:aD):Bool:=db s||(jN s).isSome
theorem sV{s:aD}(h:o4 s=true):∃b,lR s=.aF [b_ b,i_ 0]:=by
 unfold lR
 by_cases hc:db s=true
 ·rw[if_pos hc];exact⟨true,rfl⟩
 ·rw[if_neg hc];unfold o4 at h;cases hf:jN s with
  | none=>rw[hf]at h;simp at h;exact absurd h hc
  | some n=>exact⟨_,rfl⟩
theorem xe{s:aD}(h:o4 s=false):lR s=.aF [ff,i_ 6]:=by
 unfold o4 at h;simp only[acW]at h;unfold lR;rw[if_neg (by simp[h.1])];cases hf:jN s with
 | none=>rfl
 | some n=>rw[hf]at h;simp at h
def mJ(s:aD):List aD:=if dA s=[] then (if o4 s=true then [s] else []) else dA s
def Az(s:aD):AV:=if mJ s=[] then .aF [.v (.slice none 0 0),i_ 6] else .aF [.sl 1 (fa (mJ s)),i_ 0]
theorem IJ(s:aD):Aw.Pure (Az s):=by unfold Az;split<;>simp[kj]
theorem wy{K:AV→Prop}(q:K (i_ 0)):bu (.v (.slice none 0 0)) K:=q
theorem xj(s:aD):(dA s).length≤4:=by
 unfold dA;split
 ·simp[Jh]
 ·split<;>simp
theorem K4(s:aD):(mJ s).length≤4:=by
 unfold mJ;split
 ·split<;>simp
 ·exact xj s
theorem Oe(s:aD)(hs:s.length<2^40):aP p_ 109 [.str s] (Az s):=by
 refine (adS _).gives (by simp) (IJ s) ?_;unfold XM;have hO:=HP s hs;have hI:=po s;unfold Az mJ
 by_cases hl:dA s=[]
 ·rw[tY,if_pos hl]at hO;rw[if_pos hl]
  by_cases hk:o4 s=true
  ·obtain⟨b,e⟩:=sV hk;rw[e]at hI;rw[if_pos hk];repeat' (first|((with_reducible first|apply dF|apply cZ);rfl;rfl)|((with_reducible apply ah);rfl;first|rfl|assumption)|((with_reducible apply bl);rfl;rfl)|(refine aA (by kernel_rfl) (hO) ?_)|(refine aA (by kernel_rfl) (hI) ?_)|(refine wy ?_)|(refine cN rfl ?_))
   exact .pure (by simp[chunks,dw,iq]) (by simp[fa,chunks,dw,iq])
  ·have hk:o4 s=false:=by simpa using hk
   rw[xe hk]at hI;rw[show (if o4 s=true then [s] else [])=([]:List aD) by simp[hk],if_pos rfl];repeat' (first|((with_reducible first|apply dF|apply cZ);rfl;rfl)|((with_reducible apply ao);rfl;first|rfl|assumption)|((with_reducible apply ah);rfl;first|rfl|assumption)|((with_reducible apply bl);rfl;rfl)|(refine aA (by kernel_rfl) (hO) ?_)|(refine aA (by kernel_rfl) (hI) ?_)|(refine wy ?_))
   exact .pure (by simp) rfl
 ·rw[tY,if_neg hl]at hO;rw[if_neg hl];have g:decide ((0:Int)<(fa (dA s)).length)=true:=by
   simp[fa];exact List.length_pos_iff.2 hl
  repeat' (first|((with_reducible apply dF);rfl;rfl)|((with_reducible apply ao);rfl;first|rfl|assumption)|((with_reducible apply dg);rfl;(first|rfl|simp);intro _)|(refine aA (by kernel_rfl) (hO) ?_))
  exact .pure (by simp[kj]) (by rw[if_neg hl])
theorem Mn(s:aD)(hs:s.length<2^40):aP p_ 167 [.str s] (Az s):=by
 refine (aer _).gives (by simp) (IJ s) ?_;unfold Yl;have hO:=Mq s hs;have hI:=vG s;unfold Az mJ
 by_cases hl:dA s=[]
 ·rw[tY,if_pos hl]at hO;rw[if_pos hl]
  by_cases hk:o4 s=true
  ·obtain⟨b,e⟩:=sV hk;rw[e]at hI;rw[if_pos hk];repeat' (first|((with_reducible first|apply dF|apply cZ);rfl;rfl)|((with_reducible apply ah);rfl;first|rfl|assumption)|((with_reducible apply bl);rfl;rfl)|(refine aA (by kernel_rfl) (hO) ?_)|(refine aA (by kernel_rfl) (hI) ?_)|(refine wy ?_)|(refine cN rfl ?_))
   exact .pure (by simp[chunks,dw,iq]) (by simp[fa,chunks,dw,iq])
  ·have hk:o4 s=false:=by simpa using hk
   rw[xe hk]at hI;rw[show (if o4 s=true then [s] else [])=([]:List aD) by simp[hk],if_pos rfl];repeat' (first|((with_reducible first|apply dF|apply cZ);rfl;rfl)|((with_reducible apply ao);rfl;first|rfl|assumption)|((with_reducible apply ah);rfl;first|rfl|assumption)|((with_reducible apply bl);rfl;rfl)|(refine aA (by kernel_rfl) (hO) ?_)|(refine aA (by kernel_rfl) (hI) ?_)|(refine wy ?_))
   exact .pure (by simp) rfl
 ·rw[tY,if_neg hl]at hO;rw[if_neg hl];have g:decide ((0:Int)<(fa (dA s)).length)=true:=by
   simp[fa];exact List.length_pos_iff.2 hl
  repeat' (first|((with_reducible apply dF);rfl;rfl)|((with_reducible apply ao);rfl;first|rfl|assumption)|((with_reducible apply dg);rfl;(first|rfl|simp);intro _)|(refine aA (by kernel_rfl) (hO) ?_))
  exact .pure (by simp[kj]) (by rw[if_neg hl])
/-! ### Declarations -/
structure Dc where
 name:aD
 value:List Vl
 whole:aD
 imp:Bool
 origin:Int
 Ai:Bool
 kx:Int
 w0:Int
 w1:Int
 w2:Int
 order:Int
def dD(d:Dc):List AV:=[.str d.name,.sl 6 (ar d.value),.str d.whole,b_ d.imp,u1 d.origin,b_ d.Ai,i_ d.kx,i_ d.w0,i_ d.w1,i_ d.w2,i_ d.order]
theorem mH(d:Dc):bf (dD d):=by simp[dD,dd]
def mf(n:Int):Bool:=decide (0≤n)&&decide (n≤1000000)
def oO(n w:aD):Bool:=decide (w=[])||(decide (n∈mJ w)&&!decide (w=n))
def ij(d:Dc):Bool:=o4 d.name&&decide (dC d.value=0)&&oO d.name d.whole&&(mf d.kx&&mf d.order&&mf d.w0&&mf d.w1&&mf d.w2)&&(decide (1≤d.origin)&&decide (d.origin≤3))&&(!d.Ai||(decide (d.origin=3)&&decide (d.kx=0)&&(decide (d.w0=0)&&decide (d.w1=0)&&decide (d.w2=0))))
def ko(d:Dc):Int:=if ij d then 0 else 8
theorem pF{d:Dc}(h:ij d=false):ko d=8:=by rw[ko,h];rfl
theorem yA(n:Int):aP p_ 136 [i_ n] (b_ (mf n)):=by
 refine (ad7 _).gives (by simp) (by simp) ?_;unfold X1;repeat' (first|(with_reducible apply ay)|((with_reducible first|apply jE|apply iy);rfl;rfl)|((with_reducible apply aO);rfl)|((with_reducible apply aL);rfl)|((with_reducible apply fi);rfl)|(with_reducible intro _))
 all_goals
  refine .pure (by simp) ?_;simp only[kE,nX,AV.v.injEq,Value.bool.injEq,mf]
  grind
theorem Oy(n:aD)(v:List Vl)(w:aD)(hw:w.length<2^40):aP p_ 135 [.agg [.str n,.sl 6 (ar v),.str w]] (b_ (oO n w)):=by
 refine (ad6 _).gives (by simp[dd]) (by simp) ?_;unfold X0;have hL:=Mn w hw;unfold oO
 by_cases h0:w=[]
 ·have g0:decide (w=[])=true:=by simpa using h0
  repeat' (first|((with_reducible apply fx);rfl;rfl)|((with_reducible apply ao);rfl;first|rfl|assumption)|((with_reducible apply aV);rfl)|((with_reducible apply aR);rfl;rfl;rfl)|((with_reducible apply dr);first|rfl|simp))
  exact .pure (by simp) (by simp[h0])
 ·have g0:decide (w=[])=false:=by simpa using h0
  by_cases h1:w=n
  ·have g1:decide (w=n)=true:=by simpa using h1
   repeat' (first|((with_reducible apply fx);rfl;rfl)|((with_reducible apply ao);rfl;first|rfl|assumption)|((with_reducible apply ah);rfl;first|rfl|assumption)|((with_reducible apply aV);rfl)|((with_reducible apply aR);rfl;rfl;rfl)|((with_reducible apply dr);first|rfl|simp))
   exact .pure (by simp) (by simp[h0,h1];intro h;simp[h1]at h0;exact absurd h h0)
  ·have g1:decide (w=n)=false:=by simpa using h1
   have ll:=K4 w;unfold Az at hL
   by_cases hl:mJ w=[]
   ·rw[if_pos hl]at hL;repeat' (first|((with_reducible apply fx);rfl;rfl)|((with_reducible apply ah);rfl;first|rfl|assumption)|((with_reducible apply aV);rfl)|((with_reducible apply aR);rfl;rfl;rfl)|((with_reducible apply dr);first|rfl|simp)|((with_reducible apply bl);rfl;rfl)|(refine aA (by kernel_rfl) (hL) ?_))
    refine aU (α:=Nat) (fun k=>k=0) (fun k=>[i_ k]) (fun _=>[.aC ⟨46,[.str n,.sl 6 (ar v),.str w],true⟩]) (fun k=>k) 0 rfl (Wk.refl _ _ _ (by simp)) ?_;rintro k rfl;repeat' (first|(with_reducible first|apply ay|apply af)|((with_reducible apply dy);rfl;rfl)|((with_reducible apply aL);rfl)|((with_reducible apply ah);rfl;first|rfl|assumption)|((with_reducible apply aX);rfl;first|rfl|assumption))
    exact .pure (by simp) (by simp[h0,hl])
   ·rw[if_neg hl]at hL;have hlen:(fa (mJ w)).length=(mJ w).length:=by simp[fa]
    repeat' (first|((with_reducible apply fx);rfl;rfl)|((with_reducible apply ah);rfl;first|rfl|assumption)|((with_reducible apply aV);rfl)|((with_reducible apply aR);rfl;rfl;rfl)|((with_reducible apply dr);first|rfl|simp)|((with_reducible apply bl);rfl;rfl)|(refine aA (by kernel_rfl) (hL) ?_))
    refine aU (α:=Nat) (fun k=>k≤(mJ w).length∧n∉(mJ w).take k) (fun k=>[i_ k]) (fun _=>[.aC ⟨46,[.str n,.sl 6 (ar v),.str w],true⟩]) (fun k=>(mJ w).length-k) 0 (by simp) (Wk.refl _ _ _ (by simp)) ?_;rintro k ⟨hk,hnot⟩;rcases AT k (mJ w).length with q|q
    ·obtain⟨s,hs⟩:∃x,(mJ w)[k]?=some x:=⟨(mJ w)[k],dO q⟩;have q1:decide ((k:Int)<(fa (mJ w)).length)=true:=by rw[hlen];simpa using q
     have hin:aN ((k:Int)+1):=by unfold aN;omega
     repeat' (first|(with_reducible first|apply ay|apply af)|((with_reducible first|apply bB|apply dy);rfl;rfl)|((with_reducible apply fx);rfl;rfl)|((with_reducible apply di);rfl;rfl;first|assumption|(unfold aN;omega))|((with_reducible apply aO);rfl)|((with_reducible apply ao);rfl;first|rfl|assumption)|((with_reducible apply aM);rfl;first|rfl|assumption)|((with_reducible apply aV);rfl)|((with_reducible apply aR);rfl;rfl;rfl)|((with_reducible apply de);rfl)|((with_reducible apply dg);rfl;(first|rfl|simp);intro _)|(refine zzg (f:=fun s=>[.str s]) rfl rfl hs ?_)|((with_reducible apply fQ);rfl)|(with_reducible intro _))
     ·rename_i hc;refine .pure (by simp) ?_;have hc:s=n:=by simpa using hc
      have:n∈mJ w:=by rw[←hc];exact gO hs
      simp[h0,h1,this]
     ·rename_i hc;have hc:s≠n:=by simpa using hc
      exact⟨k+1,⟨q,by rw[Gt,hs];simp;exact⟨hnot,fun h=>hc h.symm⟩⟩,Wk.refl _ _ _ (by simp),by omega⟩
    ·have hk:k=(mJ w).length:=by omega
     subst hk;rw[GO]at hnot;have q1:decide (((mJ w).length:Int)<(fa (mJ w)).length)=false:=by rw[hlen];simp
     repeat' (first|(with_reducible first|apply ay|apply af)|((with_reducible first|apply bB|apply dy);rfl;rfl)|((with_reducible apply aO);rfl)|((with_reducible apply ah);rfl;first|rfl|assumption)|((with_reducible apply aM);rfl;first|rfl|assumption)|((with_reducible apply dg);rfl;(first|rfl|simp);intro _))
     exact .pure (by simp) (by simp[h0,h1,hnot])
end
section
open Go Go.Aw Go.dz Go.ChangeShapes Go.WideShapes Go.ChangeAt Go.RowKit
variable{P:Program}{t:TypeId}{F:Nat}
def ma(F:Nat)(P:Program)(t:TypeId){X:Type}(ea:X→List AV)(sz:X→Nat):Prop:=
 ∀(H:Type) (enc:TypeId×Value→H) (W:World) (fuel:Nat) (cs:List Value) (d:DataW H) (ps:List MemPlace),fuel≤F →
  DataW.trod enc P W 0 (fun _=>true) true fuel t cs=some (d,ps)→∃x,aI [] (old W) W (ea x) cs∧cs.length=P.cellsOf t∧sz x≤Rows.uptoBulk d
theorem lk{k:IntKind}(ht:P.underlying t=some (.int k))(hc:P.cellsOf t=1):ma F P t (fun n:Int=>[.v (.int k n)]) (fun _=>1):=by
 intro H enc W fuel cs d ps _ h;obtain⟨n,rfl,e,hn⟩:=DataW.trod_int ht h;simp only[aaZ]at e;obtain⟨rfl,_⟩:=e;exact⟨n,by simp,by simp[hc],by simp[Rows.uptoBulk]⟩
theorem BI(ht:P.underlying t=some .bool)(hc:P.cellsOf t=1):ma F P t (fun b:Bool=>[.v (.bool b)]) (fun _=>1):=by
 intro H enc W fuel cs d ps _ h;obtain⟨n,rfl,e⟩:=DataW.trod_bool ht h;simp only[aaZ]at e;obtain⟨rfl,_⟩:=e;exact⟨n,by simp,by simp[hc],by simp[Rows.uptoBulk]⟩
theorem oK(ht:P.underlying t=some .string)(hc:P.cellsOf t=1):ma F P t (fun s:List UInt8=>[.str s]) (fun s=>s.length+1):=by
 intro H enc W fuel cs d ps _ h;obtain⟨s,rfl,e,hs⟩:=DataW.trod_string ht h;simp only[aaZ]at e;obtain⟨rfl,_⟩:=e;exact⟨s.data.toList,by simpa using hs,by simp[hc],by simp[Rows.uptoBulk]⟩
theorem Aj{H:Type}:∀a b:List (DataW H),Rows.uptoBulkAll (a++b)=Rows.uptoBulkAll a+Rows.uptoBulkAll b
 | [],b=>by simp[Rows.uptoBulkAll]
 | x:: a,b=>by rw[acU,Rows.uptoBulkAll,Rows.uptoBulkAll,Aj a b];omega
theorem si{t e:TypeId}{X:Type}{ea:X→List AV}{sz:X→Nat}(ht:P.underlying t=some (.slice e))(hc:P.cellsOf t=1)(hpos:0<P.cellsOf e)(hx:ma F P e ea sz):
 ma F P t (fun l:List X=>[.sl (P.cellsOf e) (l.map ea)]) (fun l=>(l.map sz).sum+1):=by
 intro H enc W fuel cs d ps hF h;obtain⟨rfl,e1⟩|⟨a,len,cap,elems,rest,n,rfl,rfl,e1,_,hlc,hcm,hlen,hel,_,_⟩:=DataW.trod_slice ht h
 ·simp only[aaZ]at e1;obtain⟨rfl,_⟩:=e1;refine⟨[], ?_,by simp[hc],by simp[Rows.uptoBulk]⟩;simp only[List.map_nil,dc,kF,and_true];rw[ax];exact⟨none,0,rfl,aS _,acr _,.inl rfl⟩
 ·simp only[aaZ]at e1;obtain⟨rfl,_⟩:=e1;have key:∀i,(hi:i<elems.length)→∃x,sz x≤Rows.uptoBulk (elems[i]).1∧∃us:List Value,aI [] (old W) W (ea x) us∧us.length=P.cellsOf e∧∀j,j<us.length→W.cell? ((a.add (i*P.cellsOf e)).add j)=us[j]?:=by
   intro i hi;have h0:=hel i (by omega);rw[dO hi]at h0;obtain⟨us,hus,hu⟩:=Option.bind_eq_some_iff.1 h0;obtain⟨_,hul,huc⟩:=World.cells?_some hus;obtain⟨x,h2,h3,h4⟩:=hx H enc W n us elems[i].1 elems[i].2 (by omega) hu;exact⟨x,h4,us,h2,h3,fun j hj=>huc j (by omega)⟩
  have hlist:∀k,k≤len→∃l:List X,l.length=k∧(l.map sz).sum≤Rows.uptoBulkAll ((elems.take k).map (·.1))∧∀i x,l[i]?=some x→∃us:List Value,aI [] (old W) W (ea x) us∧us.length=P.cellsOf e∧∀j,j<us.length→W.cell? ((a.add (i*P.cellsOf e)).add j)=us[j]?:=by
   intro k;induction k with
   | zero=>intro _;exact⟨[],rfl,by simp,by simp⟩
   | succ k ih =>
     intro hk;obtain⟨l,hl,hs,hi⟩:=ih (by omega);obtain⟨x,hx1,hx2⟩:=key k (by omega);refine⟨l++[x],by simp[hl], ?_,fun i y hy=>?_⟩
     ·rw[Gt,dO (by omega),Option.toList_some];simp only[List.map_append,Aj,List.sum_append,IF,List.map_nil,List.sum_cons,List.sum_nil,Rows.uptoBulkAll];omega
     rcases Nat.lt_trichotomy i k with q|q|q
     ·rw[iD (by omega)]at hy;exact hi i y hy
     ·subst q;rw[iF (by omega)]at hy;simp[hl]at hy;subst hy;exact hx2
     ·rw[mK (by simp;omega)]at hy;cases hy
  obtain⟨l,hl,hs,hi⟩:=hlist len (by omega);rw[Of (by omega)]at hs;refine⟨l, ?_,by simp[hc],by show (l.map sz).sum+1≤_;rw[Rows.uptoBulk];omega⟩;simp only[dc,kF,and_true];rw[ax];refine⟨some a,cap,by simp[hl],by simpa[hl]using hlc,hcm, ?_⟩;cases l with
  | nil=>exact .inl rfl
  | cons x0 l0 =>
    right;obtain⟨us0,_,hu0,hu1⟩:=hi 0 x0 rfl;obtain⟨b,off,spot⟩:=a;have hsp:spot=none:=by
     have h1:=hu1 0 (by omega);rw[dO (by omega)]at h1;simpa[Addr.add]using World.cell?_spot h1
    subst hsp;refine⟨b,off,rfl,da.mk fun i r hr=>?_⟩;rw[lE]at hr;cases hxi:(x0:: l0)[i]? with
    | none=>rw[hxi]at hr;cases hr
    | some x =>
      rw[hxi]at hr;cases hr;obtain⟨us,k1,k2,k3⟩:=hi i x hxi;refine⟨by rw[k1.length];exact k2,bZ.mk fun j c ec=>?_⟩;obtain⟨u,e1,e2⟩:=k1.get j c ec;have h1:=k3 j (gE.1 e1).1;rw[e1,Aw.add_plain,Aw.add_plain]at h1;refine⟨u,h1, ?_,e2⟩;show b<W.heap.size;unfold World.cell? at h1;split at h1
      ·rename_i c1 c2 c3 hh;exact (BY.1 hh).1
      ·cases h1
theorem LH:∀l:List Vl,(l.map zV).sum=aW l
 | []=>by simp[aW]
 | x:: l=>by rw[IF,List.sum_cons,aW,LH l]
abbrev Tkn:=Int×aD×Int×aD×Bool
def TS(x:Tkn):List AV:=[.v (.int .u8 x.1),.str x.2.1,i_ x.2.2.1,.str x.2.2.2.1,b_ x.2.2.2.2]
theorem Nr(F:Nat):ma F p_ 48 (fun x:Int×Int×Int=>[i_ x.1,i_ x.2.1,i_ x.2.2]) (fun _=>1):=by
 intro H enc W fuel cs d ps hF h;obtain⟨xs,n,rfl,e1,hl,hn,hf⟩:=DataW.trod_array Tryz.underlying48 h
 match xs,hn with
 | [y0,y1,y2],_ =>
   have h0:=hf 0 (by omega);have h1:=hf 1 (by omega);have h2:=hf 2 (by omega);rw[show p_.cellsOf 48=3 by kernel_rfl]at hl
   match cs,hl with
   | [c0,c1,c2],_ =>
     obtain⟨a,r0,_,_⟩:=lk (F:=n) Tryz.underlying3 (by kernel_rfl) H enc W n _ y0.1 y0.2 (aS _) h0;obtain⟨b,r1,_,_⟩:=lk (F:=n) Tryz.underlying3 (by kernel_rfl) H enc W n _ y1.1 y1.2 (aS _) h1;obtain⟨c,r2,_,_⟩:=lk (F:=n) Tryz.underlying3 (by kernel_rfl) H enc W n _ y2.1 y2.2 (aS _) h2;simp only[aaZ]at e1;obtain⟨rfl,_⟩:=e1;have r0:aI [] (old W) W [i_ a] [c0]:=r0;have r1:aI [] (old W) W [i_ b] [c1]:=r1;have r2:aI [] (old W) W [i_ c] [c2]:=r2;exact⟨(a,b,c),(r0.append r1).append r2,by rw[show p_.cellsOf 48=3 by kernel_rfl];rfl,by show 1≤_;rw[Rows.uptoBulk];omega⟩
def Jr(x:Dc):Nat:=x.name.length+aW x.value+x.whole.length
end
end Go.Proofs.YtldpambpnajgiaaGreatDoor
end
