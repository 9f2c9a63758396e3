/-
 What functions of the translation ask,held against their code by the kernel. Printed by a program.
 No conditions.
-/
import Derived.Test.YtkfakehconamoaaGreatDoorProg
import Derived.KernelRfl
import Derived.Test.YtkfakehconamoaaGreatDoorZc
import Derived.Test.YtkfakehconamoaaGreatDoorZi
import Derived.Test.YtkfakehconamoaaGreatDoorZg
import Derived.Test.YtkfakehconamoaaGreatDoorZh
set_option linter.unusedVariables false
set_option linter.unusedSimpArgs false
set_option linter.unusedSectionVars false
set_option linter.defProp false
set_option autoImplicit true
set_option maxRecDepth 1000000
set_option maxHeartbeats 16000000
open Go.Proofs.Tryz renaming prog→p_
noncomputable section
namespace Go.Proofs.YtkfakehconamoaaGreatDoor
section
open Go Go.Aw
variable [Laid]
def Vr(i:AV)(h:aa)(K:AV→aa→Prop):Prop:=
 iC p_ 34 [i] h fun a b=>ay 0 a fun j=>ay 1 a fun c=>qBe .neq c 0 fun k=>af k (K (.aw [qNs,c]) b) (iC p_ 35 [j] b fun d e=>ay 0 d fun l=>ay 1 d fun f=>qBe .neq f 0 fun m=>af m (K (.aw [qNs,f]) e) (iC p_ 36 [l] e fun g n=>ay 0 g fun o=>ay 1 g fun p=>K (.aw [o,p]) n))
def ZN(a:AV):Body p_ 22 [a] (Vr a):=mkB Tryz.func22 .nil 27 [.tmp 2,.tmp 3]
def VD(g:AV)(h:aa)(K:AV→aa→Prop):Prop:=
 iC p_ 54 [g] h fun a b=>ay 0 a fun i=>ay 1 a fun c=>qBe .neq c 0 fun j=>af j (K (.aw [qNs,c]) b) (iC p_ 55 [i] b fun d e=>ay 0 d fun f=>ay 1 d fun m=>aU f fun k=>qBe .gtr k 1500 fun l=>af l (K (.aw [qNs,i_ 4]) e) (K (.aw [f,i_ 0]) e))
def ZZ(a:AV):Body p_ 34 [a] (VD a):=mkB Tryz.func34 .nil 25 [.tmp 2,.tmp 3]
def VY(a:AV)(h:aa)(K:AV→aa→Prop):Prop:=
 cn a fun b=>qBe .gtr b 4000 fun c=>af c (K (.aw [.str [],i_ 28]) h) (iC p_ 74 [a] h fun d e=>K (.aw [d,i_ 0]) e)
def V54(a:AV):Body p_ 54 [a] (VY a):=mkB Tryz.func54 .nil 9 [.tmp 2,.tmp 3]
def Wl(b:AV)(h:aa)(K:AV→aa→Prop):Prop:=
 bc [.str [],i_ 0] h fun o a d =>
 cn b fun p=>ag .lss (nx a 1) p fun q=>af q (aI (fun e=>dW b (nx a 1) fun c=>ag .eql c (u8 10) fun r=>qJa r [b,nx a 0,nx a 1,c] d (fun s=>qBe .gtr (nx a 1) 0 fun t=>s t d) fun u g=>qJa u [b,nx a 0,nx a 1,c] g (fun v=>qBe .sub (nx a 1) 1 fun w=>dW b w fun x=>ag .eql x (u8 13) fun y=>v y g) fun z f=>af z (eC [b,nx a 1] (e [nx a 0] f)) (aI (fun i=>ag .eql c (u8 13) fun A=>qJo A [b,nx a 0,nx a 1,c] f (fun B=>ag .eql c (u8 12) fun C=>B C f) fun D j=>af D (eC [b,nx a 0,nx a 1] (i [u8 10] j)) (eC [b,nx a 0,nx a 1] (i [c] j))) fun k l=>ag .eql (nx k 0) (u8 0) fun E=>af E (dF 5 3 1 (u8 0) [(0,1,(u8 239)),(1,1,(u8 191)),(2,1,(u8 189))] l fun F m=>dk F m fun G=>ag .add (nx a 0) G fun H=>eC [b,nx a 1] (e [H] m)) (dF 5 1 1 (u8 0) [(0,1,(nx k 0))] l fun I n=>dk I n fun J=>ag .add (nx a 0) J fun L=>eC [b,nx a 1] (e [L] n)))) fun M N=>qBe .add (nx a 1) 1 fun O=>eC [b] (o [nx M 0,O] N)) (K (nx a 0) d)
def V74(a:AV):Body p_ 74 [a] (Wl a):=mkB Tryz.func74 (sn (sn (.seq (sn (.one (.loop [0] [3,4] (sn (.join [0,4] [3] (.one (sn (.seq (.seq (.aO (oR 0 3 (.aA 2 true (fR 3 2) [0,3,4,5] [17,19]::oR 5 2 (.aA 6 true (fR 7 5) [0,3,4,5] [21,26]::.op 12 false::[])))) .nil) (.join [0,3,4] [5] (.seq (.aO (oR 0 3 (.aA 2 false (fR 3 2) [0,3,4,5] [30,32]::.op 5 false::[]))) .nil) .nil)))) .nil))))) .nil))) 46 [.tmp 2]
def VZ(b:AV)(h:aa)(K:AV→aa→Prop):Prop:=
 iC p_ 75 [b,i_ 0] h fun i j=>bc [qNs,qNs,i] j fun k a c =>
 cn b fun l=>ag .lss (nx a 2) l fun m=>af m (iC p_ 76 [b,nx a 2] c fun d n=>ay 0 d fun o=>ay 1 d fun e=>aB 83 (.agg [u8 0,.str [],i_ 0,.str [],ff]) n fun f p=>ah 5 f o p fun g=>ae true 5 f g fun q=>dF 83 1 5 (.agg [u8 0,.str [],i_ 0,.str [],ff]) [(0,5,q)] g fun r s=>bN false 83 5 56 (nx a 0) r s fun t u=>bf (.agg [i_ 0,i_ 0]) [(0,1,(nx a 2)),(1,1,e)] fun v=>dF 144 1 2 (.agg [i_ 0,i_ 0]) [(0,2,v)] u fun w x=>bN false 144 2 16 (nx a 1) w x fun y z=>iC p_ 75 [b,e] z fun A B=>eC [b] (k [t,y,A] B)) (K (.aw [nx a 0,nx a 1]) c)
def V55(a:AV):Body p_ 55 [a] (VZ a):=mkB Tryz.func55 (sn (sn (sn (.seq (sn (.one (.loop [0] [4,5,6] .nil))) .nil)))) 36 [.tmp 2,.tmp 3]
def Wm(a g:AV)(h:aa)(K:AV→aa→Prop):Prop:=
 bc [g] h fun i c j =>
 iC p_ 121 [a,nx c 0,.str [47,42]] j fun k d=>af k (qBe .add (nx c 0) 2 fun l=>bc [l] d fun m b e =>
 cn a fun n=>ag .lss (nx b 0) n fun o=>qJa o [a,nx b 0] e (fun p=>iC p_ 121 [a,nx b 0,.str [42,47]] e fun q r=>bT q fun s=>p s r) fun t f=>af t (qBe .add (nx b 0) 1 fun u=>eC [a] (m [u] f)) (cn a fun v=>qBe .add (nx b 0) 2 fun w=>kD v w fun x=>eC [a] (i [x] f))) (K (nx c 0) d)
def V75(a b:AV):Body p_ 75 [a,b] (Wm a b):=mkB Tryz.func75 (sn (.seq (.one (.loop [0] [1] (sn (.one (sn (.seq (.one (.loop [0] [1] (.seq (.seq (.aO (oR 0 5 (.aA 4 true (fR 5 4) [0,1] [14,18]::.op 9 false::[]))) .nil) .nil))) .nil)))))) .nil)) 28 [.tmp 4]
def QJ(c a b:AV)(h:aa)(K:AV→aa→Prop):Prop:=
 cn c fun d=>ag .sub d a fun e=>cn b fun f=>ag .geq e f fun g=>qKa g h (fun i=>cn b fun j=>ag .add a j fun k=>eS c (some a) (some k) fun l=>ag .eql l b fun m=>i m h) fun n o=>K n o
def Xl(a b c:AV):Body p_ 121 [a,b,c] (QJ a b c):=mkB Tryz.func121 (sn (.seq (.aO (oR 0 8 (.aA 7 true (fR 8 9) [] [14,23]::oR 17 2 []))) .nil)) 25 [.tmp 6]
def VE(a:AV)(h:aa)(K:AV→aa→Prop):Prop:=
 aU a fun f=>qBe .gtr f 1500 fun g=>af g (K (.aw [qNs,i_ 4]) h) (iC p_ 56 [a] h fun b c=>ay 0 b fun d=>ay 1 b fun i=>bT i fun j=>af j (K (.aw [qNs,i_ 20]) c) (iC p_ 57 [d] c fun k e=>aU k fun l=>qBe .gtr l 1500 fun m=>af m (K (.aw [qNs,i_ 4]) e) (K (.aw [d,i_ 0]) e)))
def Z0(a:AV):Body p_ 35 [a] (VE a):=mkB Tryz.func35 .nil 21 [.tmp 2,.tmp 3]
def V0(b:AV)(h:aa)(K:AV→aa→Prop):Prop:=
 iC p_ 77 [b,i_ 0,u8 0,i_ 16] h fun a c=>ay 0 a fun d=>ay 1 a fun e=>qBe .geq e 0 fun f=>K (.aw [d,f]) c
def V56(a:AV):Body p_ 56 [a] (V0 a):=mkB Tryz.func56 .nil 14 [.tmp 2,.tmp 3]
def Wn(b y c d:AV)(h:aa)(K:AV→aa→Prop):Prop:=
 bc [y,qNs] h fun z a k =>
 aU b fun A=>ag .lss (nx a 0) A fun l=>aI (fun m=>aL l true (ag .eql c (u8 0) fun B=>eC [b,nx a 0,c,d,nx a 1] (m [tt,B] k)) (eC [b,nx a 0,c,d,nx a 1] (m [bO true l,un] k))) fun f g=>aI (fun n=>aL (nx f 1) false (au 5 b (nx a 0) fun C=>iFL 0 false 1 C g fun D=>ag .neq D c fun E=>eC [b,nx a 0,c,d,nx a 1,nx f 0] (n [ff,E] g)) (eC [b,nx a 0,c,d,nx a 1,nx f 0] (n [(bO false (nx f 1)),un] g))) fun o p=>qJa (nx f 0) [b,nx a 0,c,d,nx a 1] p (fun F=>bG (nx o 0) tt (nx o 1) fun G=>F G p) fun H i=>af H (au 5 b (nx a 0) fun I=>ae true 5 I i fun J=>bf (.agg [u8 0,.str [],i_ 0,.str [],ff,qNs]) [(0,5,J)] fun L=>aB 87 (.agg [u8 0,.str [],i_ 0,.str [],ff,qNs]) i fun e M=>ah 6 e L M fun q=>qBe .add (nx a 0) 1 fun r=>aI (fun s=>aN 0 e fun N=>iFL 0 false 1 N q fun O=>iC p_ 78 [O] q fun t j=>ag .neq t (u8 0) fun P=>af P (qBe .eql d 0 fun Q=>af Q (K (.aw [qNs,i_ (-1)]) j) (qBe .sub d 1 fun R=>iC p_ 77 [b,r,t,R] j fun u S=>ay 0 u fun T=>ay 1 u fun v=>aN 5 e fun U=>ah 1 U T S fun w=>qBe .lss v 0 fun V=>af V (K (.aw [qNs,i_ (-1)]) w) (eC [b,c,d,nx a 1,e] (s [v] w)))) (eC [b,c,d,nx a 1,e] (s [r] j))) fun W x=>ae true 6 e x fun X=>dF 87 1 6 (.agg [u8 0,.str [],i_ 0,.str [],ff,qNs]) [(0,6,X)] x fun Y Z=>bN false 87 6 80 (nx a 1) Y Z fun a0 a1=>eC [b,c,d] (z [nx W 0,a0] a1)) (aU b fun a2=>qBe .add (nx a 0) 1 fun a3=>kD a2 a3 fun a4=>K (.aw [nx a 1,a4]) i)
def V77(a b c d:AV):Body p_ 77 [a,b,c,d] (Wn a b c d):=mkB Tryz.func77 (sn (sn (.seq (.one (.loop [0,2,3] [1,10] (.seq (.seq (.aO (oR 0 5 (.aA 4 true (fR 5 3) [0,1,2,3,10] [17,20]::.aA 7 false (fR 8 7) [0,1,2,3,10,17] [20,27]::.aA 4 true [(15,false)] [0,1,2,3,10] [17,28]::.op 16 false::[]))) .nil) (.one (sn (sn (.join [0,2,3,10,11] [1] .nil .nil))))))) .nil))) 67 [.tmp 8,.tmp 9]
def V1(b:AV)(h:aa)(K:AV→aa→Prop):Prop:=
 bc [qNs,i_ 0] h fun j a c =>
 aU b fun k=>ag .lss (nx a 1) k fun l=>af l (aI (fun e=>au 6 b (nx a 1) fun m=>iFL 0 true 5 m c fun n=>dF 83 1 5 (.agg [u8 0,.str [],i_ 0,.str [],ff]) [(0,5,n)] c fun o p=>bN false 83 5 56 (nx a 0) o p fun f g=>au 6 b (nx a 1) fun q=>aN 0 q fun r=>iFL 0 false 1 r g fun s=>iC p_ 78 [s] g fun i d=>ag .neq i (u8 0) fun t=>af t (au 6 b (nx a 1) fun u=>iFL 5 false 1 u d fun v=>iC p_ 57 [v] d fun w x=>bN false 83 5 56 f w x fun y z=>bf (.agg [u8 0,.str [],i_ 0,.str [],ff]) [(0,1,i)] fun A=>dF 83 1 5 (.agg [u8 0,.str [],i_ 0,.str [],ff]) [(0,5,A)] z fun B C=>bN false 83 5 56 y B C fun D E=>eC [b,nx a 1] (e [D] E)) (eC [b,nx a 1] (e [f] d))) fun F G=>qBe .add (nx a 1) 1 fun H=>eC [b] (j [nx F 0,H] G)) (K (nx a 0) c)
def V57(a:AV):Body p_ 57 [a] (V1 a):=mkB Tryz.func57 (sn (sn (.seq (sn (.one (.loop [0] [3,4] (sn (.join [0,4] [3] .nil .nil))))) .nil))) 43 [.tmp 2]
def VF(f:AV)(h:aa)(K:AV→aa→Prop):Prop:=
 bf (.agg [i_ 0,ff]) [] fun e=>iC p_ 58 [f,e,ff,ff] h fun a b=>ay 0 a fun c=>ay 1 a fun g=>bT g fun i=>af i (K (.aw [qNs,i_ 12]) b) (iC p_ 59 [c] b fun j d=>qBe .gtr j 64 fun k=>af k (K (.aw [qNs,i_ 4]) d) (K (.aw [c,i_ 0]) d))
def Z1(a:AV):Body p_ 36 [a] (VF a):=mkB Tryz.func36 .nil 18 [.tmp 2,.tmp 3]
def V2(n l e g:AV)(h:aa)(K:AV→aa→Prop):Prop:=
 aB 114 l h fun c m=>iC p_ 79 [n,u8 18] m fun b o=>bc [qNs,i_ 0] o fun p a d =>
 aU b fun q=>ag .lss (nx a 1) q fun r=>af r (aI (fun i=>au 1 b (nx a 1) fun s=>ae false 1 s d fun t=>ae true 2 c d fun u=>pf p_ (.fn (.func 80) [] []) [t,u,e] [] fun j=>ay 0 j fun v=>ay 1 j fun w=>aB 118 (.agg [u8 0,qNs,qNs]) d fun k x=>ah 3 k v x fun f=>af w (ae true 3 k f fun y=>dF 118 1 3 (.agg [u8 0,qNs,qNs]) [(0,3,y)] f fun z A=>bN false 118 3 56 (nx a 0) z A fun B C=>eC [e,g,c,b,nx a 1] (i [B] C)) (bT g fun D=>af D (K (.aw [qNs,ff]) f) (eC [e,g,c,b,nx a 1] (i [nx a 0] f)))) fun E F=>qBe .add (nx a 1) 1 fun G=>eC [e,g,c,b] (p [nx E 0,G] F)) (K (.aw [nx a 0,tt]) d)
def V58(a b c d:AV):Body p_ 58 [a,b,c,d] (V2 a b c d):=mkB Tryz.func58 (sn (sn (sn (.seq (sn (.one (.loop [2,3,5,11] [10,12] (sn (.join [2,3,5,11,12] [10] (.one (.seq (.fF [(0,0,false),(1,0,false),(2,0,false),(3,3,false),(4,3,false),(5,0,false),(6,0,false),(7,0,false),(8,0,false),(9,0,false),(10,2,false),(11,2,false),(12,0,false)]) .nil)) .nil))))) .nil)))) 41 [.tmp 8,.tmp 9]
def Wo(b c:AV)(h:aa)(K:AV→aa→Prop):Prop:=
 dF 61 1 1 qNs [(0,1,qNs)] h fun o p=>bc [o,i_ 0] p fun q a f =>
 aU b fun r=>ag .lss (nx a 1) r fun s=>af s (aI (fun g=>au 6 b (nx a 1) fun t=>aN 0 t fun u=>iFL 0 false 1 u f fun v=>ag .eql v c fun w=>af w (dF 61 1 1 qNs [(0,1,qNs)] f fun x y=>bN false 61 1 24 (nx a 0) x y fun z A=>eC [b,c,nx a 1] (g [z] A)) (aI (fun i=>aB 4 ff f fun d j=>(ah 1 d tt j fun B=>ah 1 d ff B fun k=>ae false 1 d k fun C=>eC [b,c,nx a 0,nx a 1] (i [C] k))∧(ah 1 d ff j fun D=>ah 1 d tt D fun l=>ae false 1 d l fun E=>eC [b,c,nx a 0,nx a 1] (i [E] l))) fun F e=>af (nx F 0) (dX (nx a 0) fun G=>qBe .sub G 1 fun H=>dX (nx a 0) fun I=>qBe .sub I 1 fun J=>au 1 (nx a 0) J fun L=>ae false 1 L e fun m=>au 6 b (nx a 1) fun M=>ae true 6 M e fun N=>dX m fun O=>dF 87 1 6 (.agg [u8 0,.str [],i_ 0,.str [],ff,qNs]) [(0,6,(.agg [u8 0,.str [],i_ 0,.str [],ff,qNs]))] e fun P Q=>bN false 87 6 80 m P Q fun n R=>au 1 (nx a 0) H fun S=>ah 1 S n R fun T=>au 6 n O fun U=>ah 6 U N T fun V=>eC [b,c,nx a 1] (g [nx a 0] V)) (dX (nx a 0) fun W=>qBe .sub W 1 fun X=>dX (nx a 0) fun Y=>qBe .sub Y 1 fun Z=>au 1 (nx a 0) Z fun a0=>ae false 1 a0 e fun a1=>au 6 b (nx a 1) fun a2=>ae true 6 a2 e fun a3=>dF 87 1 6 (.agg [u8 0,.str [],i_ 0,.str [],ff,qNs]) [(0,6,a3)] e fun a4 a5=>bN false 87 6 80 a1 a4 a5 fun a6 a7=>au 1 (nx a 0) X fun a8=>ah 1 a8 a6 a7 fun a9=>eC [b,c,nx a 1] (g [nx a 0] a9)))) fun b0 b1=>qBe .add (nx a 1) 1 fun b2=>eC [b,c] (q [nx b0 0,b2] b1)) (K (nx a 0) f)
def V79(a b:AV):Body p_ 79 [a,b] (Wo a b):=mkB Tryz.func79 (sn (sn (.seq (sn (.one (.loop [0,1] [5,6] (sn (.join [0,1,6] [5] (.one (sn (.two .nil (.join [0,1,5,6] [26] (.CN (.one 0 2 false (.two (.one 1 2 false (.one 2 2 false (.one 3 1 false .nil))) (.one 2 2 false (.one 1 2 false (.one 3 1 false .nil)))))) (.two (.seq (.fF [(0,0,false),(1,0,false),(2,0,false),(3,0,false),(4,0,false),(5,0,false),(6,0,false),(7,0,false),(8,0,false),(9,3,false),(10,0,false),(11,0,false),(12,0,false),(13,3,false),(14,0,false),(15,2,false),(16,2,false),(17,0,false),(18,2,false)]) .nil) (.fF [(0,0,false),(1,0,false),(2,0,false),(3,0,false),(4,0,false),(5,0,false),(6,0,false),(7,0,false),(8,0,false),(9,3,false),(10,0,false),(11,0,false),(12,0,false),(13,1,false),(14,2,false),(15,2,false),(16,0,false),(17,2,false)])))))) .nil))))) .nil))) 64 [.tmp 4]
def Wp(C y D:AV)(h:aa)(K:AV→aa→Prop):Prop:=
 aB 114 y h fun d z=>aB 118 (.agg [u8 0,qNs,qNs]) z fun c A=>aB 118 (.agg [u8 0,qNs,qNs]) A fun a B=>iC p_ 133 [C] B fun b m=>aI (fun i=>af D (aN 0 a fun E=>ah 1 E (u8 1) m fun F=>iC p_ 134 [b,i_ 0] F fun n o=>ag .neq n (u8 0) fun G=>af G (aN 0 a fun H=>ah 1 H n o fun I=>iC p_ 135 [b,i_ 1] I fun J L=>eC [b,d,c,a] (i [J] L)) (eC [b,d,c,a] (i [i_ 0] o))) (eC [b,d,c,a] (i [i_ 0] m))) fun M N=>bc [nx M 0] N fun O P p =>
 ae true 2 d p fun Q=>iC p_ 136 [b,nx P 0,Q] p fun j R=>ay 0 j fun S=>ay 1 j fun k=>ay 2 j fun T=>aB 121 (.agg [.str [],qNs]) R fun q U=>ah 2 q S U fun e=>bT T fun V=>af V (ae true 3 a e fun W=>ah 3 c W e fun r=>ae true 3 c r fun r36=>K (.aw [r36,ff]) r) (iFL 1 false 1 a e fun X=>ae true 2 q e fun Y=>dF 121 1 2 (.agg [.str [],qNs]) [(0,2,Y)] e fun Z a0=>bN false 121 2 40 X Z a0 fun a1 a2=>aN 1 a fun a3=>ah 1 a3 a1 a2 fun l=>aU b fun a4=>ag .eql k a4 fun a5=>af a5 (ae true 3 a l fun a6=>aN 1 a fun a7=>ae false 1 a7 [] fun a8=>dX a8 fun a9=>qBe .leq a9 64 fun b0=>ah 3 c a6 l fun s=>ae true 3 c s fun r54=>K (.aw [r54,b0]) s) (iC p_ 135 [b,k] l fun f b1=>iC p_ 134 [b,f] b1 fun t g=>aI (fun u=>ag .neq t (u8 0) fun b2=>af b2 (qBe .add f 1 fun b3=>iC p_ 135 [b,b3] g fun b4 b5=>eC [b,d,c,a] (u [b4,t] b5)) (ag .gtr f k fun b6=>af b6 (eC [b,d,c,a] (u [f,u8 1] g)) (ae true 3 a g fun b7=>ah 3 c b7 g fun v=>ae true 3 c v fun r67=>K (.aw [r67,ff]) v))) fun w x=>iFL 2 false 1 a x fun b8=>dF 5 1 1 (u8 0) [(0,1,(nx w 1))] x fun b9 c0=>bN false 5 1 1 b8 b9 c0 fun c1 c2=>aN 2 a fun c3=>ah 1 c3 c1 c2 fun c4=>eC [b,d,c,a] (O [nx w 0] c4)))
def V80(a b c:AV):Body p_ 80 [a,b,c] (Wp a b c):=mkB Tryz.func80 (sn (sn (sn (sn (.join [0,4,6,8] [9] .nil (.one (.loop [0,4,6,8] [9] (.one (sn (sn (sn (.seq (sn (.two (.seq (.fF [(0,1,false),(1,0,false),(2,0,false),(3,0,false),(4,0,false),(5,2,false),(6,0,false)]) .nil) .nil)) (sn (sn (.join [0,4,6,8] [9,14] .nil .nil))))))))))))))) 75 [.cell 6 118,.tmp 7]
def QK(g:AV)(h:aa)(K:AV→aa→Prop):Prop:=
 bc [g] h fun i b c =>
 aU (nx b 0) fun j=>qBe .gtr j 0 fun k=>qJa k [nx b 0] c (fun l=>au 6 (nx b 0) (i_ 0) fun m=>aN 0 m fun n=>iFL 0 false 1 n c fun o=>ag .eql o (u8 13) fun p=>l p c) fun q e=>af q (iB 6 (nx b 0) (some (i_ 1)) none fun r=>i [r] e) (bc [nx b 0] e fun s a d =>
 aU (nx a 0) fun t=>qBe .gtr t 0 fun u=>qJa u [nx a 0] d (fun v=>aU (nx a 0) fun w=>qBe .sub w 1 fun x=>au 6 (nx a 0) x fun y=>aN 0 y fun z=>iFL 0 false 1 z d fun A=>ag .eql A (u8 13) fun B=>v B d) fun C f=>af C (aU (nx a 0) fun D=>qBe .sub D 1 fun E=>iB 6 (nx a 0) none (some E) fun F=>s [F] f) (K (nx a 0) f))
def Xm(a:AV):Body p_ 133 [a] (QK a):=mkB Tryz.func133 (sn (.seq (.one (.loop [] [0] (.seq (.seq (.aO (oR 0 4 (.aA 3 true (fR 4 6) [0] [6,12]::.op 10 false::[]))) .nil) .nil))) (.seq (.one (.loop [] [0] (.seq (.seq (.aO (oR 0 4 (.aA 3 true (fR 4 9) [0] [19,28]::.op 13 false::[]))) .nil) .nil))) .nil))) 36 [.tmp 2]
def QL(d f r:AV)(h:aa)(K:AV→aa→Prop):Prop:=
 aB 114 r h fun e s=>aB 121 (.agg [.str [],qNs]) s fun c t=>aB 121 (.agg [.str [],qNs]) t fun a u=>aI (fun i=>iC p_ 189 [d,f,u8 1,.str []] u fun v j=>af v (au 6 d f fun w=>aN 0 w fun x=>iFL 1 false 1 x j fun y=>iC p_ 190 [y] j fun z A=>aN 0 a fun B=>ah 1 B z A fun C=>qBe .add f 1 fun D=>eC [d,e,c,a] (i [D] C)) (iC p_ 189 [d,f,u8 9,.str [42]] j fun E l=>af E (aN 0 a fun F=>ah 1 F (.str [42]) l fun G=>qBe .add f 1 fun H=>eC [d,e,c,a] (i [H] G)) (eC [d,e,c,a] (i [f] l)))) fun I J=>bc [nx I 0] J fun L g m =>
 ae true 2 e m fun M=>iC p_ 191 [d,nx g 0,M] m fun k N=>ay 0 k fun O=>ay 1 k fun n=>ay 2 k fun P=>aB 99 (.agg [u8 0,.str [],u8 0,.str [],ff,i_ 0,i_ 0,ff,qNs]) N fun o Q=>ah 9 o O Q fun b=>bT P fun R=>af R (ae true 2 a b fun S=>ah 2 c S b fun p=>ae true 2 c p fun r41=>K (.aw [r41,nx g 0,ff]) p) (ag .eql n (nx g 0) fun T=>af T (ae true 2 a b fun U=>ae true 2 a b fun V=>ae true 2 e b fun W=>iQ p_ 137 [V,W] b fun X=>ah 2 c U b fun q=>ae true 2 c q fun r48=>K (.aw [r48,nx g 0,X]) q) (iFL 1 false 1 a b fun Y=>ae true 9 o b fun Z=>dF 99 1 9 (.agg [u8 0,.str [],u8 0,.str [],ff,i_ 0,i_ 0,ff,qNs]) [(0,9,Z)] b fun a0 a1=>bN false 99 9 104 Y a0 a1 fun a2 a3=>aN 1 a fun a4=>ah 1 a4 a2 a3 fun a5=>eC [d,e,c,a] (L [n] a5)))
def Xn(a b c:AV):Body p_ 136 [a,b,c] (QL a b c):=mkB Tryz.func136 (sn (sn (.join [0,5,6,9] [1] .nil (.one (.loop [0,5,6,9] [1] (.one (sn (sn (.seq (sn (.two (.seq (.fF [(0,1,false),(1,0,false),(2,1,false),(3,1,false),(4,1,false),(5,2,false),(6,0,false),(7,0,false)]) .nil) .nil)) .nil))))))))) 59 [.cell 6 121,.tmp 7,.tmp 8]
def Rn(b a D:AV)(h:aa)(K:AV→aa→Prop):Prop:=
 aB 114 D h fun e E=>aB 99 (.agg [u8 0,.str [],u8 0,.str [],ff,i_ 0,i_ 0,ff,qNs]) E fun c F=>iC p_ 189 [b,a,u8 4,.str []] F fun G f=>af G (au 6 b a fun H=>aN 0 H fun I=>iFL 1 false 1 I f fun J=>bf (.agg [u8 0,.str [],u8 0,.str [],ff,i_ 0,i_ 0,ff,qNs]) [(0,1,(u8 1)),(1,1,J)] fun L=>qBe .add a 1 fun M=>au 6 b a fun N=>aN 0 N fun O=>aN 4 O fun P=>ae false 1 P [] fun Q=>ah 9 c L f fun k=>ae true 9 c k fun r18=>K (.aw [r18,M,Q]) k) (iC p_ 189 [b,a,u8 9,.str [46]] f fun R l=>af R (qBe .add a 1 fun S=>iC p_ 189 [b,S,u8 1,.str []] l fun T g=>bT T fun U=>af U (bf (.agg [u8 0,.str [],u8 0,.str [],ff,i_ 0,i_ 0,ff,qNs]) [] fun V=>ah 9 c V g fun m=>ae true 9 c m fun r27=>K (.aw [r27,a,ff]) m) (qBe .add a 1 fun W=>au 6 b W fun X=>aN 0 X fun Y=>iFL 1 false 1 Y g fun Z=>bf (.agg [u8 0,.str [],u8 0,.str [],ff,i_ 0,i_ 0,ff,qNs]) [(0,1,(u8 2)),(1,1,Z)] fun a0=>qBe .add a 2 fun a1=>ah 9 c a0 g fun n=>ae true 9 c n fun r36=>K (.aw [r36,a1,tt]) n)) (iC p_ 189 [b,a,u8 19,.str []] l fun a2 i=>af a2 (au 6 b a fun a3=>iFL 5 false 1 a3 i fun a4=>iC p_ 241 [a4] i fun o a5=>ay 0 o fun a6=>ay 1 o fun a7=>aB 99 (.agg [u8 0,.str [],u8 0,.str [],ff,i_ 0,i_ 0,ff,qNs]) a5 fun p a8=>ah 9 p a6 a8 fun q=>ae true 9 p q fun a9=>qBe .add a 1 fun b0=>ah 9 c a9 q fun r=>ae true 9 c r fun r52=>K (.aw [r52,b0,a7]) r) (iC p_ 189 [b,a,u8 16,.str []] i fun b1 s=>qJa b1 [b,a,e,c] s (fun b2=>qBe .add a 1 fun b3=>iC p_ 189 [b,b3,u8 1,.str []] s b2) fun b4 j=>af b4 (qBe .add a 1 fun b5=>au 6 b b5 fun b6=>aN 0 b6 fun b7=>iFL 1 false 1 b7 j fun b8=>iC p_ 242 [b8] j fun t b9=>ay 0 t fun c0=>ay 1 t fun c1=>aB 99 (.agg [u8 0,.str [],u8 0,.str [],ff,i_ 0,i_ 0,ff,qNs]) b9 fun u c2=>ah 9 u c0 c2 fun v=>ae true 9 u v fun c3=>qBe .add a 2 fun c4=>ah 9 c c3 v fun w=>ae true 9 c w fun r77=>K (.aw [r77,c4,c1]) w) (iC p_ 189 [b,a,u8 16,.str []] j fun c5 x=>qJa c5 [b,a,e,c] x (fun c6=>qBe .add a 1 fun c7=>iC p_ 189 [b,c7,u8 2,.str []] x c6) fun c8 d=>af c8 (qBe .add a 1 fun c9=>au 6 b c9 fun d0=>aN 0 d0 fun d1=>iFL 1 false 1 d1 d fun d2=>qBe .add a 1 fun d3=>au 6 b d3 fun d4=>iFL 5 false 1 d4 d fun d5=>ae true 2 e d fun d6=>pf p_ (.fn (.func 243) [] []) [d2,d5,d6] [] fun y=>ay 0 y fun d7=>ay 1 y fun d8=>aB 99 (.agg [u8 0,.str [],u8 0,.str [],ff,i_ 0,i_ 0,ff,qNs]) d fun z d9=>ah 9 z d7 d9 fun A=>ae true 9 z A fun e0=>qBe .add a 2 fun e1=>ah 9 c e0 A fun B=>ae true 9 c B fun r106=>K (.aw [r106,e1,d8]) B) (bf (.agg [u8 0,.str [],u8 0,.str [],ff,i_ 0,i_ 0,ff,qNs]) [] fun e2=>iC p_ 189 [b,a,u8 16,.str []] d fun e3 e4=>bT e3 fun e5=>ah 9 c e2 e4 fun C=>ae true 9 c C fun r112=>K (.aw [r112,a,e5]) C)))))
def XX(a b c:AV):Body p_ 191 [a,b,c] (Rn a b c):=mkB Tryz.func191 (sn (.seq (.one (sn (.two (.seq (.fF [(0,0,false),(1,0,false),(2,0,false),(3,0,false),(4,0,false),(5,1,false),(6,0,false),(7,0,false),(8,0,false),(9,0,false),(10,0,false),(11,0,false),(12,0,false),(13,0,false),(14,0,false),(15,2,false),(16,0,false),(17,0,false)]) .nil) (sn (.two .nil (sn (.two .nil (.seq (.aO (oR 0 4 (.aA 3 true (fR 4 4) [0,1,5,6] [76,80]::oR 8 2 []))) (.two .nil (.seq (.aO (oR 0 4 (.aA 3 true (fR 4 4) [0,1,5,6] [101,105]::oR 8 2 []))) (.two (.seq (.fF [(0,0,false),(1,0,false),(2,0,false),(3,0,false),(4,0,false),(5,0,false),(6,3,false),(7,0,false),(8,0,false),(9,0,false),(10,0,false),(11,0,false),(12,3,false),(13,3,false),(14,0,false),(15,0,false),(16,0,false),(17,0,false),(18,2,false),(19,2,false),(20,0,false)]) .nil) .nil))))))))))) .nil)) 135 [.cell 6 99,.tmp 7,.tmp 8]
def Rm(b a g c:AV)(h:aa)(K:AV→aa→Prop):Prop:=
 qBe .geq a 0 fun o=>qJa o [b,a,g,c] h (fun p=>aU b fun q=>ag .lss a q fun r=>p r h) fun s e=>qJa s [b,a,c] e (fun t=>au 6 b a fun u=>aN 0 u fun v=>iFL 0 false 1 v e fun w=>ag .eql w g fun x=>t x e) fun i j=>aI (fun k=>aL i true (ag .eql c (.str []) fun y=>eC [b,a,c] (k [tt,y] j)) (eC [b,a,c] (k [bO true i,un] j))) fun d f=>aI (fun l=>aL (nx d 1) false (au 6 b a fun z=>aN 0 z fun A=>iFL 1 false 1 A f fun B=>ag .eql B c fun C=>eC [nx d 0] (l [ff,C] f)) (eC [nx d 0] (l [(bO false (nx d 1)),un] f))) fun m n=>qKa (nx d 0) n (fun D=>bG (nx m 0) tt (nx m 1) fun E=>D E n) fun F G=>K F G
def XW(a b c d:AV):Body p_ 189 [a,b,c,d] (Rm a b c d):=mkB Tryz.func189 (sn (.seq (.aO (oR 0 3 (.aA 2 true (fR 3 4) [0,1,2,3] [11,15]::oR 7 2 (.aA 8 true (fR 9 8) [0,1,3] [17,25]::oR 17 2 (.aA 18 true (fR 19 3) [0,1,3] [27,30]::.aA 21 false (fR 22 8) [27] [30,38]::.aA 18 true [(30,false)] [] [27,39]::oR 31 2 []))))) .nil)) 41 [.tmp 8]
def VH(a:AV)(h:aa)(K:AV→aa→Prop):Prop:=
 iC p_ 60 [a,i_ 600] h fun b c=>qBe .gtr b 600 fun d=>K d c
def Z3(a:AV):Body p_ 38 [a] (VH a):=mkB Tryz.func38 .nil 6 [.tmp 2]
def V4(b e:AV)(h:aa)(K:AV→aa→Prop):Prop:=
 bc [i_ 0,i_ 0] h fun n a l =>
 aU b fun o=>ag .lss (nx a 1) o fun p=>qJa p [b,e,nx a 0,nx a 1] l (fun q=>ag .leq (nx a 0) e fun r=>q r l) fun s j=>af s (au 3 b (nx a 1) fun t=>iFL 2 false 1 t j fun u=>aU u fun v=>ag .add (i_ 1) v fun w=>ag .add (nx a 0) w fun x=>bc [x,i_ 0] j fun y c k =>
 au 3 b (nx a 1) fun z=>iFL 1 false 1 z k fun A=>aU A fun B=>ag .lss (nx c 1) B fun C=>qJa C [b,e,nx c 0,nx a 1,nx c 1] k (fun D=>ag .leq (nx c 0) e fun E=>D E k) fun F f=>af F (au 3 b (nx a 1) fun G=>iFL 1 false 1 G f fun H=>au 2 H (nx c 1) fun I=>iFL 0 false 1 I f fun J=>cn J fun L=>ag .add (i_ 1) L fun M=>ag .add (nx c 0) M fun N=>au 3 b (nx a 1) fun O=>iFL 1 false 1 O f fun P=>au 2 P (nx c 1) fun Q=>iFL 1 false 1 Q f fun g=>bc [N,i_ 0] f fun R d m =>
 aU g fun S=>ag .lss (nx d 1) S fun T=>qJa T [b,e,nx d 0,nx a 1,nx c 1,g,nx d 1] m (fun U=>ag .leq (nx d 0) e fun V=>U V m) fun W i=>af W (au 9 g (nx d 1) fun X=>iFL 1 false 1 X i fun Y=>iT Y fun Z=>ag .add (i_ 1) Z fun a0=>au 9 g (nx d 1) fun a1=>iFL 3 false 1 a1 i fun a2=>iT a2 fun a3=>ag .add a0 a3 fun a4=>au 9 g (nx d 1) fun a5=>iFL 8 false 1 a5 i fun a6=>ag .sub e (nx d 0) fun a7=>iQ p_ 60 [a6,a7] i fun a8=>ag .add a4 a8 fun a9=>ag .add (nx d 0) a9 fun b0=>qBe .add (nx d 1) 1 fun b1=>eC [b,e,nx a 1,nx c 1,g] (R [b0,b1] i)) (qBe .add (nx c 1) 1 fun b2=>eC [b,e,nx a 1] (y [nx d 0,b2] i))) (qBe .add (nx a 1) 1 fun b3=>eC [b,e] (n [nx c 0,b3] f))) (K (nx a 0) j)
def V60(a b:AV):Body p_ 60 [a,b] (V4 a b):=mkB Tryz.func60 (sn (sn (.seq (sn (.one (.loop [0,1] [5,6] (.seq (.seq (.aO (oR 0 5 (.aA 4 true (fR 5 3) [0,1,5,6] [14,17]::.op 8 false::[]))) .nil) (.seq (.one (sn (sn (.one (.loop [0,1,6] [5,7] (.seq (.seq (.aO (oR 0 9 (.aA 8 true (fR 9 3) [0,1,5,6,7] [38,41]::.op 12 false::[]))) .nil) (.seq (.one (sn (sn (sn (.one (.loop [0,1,6,7,8] [5,9] (.seq (.seq (.aO (oR 0 5 (.aA 4 true (fR 5 3) [0,1,5,6,7,8,9] [71,74]::.op 8 false::[]))) .nil) (.seq (.one (.draw 27 (oR 0 27 []) [] [])) .nil)))))))) .nil))))))) .nil))))) .nil))) 105 [.tmp 4]
def VI(a:AV)(h:aa)(K:AV→aa→Prop):Prop:=
 iC p_ 61 [a] h fun d b=>bT d fun e=>af e (K (i_ 8) b) (iC p_ 59 [a] b fun f c=>qBe .gtr f 64 fun g=>af g (K (i_ 4) c) (K (i_ 0) c))
def Z4(a:AV):Body p_ 39 [a] (VI a):=mkB Tryz.func39 .nil 9 [.tmp 2]
def V5(a:AV)(h:aa)(K:AV→aa→Prop):Prop:=
 bc [i_ 0] h fun e b c =>
 aU a fun f=>ag .lss (nx b 0) f fun g=>af g (au 3 a (nx b 0) fun i=>ae true 3 i c fun j=>bf (.agg [i_ 0,ff]) [] fun k=>iC p_ 81 [j,k,ff] c fun l d=>bT l fun m=>af m (K ff d) (qBe .add (nx b 0) 1 fun n=>eC [a] (e [n] d))) (aU a fun o=>qBe .gtr o 0 fun p=>K p c)
def V61(a:AV):Body p_ 61 [a] (V5 a):=mkB Tryz.func61 (sn (.seq (sn (.one (.loop [0] [3] .nil))) .nil)) 20 [.tmp 2]
def QM(r t:AV)(h:aa)(K:AV→aa→Prop):Prop:=
 aB 121 r h fun a s=>aB 114 t s fun b e=>iFL 0 false 1 a e fun u=>ag .neq u (.str []) fun v=>qJa v [a,b] e (fun w=>iFL 0 false 1 a e fun x=>ag .neq x (.str [42]) fun y=>w y e) fun z f=>qJa z [a,b] f (fun A=>iFL 0 false 1 a f fun B=>iC p_ 192 [B] f fun C D=>bT C fun E=>A E D) fun l g=>aI (fun m=>aL l false (iFL 0 false 1 a g fun F=>ag .eql F (.str []) fun G=>eC [a,b] (m [ff,G] g)) (eC [a,b] (m [bO false l,un] g))) fun d i=>aI (fun n=>aL (nx d 1) true (iFL 1 false 1 a i fun H=>aU H fun I=>qBe .eql I 0 fun J=>eC [a,b,nx d 0] (n [tt,J] i)) (eC [a,b,nx d 0] (n [(bO true (nx d 1)),un] i))) fun o p=>qJo (nx d 0) [a,b] p (fun L=>bG (nx o 0) (nx o 1) ff fun M=>L M p) fun N j=>qJo N [a,b] j (fun O=>iFL 1 false 1 a j fun P=>aU P fun Q=>qBe .gtr Q 64 fun R=>O R j) fun S q=>af S (K ff q) (bc [i_ 0] q fun T k c =>
 iFL 1 false 1 a c fun U=>aU U fun V=>ag .lss (nx k 0) V fun W=>af W (iFL 1 false 1 a c fun X=>au 9 X (nx k 0) fun Y=>ae true 9 Y c fun Z=>ae true 2 b c fun a0=>iQ p_ 193 [Z,a0] c fun a1=>bT a1 fun a2=>af a2 (K ff c) (qBe .add (nx k 0) 1 fun a3=>eC [a,b] (T [a3] c))) (K tt c))
def Xo(a b:AV):Body p_ 137 [a,b] (QM a b):=mkB Tryz.func137 (sn (.seq (.seq (.aO (oR 0 4 (.aA 3 true (fR 4 3) [2,3] [9,12]::oR 7 2 (.aA 8 true (fR 9 4) [2,3] [14,18]::oR 13 2 (.aA 14 false (fR 15 4) [2,3] [20,24]::.aA 18 true (fR 19 4) [2,3,20] [24,28]::.aA 14 false [(23,false)] [2,3] [20,29]::oR 24 2 (.aA 25 false (fR 26 4) [2,3] [31,35]::.op 30 false::[])))))) .nil) (.seq (sn (.one (.loop [2,3] [5] (sn (.seq (.one (.seq (.draw 8 (oR 0 8 []) [] []) .nil)) .nil))))) .nil))) 52 [.tmp 4]
end
section
open Go Go.Aw Go.Qt Go.RowKit
variable [Laid]
theorem Ol:aV p_ 74 [.str []] (.str []):=by
 refine (V74 _).aQ (by simp[zK,aq,aX,Aw.Pure]) (by simp[zK,aq,aX,Aw.Pure]) ?_;unfold Wl;refine aG (α:=Unit) (fun _=>True) (fun _=>[.str [],i_ 0]) (fun _=>[]) (fun _=>0) () (by trivial) (Wk.refl _ _ _ (aS _)) ?_;rintro _ _;repeat' (first|(refine zzZ fun _=>?_)|(refine zzC ?_)|(refine zzK rfl ?_)|(fail))
 exact .pure (by simp[zK,aq,aX,Aw.Pure]) rfl
theorem Om:aV p_ 54 [.str []] (.aw [.str [],i_ 0]):=by
 refine (V54 _).aQ (by simp[zK,aq,aX,Aw.Pure]) (by simp[zK,aq,aX,Aw.Pure]) ?_;unfold VY;repeat' (first|(refine zzZ fun _=>?_)|(refine zzE ?_)|(refine zzK rfl ?_)|(fail))
 refine uCon Ol ?_;exact .pure (by simp[zK,aq,aX,Aw.Pure]) rfl
theorem Oo:aV p_ 121 [.str [],i_ 0,.str [47,42]] (ff):=by
 refine (Xl _ _ _).aQ (by simp[zK,aq,aX,Aw.Pure]) (by simp[zK,aq,aX,Aw.Pure]) ?_;unfold QJ;repeat' (first|(refine zzZ fun _=>?_)|(refine zzF ?_)|(refine zzf (by unfold aZ;first|omega|simp) ?_)|(refine zzK rfl ?_)|(refine aK (zzM rfl ?_))|(fail))
 exact .pure (by simp[zK,aq,aX,Aw.Pure]) rfl
theorem Oq:aV p_ 75 [.str [],i_ 0] (i_ 0):=by
 refine (V75 _ _).aQ (by simp[zK,aq,aX,Aw.Pure]) (by simp[zK,aq,aX,Aw.Pure]) ?_;unfold Wm;refine aG (α:=Unit) (fun _=>True) (fun _=>[i_ 0]) (fun _=>[]) (fun _=>0) () (by trivial) (Wk.refl _ _ _ (aS _)) ?_;rintro _ _;refine uCon Oo ?_;repeat' (first|(refine zzK rfl ?_)|(fail))
 exact .pure (by simp[zK,aq,aX,Aw.Pure]) rfl
theorem Ot:aV p_ 55 [.str []] (.aw [.sl 5 [],.sl 2 []]):=by
 refine (V55 _).aQ (by simp[zK,aq,aX,Aw.Pure]) (by simp[zK,aq,aX,Aw.Pure]) ?_;unfold VZ;refine uCon Oq (aG (α:=Unit) (fun _=>True) (fun _=>[.v (.slice none 0 0),.v (.slice none 0 0),i_ 0]) (fun _=>[]) (fun _=>0) () (by trivial) (Wk.refl _ _ _ (aS _)) ?_);rintro _ _;repeat' (first|(refine zzZ fun _=>?_)|(refine zzC ?_)|(refine zzK rfl ?_)|(fail))
 exact cf.Kh (s:=.aw [.v (.slice none 0 0),.v (.slice none 0 0)]) (.pure (by simp[aq,Aw.Pure]) rfl) (lB.M1 (lB.nil 5) (lB.nil 2))
theorem Ou:aV p_ 34 [.str []] (.aw [.sl 5 [],i_ 0]):=by
 refine (ZZ _).aQ (by simp[zK,aq,aX,Aw.Pure]) (by simp[zK,aq,aX,Aw.Pure]) ?_;unfold VD;refine uCon Om ?_;repeat' (first|(refine zzH ?_)|(refine zzK rfl ?_)|(fail))
 refine uCon Ot ?_;repeat' (first|(refine zzg (n:=0) rfl fun _=>?_)|(refine zzE ?_)|(refine zzK rfl ?_)|(refine zzB rfl ?_)|(fail))
 exact .pure (by simp[zK,aq,aX,Aw.Pure]) rfl
theorem Ov:aV p_ 77 [.sl 5 [],i_ 0,.v (.int .u8 0),i_ 16] (.aw [.sl 6 [],i_ 0]):=by
 refine (V77 _ _ _ _).aQ (by simp[zK,aq,aX,Aw.Pure]) (by simp[zK,aq,aX,Aw.Pure]) ?_;unfold Wn;refine aG (α:=Unit) (fun _=>True) (fun _=>[i_ 0,.v (.slice none 0 0)]) (fun _=>[]) (fun _=>0) () (by trivial) (Wk.refl _ _ _ (aS _)) ?_;rintro _ _;repeat' (first|(refine zzg (n:=0) rfl fun _=>?_)|(refine zzC ?_)|(refine zzP (by unfold aZ;first|omega|simp) ?_)|(refine zzK rfl ?_)|(refine aK (zzM rfl ?_))|(refine aK (cX rfl ?_))|(with_reducible refine⟨rfl, ?_⟩)|(fail))
 refine (Jr _ _ _ _).2 ?_;exact cf.Kh (s:=.aw [.v (.slice none 0 0),i_ 0]) (.pure (by simp[aq,Aw.Pure]) rfl) (lB.M1 (lB.nil 6) (lB.refl _))
theorem Ow:aV p_ 56 [.sl 5 []] (.aw [.sl 6 [],tt]):=by
 refine (V56 _).aQ (by simp[zK,aq,aX,Aw.Pure]) (by simp[zK,aq,aX,Aw.Pure]) ?_;unfold V0;refine uCon Ov ?_;repeat' (first|(refine zzF ?_)|(fail))
 exact .pure (by simp[zK,aq,aX,Aw.Pure]) rfl
theorem Ox:aV p_ 57 [.sl 6 []] (.sl 5 []):=by
 refine (V57 _).aQ (by simp[zK,aq,aX,Aw.Pure]) (by simp[zK,aq,aX,Aw.Pure]) ?_;unfold V1;refine aG (α:=Unit) (fun _=>True) (fun _=>[.v (.slice none 0 0),i_ 0]) (fun _=>[]) (fun _=>0) () (by trivial) (Wk.refl _ _ _ (aS _)) ?_;rintro _ _;repeat' (first|(refine zzg (n:=0) rfl fun _=>?_)|(refine zzC ?_)|(refine zzK rfl ?_)|(fail))
 exact cf.Kh (s:=.v (.slice none 0 0)) (.pure (by simp[aq,Aw.Pure]) rfl) (lB.nil 5)
theorem Oy:aV p_ 35 [.sl 5 []] (.aw [.sl 6 [],i_ 0]):=by
 refine (Z0 _).aQ (by simp[zK,aq,aX,Aw.Pure]) (by simp[zK,aq,aX,Aw.Pure]) ?_;unfold VE;repeat' (first|(refine zzg (n:=0) rfl fun _=>?_)|(refine zzE ?_)|(refine zzK rfl ?_)|(fail))
 refine uCon Ow ?_;repeat' (first|(refine zzO ?_)|(refine zzK rfl ?_)|(refine zzB rfl ?_)|(fail))
 refine uCon Ox ?_;repeat' (first|(refine zzg (n:=0) rfl fun _=>?_)|(refine zzE ?_)|(refine zzK rfl ?_)|(fail))
 exact .pure (by simp[zK,aq,aX,Aw.Pure]) rfl
theorem Oz:aV p_ 79 [.sl 6 [],.v (.int .u8 18)] (.sl 1 [[.v (.slice none 0 0)]]):=by
 refine (V79 _ _).aQ (by simp[zK,aq,aX,Aw.Pure]) (by simp[zK,aq,aX,Aw.Pure]) ?_;unfold Wo;refine GJ (cs:=[.v (.slice none 0 0)]) (n:=0) (h':=[.ak ⟨61,[.v (.slice none 0 0)],true⟩]) rfl rfl rfl rfl rfl rfl (aG (α:=Unit) (fun _=>True) (fun _=>[.own 0 0 1 1,i_ 0]) (fun _=>[.ak ⟨61,[.v (.slice none 0 0)],true⟩]) (fun _=>0) () (by trivial) (Wk.refl _ _ _ (aS _)) ?_);rintro _ _;repeat' (first|(refine zzg (n:=0) rfl fun _=>?_)|(refine zzC ?_)|(refine zzK rfl ?_)|(fail))
 refine cf.sq 2 ?_;show tl 0 _ 2 (.own 0 0 1 1)=_;rw[oy (cells:=[.v (.slice none 0 0)]) rfl rfl (by decide)];rfl
theorem OA:aV p_ 133 [.sl 6 []] (.sl 6 []):=by
 refine (Xm _).aQ (by simp[zK,aq,aX,Aw.Pure]) (by simp[zK,aq,aX,Aw.Pure]) ?_;unfold QK;refine aG (α:=Unit) (fun _=>True) (fun _=>[.sl 6 []]) (fun _=>[]) (fun _=>0) () (by trivial) (Wk.refl _ _ _ (aS _)) ?_;rintro _ _;repeat' (first|(refine zzg (n:=0) rfl fun _=>?_)|(refine zzE ?_)|(refine zzK rfl ?_)|(refine aK (zzM rfl ?_))|(with_reducible refine⟨rfl, ?_⟩)|(fail))
 refine aG (α:=Unit) (fun _=>True) (fun _=>[.sl 6 []]) (fun _=>[]) (fun _=>0) () (by trivial) (Wk.refl _ _ _ (aS _)) ?_;rintro _ _;repeat' (first|(refine zzg (n:=0) rfl fun _=>?_)|(refine zzE ?_)|(refine zzK rfl ?_)|(refine aK (zzM rfl ?_))|(with_reducible refine⟨rfl, ?_⟩)|(fail))
 exact .pure (by simp[zK,aq,aX,Aw.Pure]) rfl
theorem Ab(k:Int)(s:Qt.ao):aV p_ 189 [.sl 6 [],i_ 0,.v (.int .u8 k),.str s] (ff):=by
 refine (XW _ _ _ _).aQ (by simp[zK,aq,aX,Aw.Pure]) (by simp[zK,aq,aX,Aw.Pure]) ?_;unfold Rm;repeat' (first|(refine zzg (n:=0) rfl fun _=>?_)|(refine zzC ?_)|(refine zzF ?_)|(refine zzL rfl ?_)|(refine zzK rfl ?_)|(refine aK (zzN rfl ?_))|(refine aK (zzM rfl ?_))|(refine aK (cX rfl ?_))|(with_reducible refine⟨rfl, ?_⟩)|(fail))
 exact .pure (by simp[zK,aq,aX,Aw.Pure]) rfl
theorem OB:aV p_ 191 [.sl 6 [],i_ 0,.agg [i_ 0,ff]] (.aw [zK 0,i_ 0,tt]):=by
 refine (XX _ _ _).aQ (by simp[zK,aq,aX,Aw.Pure]) (by simp[zK,aq,aX,Aw.Pure]) ?_;unfold Rn;refine bq rfl rfl rfl rfl (bq rfl rfl rfl rfl ?_);repeat' (first|(refine uCon (Ab _ _) ?_)|(refine zzK rfl ?_)|(refine aK (zzM rfl ?_))|(refine zzO ?_)|(refine aM rfl rfl rfl rfl (by decide) rfl rfl rfl ?_)|(refine zzV rfl (by decide) ?_)|(with_reducible refine⟨rfl, ?_⟩)|(fail))
 exact .pure (by simp[zK,aq,aX,Aw.Pure]) rfl
theorem M5{P:Program}{f:FuncId}{args args':List AV}{r:AV}{K:AV→Prop}(e:args=args')(hb:cJ P f=true)(c:aV P f args' r)(k:K r){h:aa}:pf P (.fn (.func f) [] []) args h K:=by
 subst e;exact⟨r,hb,fun ext=>by simpa using c.call ⟨rfl,rfl⟩,k⟩
theorem LC:aV p_ 137 [.agg [.str [],.sl 9 []],.agg [i_ 0,ff]] (ff):=by
 refine (Xo _ _).aQ (by simp[zK,aq,aX,Aw.Pure]) (by simp[zK,aq,aX,Aw.Pure]) ?_;unfold QM;repeat' (first|(refine zzJ ?_)|(refine zzA ?_)|(refine zzU rfl rfl ?_)|(refine bq rfl rfl rfl rfl ?_)|(refine zzg (n:=0) rfl fun _=>?_)|(refine zzG ?_)|(refine zzI ?_)|(refine zzL rfl ?_)|(refine zzK rfl ?_)|(refine aK (zzN rfl ?_))|(refine aK (zzM rfl ?_))|(with_reducible refine⟨rfl, ?_⟩)|(fail))
 exact .pure (by simp[zK,aq,aX,Aw.Pure]) rfl
theorem OC:aV p_ 137 [.agg [.str [],.v (.slice none 0 0)],.agg [i_ 0,ff]] ff:=
 aV.Hf LC (.cons (.refl _) (.cons (.nil 9) .nil)) (by simp[aq,Aw.Pure])
theorem Sf:aV p_ 60 [.sl 3 [],i_ 600] (i_ 0):=by
 refine (V60 _ _).aQ (by simp[zK,aq,aX,Aw.Pure]) (by simp[zK,aq,aX,Aw.Pure]) ?_;unfold V4;refine aG (α:=Unit) (fun _=>True) (fun _=>[i_ 0,i_ 0]) (fun _=>[]) (fun _=>0) () (by trivial) (Wk.refl _ _ _ (aS _)) ?_;rintro _ _;repeat' (first|(refine zzg (n:=0) rfl fun _=>?_)|(refine zzC ?_)|(refine zzK rfl ?_)|(refine aK (zzM rfl ?_))|(with_reducible refine⟨rfl, ?_⟩)|(fail))
 exact .pure (by simp[zK,aq,aX,Aw.Pure]) rfl
theorem Sg:aV p_ 38 [.sl 3 []] (ff):=by
 refine (Z3 _).aQ (by simp[zK,aq,aX,Aw.Pure]) (by simp[zK,aq,aX,Aw.Pure]) ?_;unfold VH;refine uCon Sf ?_;repeat' (first|(refine zzE ?_)|(fail))
 exact .pure (by simp[zK,aq,aX,Aw.Pure]) rfl
theorem Sh:aV p_ 61 [.sl 3 []] (ff):=by
 refine (V61 _).aQ (by simp[zK,aq,aX,Aw.Pure]) (by simp[zK,aq,aX,Aw.Pure]) ?_;unfold V5;refine aG (α:=Unit) (fun _=>True) (fun _=>[i_ 0]) (fun _=>[]) (fun _=>0) () (by trivial) (Wk.refl _ _ _ (aS _)) ?_;rintro _ _;repeat' (first|(refine zzg (n:=0) rfl fun _=>?_)|(refine zzC ?_)|(refine zzE ?_)|(refine zzK rfl ?_)|(fail))
 exact .pure (by simp[zK,aq,aX,Aw.Pure]) rfl
theorem Si:aV p_ 39 [.sl 3 []] (i_ 8):=by
 refine (Z4 _).aQ (by simp[zK,aq,aX,Aw.Pure]) (by simp[zK,aq,aX,Aw.Pure]) ?_;unfold VI;refine uCon Sh ?_;repeat' (first|(refine zzO ?_)|(refine zzL rfl ?_)|(fail))
 exact .pure (by simp[zK,aq,aX,Aw.Pure]) rfl
theorem OD:aV p_ 136 [.sl 6 [],i_ 0,.agg [i_ 0,ff]] (.aw [.agg [.str [],.v (.slice none 0 0)],i_ 0,ff]):=by
 refine (Xn _ _ _).aQ (by simp[zK,aq,aX,Aw.Pure]) (by simp[zK,aq,aX,Aw.Pure]) ?_;unfold QL;repeat' (first|(refine bq rfl rfl rfl rfl ?_)|(fail))
 refine aK ?_;refine uCon (Ab 1 []) (zzK rfl ?_);refine uCon (Ab 9 [42]) (zzK rfl ?_);repeat' (first|(with_reducible refine⟨rfl, ?_⟩)|(fail))
 refine aG (α:=Unit) (fun _=>True) (fun _=>[i_ 0]) (fun _=>_) (fun _=>0) () (by trivial) (Wk.refl _ _ _ (aS _)) ?_;rintro _ _;repeat' (first|(refine zzV rfl (by decide) ?_)|(fail))
 refine uCon OB ?_;repeat' (first|(refine bq rfl rfl rfl rfl ?_)|(refine aM rfl rfl rfl rfl (by decide) rfl rfl rfl ?_)|(refine zzV rfl (by decide) ?_)|(refine zzG ?_)|(refine zzO ?_)|(refine zzL rfl ?_)|(refine zzK rfl ?_)|(refine zzB rfl ?_)|(fail))
 refine zzT (by kernel_rfl) OC ?_;repeat' (first|(refine aM rfl rfl rfl rfl (by decide) rfl rfl rfl ?_)|(refine zzV rfl (by decide) ?_)|(fail))
 exact .pure (by simp[zK,aq,aX,Aw.Pure]) rfl
theorem OE:aV p_ 80 [.sl 6 [],.agg [i_ 0,ff],ff] (.aw [.agg [.v (.int .u8 0),.v (.slice none 0 0),.v (.slice none 0 0)],ff]):=by
 refine (V80 _ _ _).aQ (by simp[zK,aq,aX,Aw.Pure]) (by simp[zK,aq,aX,Aw.Pure]) ?_;unfold Wp;repeat' (first|(refine bq rfl rfl rfl rfl ?_)|(fail))
 refine uCon OA ?_;refine aK (zzK rfl ⟨rfl, ?_⟩);refine aG (α:=Unit) (fun _=>True) (fun _=>[i_ 0]) (fun _=>_) (fun _=>0) () (by trivial) (Wk.refl _ _ _ (aS _)) ?_;rintro _ _;repeat' (first|(refine zzV rfl (by decide) ?_)|(fail))
 refine uCon OD ?_;repeat' (first|(refine bq rfl rfl rfl rfl ?_)|(refine aM rfl rfl rfl rfl (by decide) rfl rfl rfl ?_)|(refine zzV rfl (by decide) ?_)|(refine zzO ?_)|(refine zzL rfl ?_)|(refine zzB rfl ?_)|(fail))
 exact .pure (by simp[zK,aq,aX,Aw.Pure]) rfl
theorem OG:aV p_ 58 [.sl 6 [],.agg [i_ 0,ff],ff,ff] (.aw [.v (.slice none 0 0),ff]):=by
 refine (V58 _ _ _ _).aQ (by simp[zK,aq,aX,Aw.Pure]) (by simp[zK,aq,aX,Aw.Pure]) ?_;unfold V2;repeat' (first|(refine bq rfl rfl rfl rfl ?_)|(fail))
 refine uCon Oz (aG (α:=Unit) (fun _=>True) (fun _=>[.v (.slice none 0 0),i_ 0]) (fun _=>_) (fun _=>0) () (by trivial) (Wk.refl _ _ _ (aS _)) ?_);rintro _ _;refine zzg (n:=1) rfl fun _=>bZ rfl rfl (zzL rfl (aK ?_));refine KP (n:=0) rfl rfl (by decide) (zzW ?_);refine zzV rfl (by decide) (M5 rfl (by kernel_rfl) (aV.arg OE (.cons (.nil 6) (.cons (.refl _) (.cons (.refl _) .nil))) (by simp[aq,Aw.Pure])) ?_);repeat' (first|(refine bq rfl rfl rfl rfl ?_)|(refine aM rfl rfl rfl rfl (by decide) rfl rfl rfl ?_)|(refine zzO ?_)|(refine zzL rfl ?_)|(refine zzK rfl ?_)|(refine zzB rfl ?_)|(fail))
 exact .pure (by simp[zK,aq,aX,Aw.Pure]) rfl
theorem OH:aV p_ 36 [.sl 6 []] (.aw [.v (.slice none 0 0),i_ 12]):=by
 refine (Z1 _).aQ (by simp[zK,aq,aX,Aw.Pure]) (by simp[zK,aq,aX,Aw.Pure]) ?_;unfold VF;refine bp rfl (uCon OG ?_);repeat' (first|(refine zzO ?_)|(refine zzL rfl ?_)|(refine zzB rfl ?_)|(fail))
 exact .pure (by simp[zK,aq,aX,Aw.Pure]) rfl
theorem OI:aV p_ 22 [.str []] (.aw [.v (.slice none 0 0),i_ 12]):=by
 refine (ZN _).aQ (by simp[zK,aq,aX,Aw.Pure]) (by simp[zK,aq,aX,Aw.Pure]) ?_;unfold Vr;refine uCon Ou ?_;repeat' (first|(refine zzH ?_)|(refine zzK rfl ?_)|(fail))
 refine uCon Oy ?_;repeat' (first|(refine zzH ?_)|(refine zzK rfl ?_)|(fail))
 refine uCon OH ?_;repeat' (first|(refine zzB rfl ?_)|(fail))
 exact .pure (by simp[zK,aq,aX,Aw.Pure]) rfl
end
end Go.Proofs.YtkfakehconamoaaGreatDoor
section
namespace Go.Qt
open Go Go.Aw
def Hj(t:bg):Bool:=zZ t||(decide ((20:Int)<t.length)&&decide (vy t=0))
end Go.Qt
namespace Go.Proofs.YtkfakehconamoaaGreatDoor
open Go Go.Aw Go.Qt Go.RowKit
variable [Laid]
theorem OQ{t:bg}(hs:eH t):aV p_ 23 [cV t,.v (.slice none 0 0)] (b_ (Hj t)):=by
 refine (ZO _ _).aQ (by simp only[aq,Aw.Pure,and_true];exact dh t) (by simp) ?_;unfold Vs;refine eE (h':=[tB t]) rfl rfl ?_;refine db rfl (uCon LK ?_);refine HQ (b:=zZ t) (p:=decide ((20:Int)<t.length)) (q:=decide (vy t=0)) rfl rfl (fun _=>rfl) rfl (fun F k=>aR rfl (zzU rfl rfl (zzg (n:=t.length) (by simp) fun _=>cS rfl rfl ⟨rfl,k⟩))) (fun _ s F k=>db rfl (uCon (Ad hs) (zzG ⟨rfl,k⟩))) ?_;have hG:aV p_ 38 [.v (.slice none 0 0)] ff:=aV.arg Sg (.cons (.nil 3) .nil) (by simp[aq,Aw.Pure]);have hC:aV p_ 39 [.v (.slice none 0 0)] (i_ 8):=aV.arg Si (.cons (.nil 3) .nil) (by simp[aq,Aw.Pure]);refine dJ (b2:=false) rfl rfl (fun _ F k=>uCon hG ⟨rfl,k⟩) ?_;rw[Bool.or_false];refine aW rfl (fun z=>.pure (by simp) (by unfold Hj;rw[z])) fun z=>?_;refine uCon hC (zzG (ph (b2:=false) rfl (fun h=>absurd h (by decide)) ?_));exact .pure (by simp) (by unfold Hj;rw[z];rfl)
theorem OR{t:bg}(hs:eH t):aV p_ 8 [cV t,.str []] (b_ (Hj t)):=by
 refine (V8 _ _).aQ (by simp only[aq,Aw.Pure,and_true];exact dh t) (by simp) ?_;unfold W8;refine eE (h':=[tB t]) rfl rfl ?_;refine zzZ fun _=>cS rfl rfl ?_;refine jR (b2:=false) rfl rfl (fun h=>absurd h (by decide)) (dJ (b2:=false) rfl rfl (fun _ F k=>gR rfl fun _=>cS rfl rfl ⟨rfl,k⟩) (zzK rfl (uCon OI (zzB rfl (zzB rfl ?_)))));refine aK (zzH (zzL rfl ⟨rfl, ?_⟩));refine db rfl (uCon (OQ hs) ?_);exact .pure (by simp) rfl
end Go.Proofs.YtkfakehconamoaaGreatDoor
end
namespace Go.Proofs.YtkfakehconamoaaGreatDoor
section
open Go Go.Aw Go.Qt Go.RowKit
open Go.bE hiding u1 ao
theorem P9{g:Qt.ao}(h:Qt.fK g=true):tP (va g)=true∧tP (vb g)=true∧tP (vc g)=true∧tP (vd g)=true:=by
 have hne:=(nC h).1;have hl:=(fS h).2.1;refine⟨?_, ?_, ?_, ?_⟩
 ·simp[va,dw,fj,bare,jy,tP,wX,Cl,wP,Cm,wS,gA,hne,hl]
 ·simp[vb,dw,fj,bare,jy,tP,wX,Cl,wP,Cm,wS,gA,hne,hl]
 ·simp[vc,dw,fj,bare,jy,tP,wX,Cl,wP,Cm,wS,gA,hne,hl]
 ·simp[vd,dw,fj,bare,jy,tP,wX,Cl,wP,Cm,wS,gA,hne,hl]
theorem Qf{g:Qt.ao}(h:Qt.fK g=true):ft (va g)<2^39∧ft (vb g)<2^39∧ft (vc g)<2^39∧ft (vd g)<2^39:=by
 have hl:=(fS h).2.1;refine⟨?_, ?_, ?_, ?_⟩
 ·simp[va,dw,fj,bare,jy,ft,zX,lZ,zP,nU,zS];omega
 ·simp[vb,dw,fj,bare,jy,ft,zX,lZ,zP,nU,zS];omega
 ·simp[vc,dw,fj,bare,jy,ft,zX,lZ,zP,nU,zS];omega
 ·simp[vd,dw,fj,bare,jy,ft,zX,lZ,zP,nU,zS];omega
theorem Oc{g:Qt.ao}(h:Qt.fK g=true):jo (va g)=0∧jo (vb g)=0∧jo (vc g)=0∧jo (vd g)=0:=by
 have hne:=(nC h).1;have hs:=mV h;refine⟨?_, ?_, ?_, ?_⟩
 ·simp[jo,va,dw,fj,bare,jy,mA,lF,rh,fi,nr,nq,jn,my,lh,jQ,hs,hne,number,bE.dR,bE.nX,bE.fE,bE.nP,bE.dA,bE.nS]
 ·simp[jo,vb,dw,fj,bare,jy,mA,lF,rh,fi,nr,nq,jn,my,lh,jQ,hs,hne,number,bE.dR,bE.nX,bE.fE,bE.nP,bE.dA,bE.nS]
 ·simp[jo,vc,dw,fj,bare,jy,mA,lF,rh,fi,nr,nq,jn,my,lh,jQ,hs,hne,number,bE.dR,bE.nX,bE.fE,bE.nP,bE.dA,bE.nS]
 ·simp[jo,vd,dw,fj,bare,jy,mA,lF,rh,fi,nr,nq,jn,my,lh,jQ,hs,hne,number,bE.dR,bE.nX,bE.fE,bE.nP,bE.dA,bE.nS]
theorem Pd{f:Int→Bool}{d:List Int}{k:Nat}{c:Int}(h:d[k]?=some c)(hc:f c=true):(d.filter f)[((d.take k).filter f).length]?=some c:=by
 obtain⟨hk,rfl⟩:=dO.1 h;have e:d=d.take k++d[k]:: d.drop (k+1):=by rw[←aaK hk,List.take_append_drop]
 conv=>lhs;rw[e,aaz,List.filter_cons,if_pos hc]
 have e2:List.take k (List.take k d++d[k]:: List.drop (k+1) d)=List.take k d:=by rw[←e]
 rw[e2,iD (aS _),Nat.sub_self];rfl
variable [bB]
theorem z8{t:bg}(hs:eH t)(i:Int)(g:Qt.ao):aV p_ 3 [cV t,i_ i,.str g] tt:=by
 refine (V3 _ _ _).aQ (by simp only[aq,Aw.Pure,and_true];exact dh t) (by simp) ?_;unfold W3;refine eE (h':=[tB t]) rfl rfl (uCon E8 ?_);refine db rfl (uCon (OR hs) ?_);refine dJ (b2:=!decide (xP t i=0)) rfl rfl (fun _ F k=>db rfl (uCon (LJ hs i) (zzH ⟨rfl,k⟩))) (dJ (b2:=!Qt.fK g) rfl rfl (fun _ F k=>uCon (sM g) (zzO ⟨rfl,k⟩)) (dJ (b2:=false) rfl rfl (fun _ F k=>dC rfl ⟨rfl,k⟩) ?_));refine aW rfl (fun _=>.pure (by simp) rfl) fun z=>?_;simp only[aaS,Bool.not_eq_false',OF]at z;obtain⟨⟨⟨_,ha⟩,hg⟩,_⟩:=z;obtain⟨ba,h0,h1⟩:=Lk ha;have hgl:=(fS hg).2.1;obtain⟨wA,wB,wC,wD⟩:=P9 hg;obtain⟨zA,zB,zC,zD⟩:=Qf hg;obtain⟨cA,cB,cC,cD⟩:=Oc hg;have qA:=oX hs ba (pw hs ba (Y1 hg) wA zA cA) h0 h1;have qB:=oX hs ba (pw hs ba (Y2 hg) wB zB cB) h0 h1;have qC:=oX hs ba (pw hs ba (Y3 hg) wC zC cC) h0 h1;have qD:=oX hs ba (pw hs ba (Y4 hg) wD zD cD) h0 h1;rw[yK ba h0 h1 (f:=fun _=>false) fun k k0 k1=>v_A k0 k1 ba g]at qA;rw[yK ba h0 h1 (f:=fun k=>kT t k g&&jd t k) fun k k0 k1=>v_B k0 k1 g]at qB;rw[yK ba h0 h1 (f:=fun k=>kT t k g) fun k k0 k1=>v_C k0 k1 g]at qC;rw[yK ba h0 h1 (f:=fun k=>kT t k g) fun k k0 k1=>v_D k0 k1 g]at qD;have eA:vx t (fun _=>false) i=[]:=by unfold vx;rw[List.filter_eq_nil_iff];intro _ _;decide
 obtain⟨d,hd⟩:∃d,d=vx t (fun k=>kT t k g) i:=⟨_,rfl⟩;have eB:vx t (fun k=>kT t k g&&jd t k) i=d.filter (jd t):=by
  rw[hd];unfold vx;rw[List.filter_filter];exact List.filter_congr fun k _=>Bool.and_comm _ _
 have hdm:∀k∈d,0≤k∧k<t.length:=fun k hk=>by
  rw[hd]at hk;exact Et ba h0 h1 k (aay.1 hk).1
 have hdl:d.length≤64:=by
  have l64:=(gD ba).2;have eo:jT t i=gq t t.length i:=by unfold jT;rw[if_pos (sY ba h0 h1)]
  have h2:=Bb ba t.length h0 h1;have h3:=List.length_filter_le (fun k:Int=>kT t k g) ((gq t t.length i).drop 1);rw[hd];unfold vx;rw[eo];rw[List.length_drop]at h3;omega
 rw[eA]at qA;rw[eB]at qB;rw[←hd]at qC qD;obtain⟨b,hb⟩:∃b,b=d.filter (jd t):=⟨_,rfl⟩;have hbl:b.length≤d.length:=by rw[hb];exact List.length_filter_le _ _
 rw[←hb]at qB;have ln:∀(l:List Int) {K:AV→Prop},K (i_ l.length)→aU (.sl 1 (dI l)) K:=fun l {K} k=>cr (n:=l.length) rfl (by simp[dI]) fun _=>k;have lq:∀(l:List Int) {K:AV→Prop},K (i_ l.length)→dX (.sl 1 (dI l)) K:=fun l {K} k=>(qm _ _ _).2 (by simpa[dI]using k);have mx:(1000:Nat)≤maxLen:=by unfold maxLen;decide
 refine db rfl ?_;refine zza rfl (by simp;omega) (zza rfl (by simp;omega) (zza rfl (by simp;omega) ?_));refine uCon qA (zzB rfl (zzB rfl ?_));refine db rfl (zza rfl (by simp;omega) ?_);refine uCon qB (zzB rfl (zzB rfl ?_));refine db rfl (zza rfl (by simp;omega) ?_);refine uCon qC (zzB rfl (zzB rfl ?_));refine db rfl ?_;refine uCon qD (zzB rfl (zzB rfl ?_));refine zzH (dJ (b2:=false) rfl rfl (fun _ F k=>cz rfl rfl ⟨rfl,k⟩) (dJ (b2:=false) rfl rfl (fun _ F k=>cz rfl rfl ⟨rfl,k⟩) (dJ (b2:=false) rfl rfl (fun _ F k=>cz rfl rfl ⟨rfl,k⟩) (dJ (b2:=false) rfl rfl (fun _ F k=>ln [] (zzH ⟨rfl,k⟩)) ?_))));have hsame:=BJ d d (by omega) (by omega);rw[tO rfl]at hsame;refine dJ (b2:=false) rfl rfl (fun _ F k=>uCon hsame (zzO ⟨rfl,k⟩)) (zzK rfl (aG (α:=Nat) (fun k=>k≤d.length) (fun k=>[i_ (((d.take k).filter (jd t)).length:Nat),i_ k]) (fun _=>[tB t]) (fun k=>d.length-k) 0 (aao _) (Wk.refl _ _ _ (aS _)) ?_));rintro k hk;have hnl:=List.length_filter_le (jd t) (d.take k);rw[aai]at hnl;refine ln d (zzC (aW rfl (fun q=>?_) fun q=>?_))
 ·have q:k<d.length:=by have:=uP q;omega
  obtain⟨c,hc⟩:∃c,d[k]?=some c:=⟨_,bY q⟩;obtain⟨c0,c1⟩:=hdm c (eQ hc);have ldd:∀{K:AV→Prop},K (i_ c)→au 1 (.sl 1 (dI d)) (i_ k) fun a=>ae false 1 a [tB t] K:=fun k=>cO (l:=d) (f:=fun c=>[i_ c]) rfl rfl rfl hc (zzW k);have htk:(d.take (k+1)).filter (jd t)=(d.take k).filter (jd t)++if jd t c then [c] else []:=by
   rw[DO,hc,aaz];show _++[c].filter (jd t)=_;rw[List.filter_cons];rfl
  refine aK (ldd (zzC ?_));refine CT (b2:=decide ((t.length:Int)≤c)) rfl (fun _ F kF=>ldd (zzA (zzU rfl rfl ((qm _ _ _).2 (fk rfl (by simp) (kF _ rfl)))))) (zzK (by rw[oF (by omega),oF (by omega)];rfl) ?_);refine db rfl (ldd ?_);refine zzT (by kernel_rfl) (I2 c0 c1 (by have:=JS ba c0 c1;omega)) ?_;rw[UB ba c0 c1];refine aW rfl (fun y=>?_) fun y=>?_
  ·have hbn:b[((d.take k).filter (jd t)).length]?=some c:=by rw[hb];exact Pd hc y
   have hbl2:=(dO.1 hbn).1;rw[if_pos y]at htk;have hlen:((d.take (k+1)).filter (jd t)).length=((d.take k).filter (jd t)).length+1:=by rw[htk];simp
   refine lq b (zzF ?_);refine CT (b2:=false) rfl (fun _ F kF=>cO (l:=b) (f:=fun c=>[i_ c]) rfl rfl rfl hbn (zzW (ldd (zzH (kF _ (by show Aw.b_ _=Aw.b_ _;congr 1;simp)))))) (zzK (by rw[oF (by omega)];rfl) ?_);refine zzP (by unfold aZ;omega) ⟨rfl,bQ rfl rfl (by unfold aZ;omega) ?_⟩;exact⟨rfl,k+1,q,by simp only[hlen];exact Wk.refl _ _ _ (aS _),by omega⟩
  ·rw[if_neg (by rw[y];decide),aal]at htk;refine⟨rfl,bQ rfl rfl (by unfold aZ;omega) ?_⟩;exact⟨rfl,k+1,q,by simp only[htk];exact Wk.refl _ _ _ (aS _),by omega⟩
 ·have q:¬k<d.length:=fun h=>by have:=At q;omega
  obtain rfl:k=d.length:=by omega
  refine ph (b2:=true) rfl (fun _ F kF=>ln b (zzG ?_)) ?_
  ·rw[Gt,←hb,tO rfl];exact kF
  ·exact .pure (by simp) rfl
end
section
open Go Go.Aw Go.Qt Go.ChangeShapes Go.WideShapes Go.ChangeAt Go.RowKit
set_option maxRecDepth 100000 in
theorem xr(os:Os)(started:os.Started)(H:Type)(enc:TypeId×Value→H)(F:Stop.Interp):
 ReturnsInHanded {} Tryz.checked os 3 .any (fun w args=>((Rows.OpenSpec.upto Rows.queryLinksSpec).pre enc p_ Tryz.f3 Rows.queryLinksUptoRow.domain false w args∧laidMetH p_ nm w)∧sizedMet enc p_ Tryz.f3 (Rows.OpenSpec.upto Rows.queryLinksSpec) false w args)
  (((Rows.OpenSpec.upto Rows.queryLinksSpec).at F).post enc p_ Tryz.f3 false true false false):=by
 refine vo (C:=Tryz.checked) (k:=Rows.uptoSmall) rfl (X:=fun w _=>laidMetH p_ nm w) (fun _ _ _ hh h=>h.of_heap hh) MF started (by kernel_rfl) Tryz.func3
  (E1 (enc:=enc) (C:=Tryz.checked) (os:=os) (k:=Rows.uptoSmall) rfl (X:=fun w _=>laidMetH p_ nm w) false (World.laidAll p_ os nm) #[.agg #[.slice none 0 0],.int .i64 0,.string ⟨#[]⟩] 8 (World.laidAll_os _ _ _) (EO os _) (by kernel_rfl) (x:=([.agg [.nil],.lit (.int .i64 0),.lit (.string [])],[],[])) (by kernel_rfl) (by kernel_rfl) (by kernel_rfl) (by kernel_rfl) (Ky os _)) ?_
 intro W base args ds gs before hval0 hW hkk hL hsh;have hval:∀(j:Nat) t v,Tryz.f3.params[j]?=some t→args[j]?=some v→Value.okWide p_ W .any base t v:=hval0;have hW':=hW;obtain⟨p,q,hA0,hV,rfl,hfz,hnd⟩:=hW;have hA:DataW.TrodAll enc p_ W 0 (fun _=>true) true Tryz.f3.params.toList args.toList ds p:=hA0;rw[Tryz.params3]at hA hval;obtain⟨v0,vs,d0,ds',p0,p1,ea,rfl,rfl,h0,h1⟩:=trodAll_cons hA;obtain⟨v1,vs1,d1,ds1,p2,p3,ea1,rfl,rfl,h2,h3⟩:=trodAll_cons h1;obtain⟨v2,vs2,d2,ds2,p4,p5,ea2,rfl,rfl,h4,h5⟩:=trodAll_cons h3;obtain⟨rfl,rfl,rfl⟩:=trodAll_nil h5;have ea:args=#[v0,v1,v2]:=by apply Array.ext';simpa[ea1,ea2]using ea
 subst ea;obtain⟨rfl,rfl⟩:=trodVars_none hV;have hv:=hval 0 24 v0 rfl rfl;obtain⟨t,rt,hz⟩:=P6 (let ⟨cs,e,_⟩:=okWide_struct Tryz.underlying24 hv;⟨cs,e⟩) h0;have w1:=hval 1 3 v1 rfl rfl;obtain⟨f1,h2⟩:=h2;obtain⟨i,ei,_,_⟩:=DataW.trod_int Tryz.underlying3 h2;have q1:v1=.int .i64 i:=by
  have e:v1.cells.toList=[v1]:=by
   cases v1<;>first|rfl|(simp[Value.okWide,Cell.okWide,Cell.ok,Tryz.underlying3]at w1)
  rw[e]at ei;simpa using ei
 subst q1;have w2:=hval 2 9 v2 rfl rfl;obtain⟨f2,h4⟩:=h4;obtain⟨t2,et2,e2',ht2⟩:=DataW.trod_string Tryz.underlying9 h4;have q2:v2=.string t2:=by
  have e:v2.cells.toList=[v2]:=by
   cases v2<;>first|rfl|(simp[Value.okWide,Cell.okWide,Cell.ok,Tryz.underlying9]at w2)
  rw[e]at et2;simpa using et2
 subst q2;have hb:Rows.uptoBulk d0+Rows.uptoBulk d1+Rows.uptoBulk d2≤1048576:=by
  simp only[Rows.uptoSmall,aal,Rows.uptoBulkAll,OF]at hkk;omega
 obtain⟨m,hm,hs⟩:=JH hsh;obtain⟨er,Sp,he,hes⟩:=So hL
 letI:bB:=⟨m,er,Sp⟩
 refine ((z8 (t:=t) (KB fun n hn=>by have:=hz n hn;omega) i t2.data.toList).calls (W:=W) (vs:=[v0,.int .i64 i,.string t2]) (Sw hL hm hs he hes) (by simpa using⟨rt,by simpa using ht2⟩)).mono fun e W' ⟨he,hb⟩=>?_;exact⟨_,he,J6 Mi (by kernel_rfl) (by kernel_rfl) (by kernel_rfl) Tryz.underlying4 hW' rfl hb⟩
end
end Go.Proofs.YtkfakehconamoaaGreatDoor
end
