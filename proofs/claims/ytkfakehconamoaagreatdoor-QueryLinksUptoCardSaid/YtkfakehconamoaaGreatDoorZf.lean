/-
 What functions of the translation ask,held against their code by the kernel. Printed by a program.
 No conditions.
-/
import Derived.Test.YtkfakehconamoaaGreatDoorProg
import Derived.KernelRfl
import Derived.Lib.IndexLaws
import Derived.Tactics
import Derived.Tactics2
import Derived.Defers
import Derived.Laws.Pointers
import Derived.RegionTactic
import Derived.RegionCalls
import Derived.ChangeAlike
import Derived.WalkKit
import Derived.Laws.Externs
import Derived.Test.YtkfakehconamoaaGreatDoorZc
import Derived.Test.YtkfakehconamoaaGreatDoorZe
import Derived.Test.YtkfakehconamoaaGreatDoorZd
set_option linter.unusedVariables false
set_option linter.unusedSimpArgs false
set_option linter.unusedSectionVars false
set_option linter.defProp false
set_option autoImplicit true
set_option maxRecDepth 1000000
set_option maxHeartbeats 16000000
open Go.Proofs.Tryz renaming prog→p_
noncomputable section
namespace Go.Proofs.YtkfakehconamoaaGreatDoor
section
open Go Go.Aw
variable [Laid]
def Wg(a:AV)(h:aa)(K:AV→aa→Prop):Prop:=
 aU a fun d=>qBe .eql d 0 fun e=>qJo e [a] h (fun f=>iC p_ 114 [a,.fn (.func 115) [] []] h f) fun g b=>af g (K (i_ 8) b) (iC p_ 49 [a] b fun i c=>qBe .gtr i 64 fun j=>af j (K (i_ 4) c) (K (i_ 0) c))
def V70(a:AV):Body p_ 70 [a] (Wg a):=mkB Tryz.func70 (sn (.seq (.seq (.aO (oR 0 4 (.aA 3 false (fR 4 2) [0] [6,8]::.op 6 false::[]))) .nil) .nil)) 13 [.tmp 2]
def QC(a b:AV)(h:aa)(K:AV→aa→Prop):Prop:=
 iC p_ 168 [a,b] h fun c d=>qBe .geq c 0 fun e=>K e d
def Xd(a b:AV):Body p_ 114 [a,b] (QC a b):=mkB Tryz.func114 .nil 9 [.tmp 4]
def QD(b:AV)(h:aa)(K:AV→aa→Prop):Prop:=
 aB 118 b h fun c a=>ae true 3 c a fun d=>bf (.agg [i_ 0,ff]) [] fun e=>iC p_ 116 [d,e,ff] a fun f g=>bT f fun i=>K i g
def Xe(a:AV):Body p_ 115 [a] (QD a):=mkB Tryz.func115 .nil 7 [.tmp 2]
def Ra(b e:AV)(h:aa)(K:AV→aa→Prop):Prop:=
 aU b fun d=>bc [i_ 0] h fun g a c =>
 ag .lss (nx a 0) d fun i=>af i (au 3 b (nx a 0) fun j=>ae true 3 j c fun k=>bA p_ e [k] c fun l f=>af l (K (nx a 0) f) (qBe .add (nx a 0) 1 fun m=>eC [b,e,d] (g [m] f))) (K (i_ (-1)) c)
def XL(a b:AV):Body p_ 168 [a,b] (Ra a b):=mkB Tryz.func168 (sn (.seq (sn (.one (.loop [0,1,7] [8] .nil))) .nil)) 19 [.tmp 4]
def QE(n p s:AV)(h:aa)(K:AV→aa→Prop):Prop:=
 aB 118 n h fun a o=>aB 93 p o fun b d=>iFL 0 false 1 a d fun q=>ag .neq q (u8 0) fun r=>oI .neq s r fun t=>qJo t [a,b] d (fun u=>iFL 0 false 1 a d fun v=>ag .gtr v (u8 4) fun w=>u w d) fun x e=>qJo x [a,b] e (fun y=>iFL 2 false 1 a e fun z=>aU z fun A=>qBe .add A 1 fun B=>iFL 1 false 1 a e fun C=>aU C fun D=>ag .neq B D fun E=>y E e) fun F i=>qJo F [a,b] i (fun G=>iFL 1 false 1 a i fun H=>aU H fun I=>qBe .gtr I 64 fun J=>G J i) fun L j=>af L (K ff j) (iFL 2 false 1 a j fun f=>aU f fun k=>bc [i_ 0] j fun M g c =>
 ag .lss (nx g 0) k fun N=>af N (au 1 f (nx g 0) fun O=>ae false 1 O c fun l=>ag .lss l (u8 1) fun P=>qJo P [a,b,f,k,nx g 0] c (fun Q=>ag .gtr l (u8 4) fun R=>Q R c) fun S m=>af S (K ff m) (qBe .add (nx g 0) 1 fun T=>eC [a,b,f,k] (M [T] m))) (iFL 1 false 1 a c fun U=>iC p_ 169 [U,(.fn (.func 170) [] [b])] c fun V W=>bT V fun X=>K X W))
def Xf(a b c:AV):Body p_ 116 [a,b,c] (QE a b c):=mkB Tryz.func116 (sn (.seq (.seq (.aO (oR 0 6 (.aA 5 false (fR 6 3) [3,4] [14,17]::oR 9 2 (.aA 10 false (fR 11 8) [3,4] [19,27]::oR 19 2 (.aA 20 false (fR 21 4) [3,4] [29,33]::.op 25 false::[]))))) .nil) (.seq (sn (.one (.loop [3,4,36,37] [38] (sn (sn (.seq (.one (sn (.seq (.aO (oR 0 3 (.aA 2 false (fR 3 2) [3,4,36,37,38] [44,46]::.op 5 false::[]))) .nil))) .nil)))))) .nil))) 54 [.tmp 6]
def Rb(a b:AV)(h:aa)(K:AV→aa→Prop):Prop:=
 iC p_ 223 [a,b] h fun c d=>qBe .geq c 0 fun e=>K e d
def XM(a b:AV):Body p_ 169 [a,b] (Rb a b):=mkB Tryz.func169 .nil 9 [.tmp 4]
def Rc(b e:AV)(h:aa)(K:AV→aa→Prop):Prop:=
 aB 121 b h fun c a=>ae true 2 c a fun d=>ae true 2 e a fun f=>iC p_ 104 [d,f] a fun g i=>bT g fun j=>K j i
def XN(a b:AV):Body p_ 170 [a,b] (Rc a b):=mkB Tryz.func170 .nil 8 [.tmp 3]
def RI(b e:AV)(h:aa)(K:AV→aa→Prop):Prop:=
 aU b fun d=>bc [i_ 0] h fun g a c =>
 ag .lss (nx a 0) d fun i=>af i (au 2 b (nx a 0) fun j=>ae true 2 j c fun k=>bA p_ e [k] c fun l f=>af l (K (nx a 0) f) (qBe .add (nx a 0) 1 fun m=>eC [b,e,d] (g [m] f))) (K (i_ (-1)) c)
def Yf(a b:AV):Body p_ 223 [a,b] (RI a b):=mkB Tryz.func223 (sn (.seq (sn (.one (.loop [0,1,7] [8] .nil))) .nil)) 19 [.tmp 4]
def Qu(o q:AV)(h:aa)(K:AV→aa→Prop):Prop:=
 aB 121 o h fun a p=>aB 93 q p fun c d=>iFL 0 false 1 a d fun r=>ag .neq r (.str []) fun s=>qJa s [a,c] d (fun t=>iFL 0 false 1 a d fun u=>ag .neq u (.str [42]) fun v=>t v d) fun w e=>qJa w [a,c] e (fun x=>iFL 0 false 1 a e fun y=>iC p_ 155 [y] e fun z A=>bT z fun B=>x B A) fun C f=>qJo C [a,c] f (fun D=>iFL 1 false 1 a f fun E=>aU E fun F=>qBe .gtr F 64 fun G=>D G f) fun H g=>af H (K ff g) (iFL 1 false 1 a g fun i=>aU i fun l=>bc [i_ 0] g fun I j b =>
 ag .lss (nx j 0) l fun J=>af J (au 9 i (nx j 0) fun L=>ae true 9 L b fun M=>aB 99 (.agg [u8 0,.str [],u8 0,.str [],ff,i_ 0,i_ 0,ff,qNs]) b fun m N=>ah 9 m M N fun k=>ae true 9 m k fun O=>ae true 2 c k fun P=>iC p_ 156 [O,P] k fun Q n=>bT Q fun R=>af R (K ff n) (qBe .add (nx j 0) 1 fun S=>eC [a,c,i,l] (I [S] n))) (iFL 0 false 1 a b fun T=>ag .neq T (.str []) fun U=>qKo U b (fun V=>iFL 1 false 1 a b fun W=>aU W fun X=>qBe .gtr X 0 fun Y=>V Y b) fun Z a0=>K Z a0))
def W0(a b:AV):Body p_ 104 [a,b] (Qu a b):=mkB Tryz.func104 (sn (.seq (.seq (.aO (oR 0 4 (.aA 3 true (fR 4 3) [2,3] [10,13]::oR 7 2 (.aA 8 true (fR 9 4) [2,3] [15,19]::oR 13 2 (.aA 14 false (fR 15 4) [2,3] [21,25]::.op 19 false::[]))))) .nil) (.seq (sn (.one (.loop [2,3,28,29] [30] .nil))) (.seq (.aO (oR 0 4 (.aA 3 false (fR 4 4) [] [42,46]::oR 8 2 []))) .nil)))) 48 [.tmp 4]
def Q3(a:AV)(h:aa)(K:AV→aa→Prop):Prop:=
 iC p_ 212 [a] h fun c b=>qKa c b (fun d=>iC p_ 101 [a] b fun e f=>ag .eql e a fun g=>d g f) fun i j=>K i j
def XE(a:AV):Body p_ 155 [a] (Q3 a):=mkB Tryz.func155 (sn (.seq (.aO (oR 0 3 (.aA 2 true (fR 3 4) [] [5,9]::oR 7 2 []))) .nil)) 11 [.tmp 2]
def Q4(c7 c9:AV)(h:aa)(K:AV→aa→Prop):Prop:=
 aB 99 c7 h fun a c8=>aB 93 c9 c8 fun d0 F=>ae true 9 a F fun d1=>iC p_ 213 [d1] F fun G g=>ay 0 G fun d2=>ay 1 G fun d3=>aI (fun H=>af d2 (ae true 2 d0 g fun d4=>iFL 0 false 1 a g fun d5=>iC p_ 211 [d4,d5] g fun I d6=>ay 0 I fun d7=>ay 1 I fun d8=>aB 93 (.agg [i_ 0,ff]) d6 fun f d9=>ah 2 f d7 d9 fun J=>bT d8 fun L=>aI (fun M=>aL L false (bT d3 fun e0=>eC [a,f] (M [ff,e0] J)) (eC [a,f] (M [bO false L,un] J))) fun l r=>aI (fun N=>aL (nx l 1) true (iFL 8 false 1 a r fun e1=>aU e1 fun e2=>qBe .eql e2 0 fun e3=>eC [a,f,nx l 0] (N [tt,e3] r)) (eC [a,f,nx l 0] (N [(bO true (nx l 1)),un] r))) fun O P=>qJo (nx l 0) [a,f] P (fun e4=>bG (nx O 0) (nx O 1) ff fun e5=>e4 e5 P) fun e6 s=>qJo e6 [a] s (fun e7=>iFL 8 false 1 a s fun e8=>iC p_ 114 [e8,(.fn (.func 214) [] [f,a])] s e7) fun e9 Q=>af e9 (K ff Q) (eC [a] (H [] Q))) (iFL 8 false 1 a g fun f0=>aU f0 fun f1=>qBe .gtr f1 0 fun f2=>af f2 (K ff g) (eC [a] (H [] g)))) fun n3 m=>iFL 0 false 1 a m fun f3=>ag .eql f3 (u8 3) fun R=>iFL 0 false 1 a m fun f4=>ag .eql f4 (u8 9) fun f5=>qJo f5 [a,R] m (fun f6=>iFL 0 false 1 a m fun f7=>ag .eql f7 (u8 10) fun f8=>f6 f8 m) fun b t=>bT R fun S=>aI (fun T=>aL S true (iFL 2 false 1 a t fun f9=>ag .neq f9 (u8 0) fun g0=>eC [a,b] (T [tt,g0] t)) (eC [a,b] (T [bO true S,un] t))) fun i u=>aI (fun U=>aL (nx i 1) false (iFL 3 false 1 a u fun g1=>ag .neq g1 (.str []) fun g2=>eC [a,b,nx i 0] (U [ff,g2] u)) (eC [a,b,nx i 0] (U [(bO false (nx i 1)),un] u))) fun V W=>aI (fun X=>aL (nx i 0) true (bG (nx V 0) tt (nx V 1) fun g3=>eC [a,b] (X [tt,g3] W)) (eC [a,b] (X [(bO true (nx i 0)),un] W))) fun n v=>aI (fun Y=>aL (nx n 1) false (iFL 4 false 1 a v fun g4=>eC [a,b,nx n 0] (Y [ff,g4] v)) (eC [a,b,nx n 0] (Y [(bO false (nx n 1)),un] v))) fun Z a0=>qJa (nx n 0) [a,b] a0 (fun g5=>bG (nx Z 0) tt (nx Z 1) fun g6=>g5 g6 a0) fun a1 a2=>aI (fun a3=>aL a1 false (bT b fun g7=>eC [a,b] (a3 [ff,g7] a2)) (eC [a,b] (a3 [bO false a1,un] a2))) fun c w=>aI (fun a4=>aL (nx c 1) true (iFL 7 false 1 a w fun g8=>eC [a,b,nx c 0] (a4 [tt,g8] w)) (eC [a,b,nx c 0] (a4 [(bO true (nx c 1)),un] w))) fun j x=>aI (fun a5=>aL (nx j 1) false (iFL 5 true 2 a x fun g9=>bf (.agg [i_ 0,i_ 0]) [] fun i0=>sN true [1,1] g9 i0 fun i1=>eC [a,b,nx c 0,nx j 0] (a5 [ff,i1] x)) (eC [a,b,nx c 0,nx j 0] (a5 [(bO false (nx j 1)),un] x))) fun a6 a7=>aI (fun a8=>aL (nx j 0) true (bG (nx a6 0) tt (nx a6 1) fun i2=>eC [a,b,nx c 0] (a8 [tt,i2] a7)) (eC [a,b,nx c 0] (a8 [(bO true (nx j 0)),un] a7))) fun a9 b0=>qJo (nx c 0) [a,b] b0 (fun i3=>bG (nx a9 0) (nx a9 1) ff fun i4=>i3 i4 b0) fun i5 q=>af i5 (K ff q) (iFL 0 false 1 a q fun o=>aI (fun b1=>ag .eql o (u8 1) fun i6=>af i6 (eC [a,b,o] (b1 [tt] q)) (ag .eql o (u8 2) fun i7=>eC [a,b,o] (b1 [i7] q))) fun i8 e=>af (nx i8 0) (iFL 1 false 1 a e fun i9=>iC p_ 212 [i9] e fun j0 j1=>K j0 j1) (ag .eql o (u8 3) fun j2=>af j2 (iFL 1 false 1 a e fun j3=>iC p_ 155 [j3] e fun j4 y=>qJa j4 [a] y (fun j5=>iFL 2 false 1 a y fun j6=>ag .leq j6 (u8 6) fun j7=>j5 j7 y) fun j8 z=>qJa j8 [a] z (fun j9=>iFL 3 false 1 a z fun k0=>iC p_ 215 [k0,i_ 400] z fun k1 k2=>bT k1 fun k3=>j9 k3 k2) fun b2 A=>aI (fun b3=>aL b2 true (iFL 2 false 1 a A fun k4=>ag .neq k4 (u8 0) fun k5=>eC [a] (b3 [tt,k5] A)) (eC [a] (b3 [bO true b2,un] A))) fun d B=>aI (fun b4=>aL (nx d 1) false (iFL 3 false 1 a B fun k6=>ag .eql k6 (.str []) fun k7=>eC [a,nx d 0] (b4 [ff,k7] B)) (eC [a,nx d 0] (b4 [(bO false (nx d 1)),un] B))) fun k C=>aI (fun b5=>aL (nx k 1) true (iFL 4 false 1 a C fun k8=>bT k8 fun k9=>eC [nx d 0,nx k 0] (b5 [tt,k9] C)) (eC [nx d 0,nx k 0] (b5 [(bO true (nx k 1)),un] C))) fun b6 b7=>aI (fun b8=>aL (nx k 0) false (bG (nx b6 0) (nx b6 1) ff fun l0=>eC [nx d 0] (b8 [ff,l0] b7)) (eC [nx d 0] (b8 [(bO false (nx k 0)),un] b7))) fun b9 c0=>qKa (nx d 0) c0 (fun l1=>bG (nx b9 0) tt (nx b9 1) fun l2=>l1 l2 c0) fun l3 l4=>K l3 l4) (iFL 1 false 1 a e fun l5=>ag .eql l5 (.str []) fun l6=>qJa l6 [a,b] e (fun l7=>iFL 0 false 1 a e fun l8=>ag .geq l8 (u8 4) fun l9=>l7 l9 e) fun m0 D=>qJa m0 [a,b] D (fun m1=>iFL 0 false 1 a D fun m2=>ag .leq m2 (u8 14) fun m3=>m1 m3 D) fun c1 c2=>aI (fun c3=>aL c1 true (bT b fun m4=>eC [a] (c3 [tt,m4] c2)) (eC [a] (c3 [bO true c1,un] c2))) fun p E=>aI (fun c4=>aL (nx p 1) false (iFL 5 true 2 a E fun m5=>iC p_ 216 [m5] E fun m6 m7=>qBe .eql m6 0 fun m8=>eC [nx p 0] (c4 [ff,m8] m7)) (eC [nx p 0] (c4 [(bO false (nx p 1)),un] E))) fun c5 c6=>qKa (nx p 0) c6 (fun m9=>bG (nx c5 0) tt (nx c5 1) fun n0=>m9 n0 c6) fun n1 n2=>K n1 n2)))
def XF(a b:AV):Body p_ 156 [a,b] (Q4 a b):=mkB Tryz.func156 (sn (sn (.join [2] [] (sn (.two (sn (.seq (.aO (oR 0 3 (.aA 2 false (fR 3 3) [2,7] [26,29]::.aA 5 true (fR 6 4) [2,7,26] [29,33]::.aA 2 false [(10,false)] [2,7] [26,34]::oR 11 2 (.aA 12 false (fR 13 4) [2] [36,40]::.op 17 false::[])))) .nil)) .nil)) (sn (.seq (.aO (oR 0 4 (.aA 3 false (fR 4 3) [2,9] [52,55]::oR 7 2 []))) (.seq (.seq (.aO (oR 0 3 (.aA 2 true (fR 3 4) [2,10] [59,63]::.aA 6 false (fR 7 3) [2,10,59] [63,66]::.aA 2 true (fR 10 2) [2,10] [59,68]::.aA 11 false (fR 12 2) [2,10,59] [68,70]::.aA 2 true [(14,false)] [2,10] [59,71]::oR 15 2 (.aA 16 false (fR 17 3) [2,10] [73,76]::.aA 19 true (fR 20 3) [2,10,73] [76,79]::.aA 22 false (fR 23 4) [2,10,73,76] [79,83]::.aA 19 true [(27,false)] [2,10,73] [76,84]::.aA 16 false [(28,false)] [2,10] [73,85]::.op 29 false::[])))) .nil) (.seq (sn (.one (.join [2,10,88] [89] .nil (.two .nil (sn (.two (.seq (.aO (oR 0 4 (.aA 3 true (fR 4 3) [2] [100,103]::oR 7 2 (.aA 8 true (fR 9 4) [2] [105,109]::oR 13 2 (.aA 14 true (fR 15 4) [2] [111,115]::.aA 18 false (fR 19 4) [2,111] [115,119]::.aA 22 true (fR 23 3) [111,115] [119,122]::.aA 18 false [(26,false)] [111] [115,123]::.aA 14 true [(27,false)] [] [111,124]::oR 28 2 []))))) .nil) .nil)))))) (.seq (.aO (oR 0 4 (.aA 3 true (fR 4 3) [2,10] [129,132]::oR 7 2 (.aA 8 true (fR 9 3) [2,10] [134,137]::oR 12 2 (.aA 13 true (fR 14 3) [2] [139,142]::.aA 16 false (fR 17 4) [139] [142,146]::.aA 13 true [(21,false)] [] [139,147]::oR 22 2 []))))) .nil)))))))) 149 [.tmp 4]
def Qq(i:AV)(h:aa)(K:AV→aa→Prop):Prop:=
 jP 5 i h fun a j=>aU a fun c=>bc [i_ 0] j fun k b d =>
 ag .lss (nx b 0) c fun l=>af l (aI (fun f=>au 1 a (nx b 0) fun m=>ae false 1 m d fun g=>ag .leq (u8 65) g fun n=>qJa n [a,nx b 0,a,c,nx b 0] d (fun o=>ag .leq g (u8 90) fun p=>o p d) fun q e=>af q (au 1 a (nx b 0) fun r=>ae false 1 r e fun s=>ag .or s (u8 32) fun t=>au 1 a (nx b 0) fun u=>ah 1 u t e fun v=>eC [a,a,c,nx b 0] (f [] v)) (eC [a,a,c,nx b 0] (f [] e))) fun z w=>qBe .add (nx b 0) 1 fun x=>eC [a,a,c] (k [x] w)) (dk a d fun y=>K y d)
def WX(a:AV):Body p_ 101 [a] (Qq a):=mkB Tryz.func101 (sn (sn (.seq (sn (.one (.loop [3,8,9] [10] (sn (sn (.join [3,8,9,10] [] (.one (sn (.seq (.aO (oR 0 3 (.aA 2 true (fR 3 2) [3,4,8,9,10] [17,19]::.op 5 false::[]))) .nil))) .nil)))))) .nil))) 30 [.tmp 2]
def Rz(a:AV)(h:aa)(K:AV→aa→Prop):Prop:=
 ag .neq a (.str []) fun b=>qKa b h (fun c=>iC p_ 215 [a,i_ 64] h fun d e=>bT d fun f=>c f e) fun g i=>K g i
def X7(a:AV):Body p_ 212 [a] (Rz a):=mkB Tryz.func212 (sn (.seq (.aO (oR 0 3 (.aA 2 true (fR 3 3) [] [5,8]::oR 6 2 []))) .nil)) 10 [.tmp 2]
def RE(e:AV)(h:aa)(K:AV→aa→Prop):Prop:=
 aB 97 e h fun b c=>iFL 0 false 1 b c fun f=>iC p_ 269 [f] c fun g a=>bT g fun i=>qKo i a (fun j=>iFL 1 false 1 b a fun k=>iC p_ 269 [k] a fun l m=>bT l fun n=>j n m) fun o d=>af o (K (i_ 8) d) (K (i_ 0) d)
def Yb(a:AV):Body p_ 216 [a] (RE a):=mkB Tryz.func216 (sn (.seq (.seq (.aO (oR 0 5 (.aA 4 false (fR 5 4) [] [7,11]::.op 9 false::[]))) .nil) .nil)) 13 [.tmp 2]
def RA(k:AV)(h:aa)(K:AV→aa→Prop):Prop:=
 aB 99 k h fun b d=>iFL 0 false 1 b d fun a=>aI (fun f=>ag .eql a (u8 9) fun l=>af l (eC [b,a] (f [tt] d)) (ag .eql a (u8 10) fun m=>eC [b,a] (f [m] d))) fun n c=>af (nx n 0) (iFL 7 false 1 b c fun o=>K (.aw [o,ff]) c) (aI (fun g=>ag .eql a (u8 11) fun p=>af p (eC [a] (g [tt] c)) (ag .eql a (u8 12) fun q=>eC [a] (g [q] c))) fun r e=>af (nx r 0) (K (.aw [tt,tt]) e) (aI (fun i=>ag .eql a (u8 13) fun s=>af s (i [tt] e) (ag .eql a (u8 14) fun t=>i [t] e)) fun u j=>af (nx u 0) (K (.aw [tt,ff]) j) (K (.aw [ff,tt]) j)))
def X8(a:AV):Body p_ 213 [a] (RA a):=mkB Tryz.func213 (sn (.seq (sn (.one (.join [1,5] [6] .nil (.two .nil (.join [5] [11] .nil (.two .nil (.join [] [14] .nil .nil))))))) .nil)) 17 [.tmp 2,.tmp 3]
def Ry(q s:AV)(h:aa)(K:AV→aa→Prop):Prop:=
 aB 93 q h fun b r=>aB 93 (.agg [i_ 0,ff]) r fun a f=>ag .eql s (u8 14) fun c=>iFL 0 false 1 b f fun t=>qBe .eql t 3 fun g=>aI (fun i=>aL g false (iFL 1 false 1 b f fun u=>eC [b,a,c] (i [ff,u] f)) (eC [b,a,c] (i [bO false g,un] f))) fun d j=>aI (fun k=>aL (nx d 1) true (eC [b,a,c,nx d 0] (k [tt,c] j)) (eC [b,a,c,nx d 0] (k [(bO true (nx d 1)),un] j))) fun l m=>qJo (nx d 0) [b,a,c] m (fun v=>bG (nx l 0) (nx l 1) ff fun w=>v w m) fun x e=>af x (bf (.agg [i_ 0,ff]) [] fun y=>ah 2 a y e fun n=>ae true 2 a n fun r24=>K (.aw [r24,ff]) n) (iFL 0 false 1 b e fun z=>qBe .add z 1 fun o=>iFL 1 false 1 b e fun A=>qJo A [a,o] e (fun B=>B c e) fun C D=>bf (.agg [i_ 0,ff]) [(0,1,o),(1,1,C)] fun E=>ah 2 a E D fun p=>ae true 2 a p fun r36=>K (.aw [r36,tt]) p)
def X6(a b:AV):Body p_ 211 [a,b] (Ry a b):=mkB Tryz.func211 (sn (sn (.seq (.seq (.aO (oR 0 4 (.aA 3 false (fR 4 3) [2,4,6] [12,15]::.aA 6 true [(7,false)] [2,4,6,12] [15,16]::.aA 3 false [(8,false)] [2,4,6] [12,17]::.op 9 false::[]))) .nil) (.seq (.aO (oR 0 6 (.aA 5 false [(6,false)] [4,22] [25,26]::oR 7 4 []))) .nil)))) 29 [.cell 4 93,.tmp 5]
def RB(b e g:AV)(h:aa)(K:AV→aa→Prop):Prop:=
 aB 118 b h fun c a=>ae true 3 c a fun d=>ae true 2 e a fun f=>iFL 0 false 1 g a fun i=>ag .eql i (u8 14) fun j=>iC p_ 116 [d,f,j] a fun k l=>bT k fun m=>K m l
def X9(a b c:AV):Body p_ 214 [a,b,c] (RB a b c):=mkB Tryz.func214 .nil 12 [.tmp 4]
def RD(a c:AV)(h:aa)(K:AV→aa→Prop):Prop:=
 cn a fun b=>ag .gtr b c fun d=>qKo d h (fun e=>iC p_ 97 [a,u8 0] h fun f g=>qBe .geq f 0 fun i=>e i g) fun j k=>K j k
def Ya(a b:AV):Body p_ 215 [a,b] (RD a b):=mkB Tryz.func215 (sn (.seq (.aO (oR 0 5 (.aA 4 false (fR 5 3) [] [9,12]::oR 8 2 []))) .nil)) 14 [.tmp 4]
def RU(a:AV)(h:aa)(K:AV→aa→Prop):Prop:=
 ag .leq (i_ (-1000000000)) a fun b=>qKa b h (fun c=>qBe .leq a 1000000000 fun d=>c d h) fun e f=>K e f
def Yq(a:AV):Body p_ 269 [a] (RU a):=mkB Tryz.func269 (sn (.seq (.aO (oR 0 3 (.aA 2 true (fR 3 2) [] [5,7]::oR 5 2 []))) .nil)) 9 [.tmp 2]
def VS(b:AV)(h:aa)(K:AV→aa→Prop):Prop:=
 aU b fun t=>aU b fun e=>bc [t,i_ 0] h fun u a g =>
 ag .lss (nx a 1) e fun v=>af v (au 3 b (nx a 1) fun w=>ae true 3 w g fun x=>aB 118 (.agg [u8 0,qNs,qNs]) g fun m y=>ah 3 m x y fun n=>iFL 1 false 1 m n fun f=>aU f fun i=>bc [nx a 0,i_ 0] n fun z c j =>
 ag .lss (nx c 1) i fun A=>af A (au 2 f (nx c 1) fun B=>ae true 2 B j fun C=>aB 121 (.agg [.str [],qNs]) j fun o D=>ah 2 o C D fun p=>iFL 1 false 1 o p fun k=>aU k fun q=>bc [nx c 0,i_ 0] p fun E d l =>
 ag .lss (nx d 1) q fun F=>af F (au 9 k (nx d 1) fun G=>ae true 9 G l fun H=>aB 99 (.agg [u8 0,.str [],u8 0,.str [],ff,i_ 0,i_ 0,ff,qNs]) l fun r I=>ah 9 r H I fun s=>iFL 8 false 1 r s fun J=>iC p_ 49 [J] s fun L M=>ag .add (nx d 0) L fun N=>qBe .add (nx d 1) 1 fun O=>eC [b,e,nx a 1,f,i,nx c 1,k,q] (E [N,O] M)) (qBe .add (nx c 1) 1 fun P=>eC [b,e,nx a 1,f,i] (z [nx d 0,P] l))) (qBe .add (nx a 1) 1 fun Q=>eC [b,e] (u [nx c 0,Q] j))) (K (nx a 0) g)
def V49(a:AV):Body p_ 49 [a] (VS a):=mkB Tryz.func49 (sn (sn (.seq (sn (.one (.loop [12,13] [3,14] (sn (sn (.seq (.one (sn (sn (.one (.loop [12,13,14,19,20] [3,21] (sn (sn (.seq (.one (sn (sn (.one (.loop [12,13,14,19,20,21,26,27] [3,28] .nil))))) .nil)))))))) .nil)))))) .nil))) 41 [.tmp 2]
end
section
open Go Go.Aw Go.bE
def qU(l:ao):decide (0≤Lib.indexByte l 0)=!pq l:=by
 induction l with
 | nil=>rfl
 | cons b l ih =>
   have h1:=Lib.indexByte_ge l 0;rw[Bool.eq_iff_iff]at ih ⊢;simp only[Lib.indexByte,pq,aaC,aaI,Bool.and_eq_false_iff,OF]at ih ⊢
   by_cases e:b=0
   ·subst e;simp
   ·have e2:(b == 0)=false:=by simpa using e
    simp only[e2,aaj,if_false]
    by_cases q:Lib.indexByte l 0=-1
    ·simp[q];have:¬0≤Lib.indexByte l 0:=by omega
     simp only[this,false_iff]at ih;simpa[pq]using ih
    ·simp[q];have:0≤Lib.indexByte l 0:=by omega
     simp only[this,true_iff]at ih;constructor
     ·intro _;simpa[pq]using ih
     ·intro _;omega
variable [Laid]
def Ac(s:ao):aV p_ 97 [.str s,u8 0] (i_ (Lib.indexByte s 0)):=by
 refine gV (v:=.int .i64 (Lib.indexByte s 0)) (by simp) (by simp) (by simp) (fun w=>by simp) ?_;intro ι S w vs h1 _
 match vs,h1 with
 | [],h1=>simp at h1
 | [v],h1=>simp at h1
 | v:: u:: x:: vs,h1=>simp at h1
 | [v,u],h1 =>
   simp only[bL,di,and_true,dG,cE]at h1;obtain⟨⟨rfl,_⟩,rfl⟩:=h1;refine (Any.strings_IndexByte lays137 ⟨s.toArray⟩ 0 w).mono ?_;rintro e w' ⟨rfl,rfl⟩;exact⟨by simp,Go.RowKit.Below.refl _ _⟩
def xS(s:ao)(n:Int):aV p_ 215 [.str s,i_ n] (b_ (decide (n<s.length)||!pq s)):=by
 refine (Ya _ _).aQ (by simp) (by simp) ?_;unfold RD;repeat' (first|(with_reducible apply aK)|((with_reducible first|apply cS|apply fk);rfl;rfl)|((with_reducible apply bu);rfl)|((with_reducible apply bt);rfl)|((with_reducible apply gR);rfl;intro _)|(refine uCon (Ac _) ?_)|((with_reducible apply eG);rfl)|(with_reducible intro _))
 all_goals refine .pure (by simp) ?_
 all_goals simp only[kq,pt,AV.v.injEq,Value.bool.injEq,Value.int.injEq,true_and]at *
 all_goals first
  | grind [qU]
  | (simp_all [qU];done)
  | (simp_all [qU];omega)
def vA(s:ao):aV p_ 212 [.str s] (b_ (named s)):=by
 refine (X7 _).aQ (by simp) (by simp) ?_;unfold Rz;repeat' (first|(with_reducible apply aK)|((with_reducible apply nL);rfl;rfl)|((with_reducible apply dC);rfl)|((with_reducible apply bu);rfl)|((with_reducible apply bt);rfl)|((with_reducible apply jL);rfl)|(refine uCon (xS _ _) ?_)|((with_reducible apply eG);rfl)|(with_reducible intro _))
 all_goals refine .pure (by simp) ?_
 all_goals simp only[kq,pt,AV.v.injEq,Value.bool.injEq,Value.int.injEq,true_and]at *
 all_goals first
  | grind [named]
  | (simp_all [named];done)
  | (simp_all [named];omega)
def HF(n:Int):aV p_ 269 [i_ n] (b_ (ma n)):=by
 refine (Yq _).aQ (by simp) (by simp) ?_;unfold RU;repeat' (first|(with_reducible apply aK)|((with_reducible apply kv);rfl;rfl)|((with_reducible apply bu);rfl)|((with_reducible apply bt);rfl)|((with_reducible apply eG);rfl)|(with_reducible intro _))
 all_goals refine .pure (by simp) ?_
 all_goals simp only[kq,pt,AV.v.injEq,Value.bool.injEq,Value.int.injEq,true_and]at *
 all_goals first
  | grind [ma]
  | (simp_all [ma];done)
  | (simp_all [ma];omega)
def qI(a b:Int):aV p_ 216 [.agg [i_ a,i_ b]] (i_ (if ma a&&ma b then 0 else 8)):=by
 refine (Yb _).aQ (by simp) (by simp) ?_;unfold RE;repeat' (first|(with_reducible apply aK)|((with_reducible apply dC);rfl)|((with_reducible apply bu);rfl)|((with_reducible apply bt);rfl)|((with_reducible apply aF);rfl;first|rfl|assumption)|((with_reducible apply sX);rfl)|((with_reducible apply jL);rfl)|((with_reducible apply aR);rfl)|((with_reducible apply aE);rfl;rfl;rfl)|((with_reducible apply gi);first|rfl|simp)|(refine uCon (HF _) ?_)|((with_reducible apply aW);rfl)|((with_reducible apply eG);rfl)|(with_reducible intro _))
 all_goals refine .pure (by simp) ?_
 all_goals simp only[kq,pt,AV.v.injEq,Value.bool.injEq,Value.int.injEq,true_and]at *
 all_goals first
  | grind []
  | (simp_all [];done)
  | (simp_all [];omega)
end
section
open Go Go.Aw Go.bE
def SZ(b:UInt8)(h1:65≤(b.toNat:Int))(h2:(b.toNat:Int)≤90):dn .or .u8 (b.toNat:Int) 32=((eI b).toNat:Int):=by
 have:∀n:Fin 26,dn .or .u8 (((65+n.val:Nat)):Int) 32=((eI (UInt8.ofNat (65+n.val))).toNat:Int):=by decide
 have hb:b=UInt8.ofNat (65+(b.toNat-65)):=by
  rw[show 65+(b.toNat-65)=b.toNat by omega];simp
 have h:=this ⟨b.toNat-65,by omega⟩;simp only[show 65+(b.toNat-65)=b.toNat by omega]at h;rw[h];simp
def JF(b:UInt8)(h:¬(65≤(b.toNat:Int)∧(b.toNat:Int)≤90)):eI b=b:=by
 unfold eI;rw[if_neg];intro⟨h1,h2⟩;rw[UInt8.le_iff_toNat_le]at h1 h2;simp at h1 h2;omega
def fO(s:ao)(k:Nat):List AV:=((s.take k).map eI++s.drop k).map bS
def Ec(hb:s[k]?=some b):(fO s k)[k]?=some (bS b):=by
 have hk:=(dO.1 hb).1;unfold fO;rw[iS,iD (by simp;omega)];simp[Nat.min_eq_left (Nat.le_of_lt hk),hb]
def pF(hb:s[k]?=some b):(fO s k).set k (bS (eI b))=fO s (k+1):=by
 have hk:=(dO.1 hb).1;refine List.ext_getElem? fun j=>?_;unfold fO;rcases Nat.lt_trichotomy j k with q|q|q
 ·rw[iN (by omega),iS,iS,gE (by simp;omega),gE (by simp;omega)];simp[q,Nat.lt_succ_of_lt q]
 ·subst q;rw[iF (by simp;omega),iS,gE (by simp;omega)];simp[hb]
 ·rw[iN (by omega),iS,iS,iD (by simp;omega),iD (by simp;omega)];simp[Nat.min_eq_left (Nat.le_of_lt hk),Nat.min_eq_left hk]
  congr 2;omega
def Ed(s:ao)(k:Nat):(fO s k).length=s.length:=by
 unfold fO;simp;omega
variable [Laid]
def gW(s:ao):aV p_ 101 [.str s] (.str (s.map eI)):=by
 refine (WX _).aQ (by simp) (by simp) ?_;unfold Qq;rw[HO,tz];intro hlen;refine aG (α:=Nat) (fun k=>k≤s.length) (fun k=>[i_ k]) (fun k=>[.ak ⟨5,fO s k,true⟩]) (fun k=>s.length-k) 0 (by simp) (by simpa[fO]using Wk.refl _ _ _ (by simp)) ?_;intro k hk
 by_cases q:k<s.length
 ·obtain⟨b,hb⟩:∃b,s[k]?=some b:=⟨s[k],bY q⟩;have hc:=Ec hb;refine zzC (zzL (by simpa using q) (aK ?_));have idx:∀{K:AV→Prop},K (.op 0 k)→au 1 (.own 0 0 s.length 1) (nx [i_ k] 0) K:=fun q2=>by
   rw[kq,Pp];exact⟨rfl,⟨by omega,by omega⟩,by simpa using q2⟩
  refine idx (zzU rfl hc ?_);have hin:aZ ((k:Int)+1):=by unfold maxLen at hlen;unfold aZ;omega
  refine zzD (aK ?_);refine eG rfl (fun h1=>?_) (fun h1=>?_)
  ·refine zzD (ar (zzR ?_));refine aW rfl (fun h2=>?_) (fun h2=>?_)
   ·refine idx (zzU rfl hc ?_);rw[show ag .or (bS b) (u8 32)=fun K=>K (u8 (dn .or .u8 (b.toNat:Int) 32)) from by funext K;simp[bS]];refine idx ?_;refine gd rfl rfl rfl rfl ?_ rfl rfl ?_
    ·simp[Ed];omega
    refine ar (zzP hin (ar ?_));have h1:65≤(b.toNat:Int):=by simpa using h1
    have h2:(b.toNat:Int)≤90:=by simpa using h2
    refine⟨k+1,by omega, ?_,by omega⟩;rw[SZ b h1 h2];have:=pF hb;rw[show bU (fO s k) k (bl (u8 ((eI b).toNat:Int)))=fO s (k+1) from this];exact Wk.refl _ _ _ (by simp)
   ·refine ar (zzP hin (ar ?_));refine⟨k+1,by omega, ?_,by omega⟩;have h2:¬(b.toNat:Int)≤90:=by simpa using h2
    have:=pF hb;rw[JF b (by omega),jV hc]at this;rw[←this];exact Wk.refl _ _ _ (by simp)
  ·refine ar (zzQ (M6 rfl (ar (zzP hin (ar ?_)))));refine⟨k+1,by omega, ?_,by omega⟩;have h1:¬65≤(b.toNat:Int):=by simpa using h1
   have:=pF hb;rw[JF b (by omega),jV hc]at this;rw[←this];exact Wk.refl _ _ _ (by simp)
 ·obtain rfl:k=s.length:=by omega
  refine zzC (zzK (by simp) (IE (id:=0) (b:=⟨5,fO s s.length,true⟩) (l:=s.map eI) (by simp) rfl (by simp[fO]) ?_));exact .pure (by simp) rfl
def vC(s:ao):aV p_ 155 [.str s] (b_ (small s)):=by
 refine (XE _).aQ (by simp) (by simp) ?_;unfold Q3;repeat' (first|(with_reducible apply aK)|((with_reducible apply gy);rfl;rfl)|((with_reducible apply bu);rfl)|((with_reducible apply bt);rfl)|(refine uCon (vA _) ?_)|(refine uCon (gW _) ?_)|((with_reducible apply eG);rfl)|(with_reducible intro _))
 all_goals refine .pure (by simp) ?_
 all_goals simp only[kq,pt,AV.v.injEq,Value.bool.injEq,Value.int.injEq,true_and]at *
 all_goals first
  | grind [small]
  | (simp_all [small];done)
  | (simp_all [small];omega)
end
section
open Go Go.Aw Go.RowKit
def pL(s:ao)(i:Nat):Tok×Nat:=
 let r:=Rt.cW s i
 if Rt.aJ s r.2≠40 then (⟨1,r.1,0,[],false⟩,r.2)
 else if r.1.map bE.eI=Rt.yy∧Rt.aJ s (Rt.dU s (r.2+1))≠34∧Rt.aJ s (Rt.dU s (r.2+1))≠39 then
  let u:=Rt.gQ s (Rt.dU s (r.2+1))
  (rD u.1,u.2)
 else (⟨2,r.1,0,[],false⟩,r.2+1)
def jA(s:ao)(i:Nat):Tok×Nat:=
 let c:=Rt.aJ s i
 if Rt.je c=true then (⟨13,[],0,[],false⟩,Rt.dU s i)
 else if c=34∨c=39 then (EP (Rt.iK c s (i+1)).1,(Rt.iK c s (i+1)).2)
 else if c=35∧(Rt.fN (Rt.aJ s (i+1))=true∨Rt.dP s (i+1)=true) then (⟨4,(Rt.cW s (i+1)).1,0,[],Rt.jz s (i+1)⟩,(Rt.cW s (i+1)).2)
 else if Rt.lN s i=true then ku s i
 else if Rt.hasB s i [45,45,62]=true then (⟨15,[],0,[],false⟩,i+3)
 else if Rt.hasB s i [60,33,45,45]=true then (⟨14,[],0,[],false⟩,i+4)
 else if c=64∧Rt.jz s (i+1)=true then (⟨3,(Rt.cW s (i+1)).1,0,[],false⟩,(Rt.cW s (i+1)).2)
 else if Rt.jz s i=true then pL s i
 else if 0≤Lib.indexByte Rt.np c then (⟨16+Lib.indexByte Rt.np c,[],0,[],false⟩,i+1)
 else (⟨9,[c],0,[],false⟩,i+1)
def wm{K:AV→Prop}(hk:k≠.i64)(ex:x=.v (.int k a))(ey:y=.v (.int k b))(hc:k.wrap (a+b)=c)(q:K (.v (.int k c))):ag .add x y K:=by
 subst ex;subst ey;subst hc;refine⟨rfl, ?_⟩;unfold sO u9;cases k<;>first|exact q|exact absurd rfl hk
section
variable [Laid]
def rP(a b:ao):aV p_ 148 [.str a,.str b] (Aw.b_ (decide (a.map bE.eI=b.map bE.eI))):=by
 refine (Xy _ _).aQ (by simp) (by simp) ?_;unfold QW;refine uCon (gW a) (uCon (gW b) (zzI ?_));exact .pure (by simp) rfl
def Ux{id a:Nat}{K:AV→aa→Prop}(sc:Sc id h s a)(ey:y=.op id 0)(hs:s.length≤2^20)(ha:a≤s.length)(k:∀H,Mw id s (pL s a).2 h H→K (pL s a).1.av H):bA p_ (.fn (.func 96) [] []) [y] h K:=by
 subst ey;have hid:=sc.lt;obtain⟨R,hR⟩:∃R,pL s a=R:=⟨_,rfl⟩;rw[hR]at k;refine cu (by kernel_rfl) rfl (K0:=fun r H=>r=R.1.av∧Mw id s R.2 h H) ?_ (by rintro r H ⟨rfl,m⟩;exact k H m);refine (V96 _).bR ?_;unfold WG;refine bq (cs:=[u8 0,.str [],i_ 0,.str [],ff]) (n:=h.length) (h':=h++[cm 0 [] 0 [] false]) rfl (by simp[bw]) rfl rfl ?_;obtain⟨hB,hhB⟩:∃hB,h++[cm 0 [] 0 [] false]=hB:=⟨_,rfl⟩;have hBl:hB.length=h.length+1:=by rw[←hhB];simp
 have scB':Sc id hB s a:=by rw[←hhB];exact sc.app _
 have hV:hB[h.length]?=some (cm 0 [] 0 [] false):=by rw[←hhB];simp
 have pre:∀{b H},Mw id s b hB H→Mw id s b h H:=fun m=>by rw[←hhB]at m;exact m.pre
 rw[hhB];have ret:∀(t:Tok) (b:Nat) (T:aa),Mw id s b hB T→R=(t,b)→ah 5 (.op h.length 0) t.av T fun g=>ae true 5 (.op h.length 0) g fun r=>∃r' h'',Wk h.length [r] g [r'] h''∧r'=R.1.av∧Mw id s R.2 h h'':=by
  intro t b T m e;refine pY (k:=t.k) (n:=t.n) (t:=t.t) (u:=t.u) (f:=t.f) (by rw[m.im _ (by omega) (by omega)];exact hV) ?_;refine⟨_,_,Wk.refl _ _ _ (by have:=m.len;simp;omega),by rw[e], ?_⟩;rw[e];exact (pre m).ext hid (by simp) fun i hi=>iN (by omega)
 obtain⟨w,j,hw⟩:∃w j,Rt.cW s a=(w,j):=⟨_,_,rfl⟩;have hin:=oe s s.length a (by omega) ha;rw[hw]at hin;dsimp only at hin;have hRR:R=if Rt.aJ s j≠40 then (⟨1,w,0,[],false⟩,j) else if w.map bE.eI=Rt.yy∧Rt.aJ s (Rt.dU s (j+1))≠34∧Rt.aJ s (Rt.dU s (j+1))≠39 then (rD (Rt.gQ s (Rt.dU s (j+1))).1,(Rt.gQ s (Rt.dU s (j+1))).2) else (⟨2,w,0,[],false⟩,j+1):=by
  rw[←hR];unfold pL;rw[hw]
 refine wV scB' rfl hs ha fun H m=>?_;rw[hw]at m ⊢;dsimp only at m ⊢;refine cZ 0 m.sc rfl rfl (by omega) ?_;rw[Nat.add_zero];refine zzH ?_;rw[fA (c:=40) 40 rfl (by decide)]
 by_cases q:Rt.aJ s j=40
 ·rw[if_neg (by simpa using q)]at hRR;have hlt:j<s.length:=at_lt (by rw[q];decide);refine zzK (by rw[tO q];rfl) (iU m.sc (by omega) rfl ?_);have m1:=m.set (j+1);obtain⟨H1,hH1⟩:∃H1,H.set id (dB s (j+1))=H1:=⟨_,rfl⟩;rw[hH1]at m1 ⊢;have hL1:=m1.len;refine cL (fun _ T=>Mw id s (j+1) hB T∧¬(w.map bE.eI=Rt.yy∧Rt.aJ s (Rt.dU s (j+1))≠34∧Rt.aJ s (Rt.dU s (j+1))≠39)) (fun _ T hT=>?_) fun F hF=>?_
  ·rw[if_neg hT.2]at hRR;refine bp rfl ?_;exact ret ⟨2,w,0,[],false⟩ (j+1) T hT.1 hRR
  ·refine uCon (rP w [117,114,108]) ?_;have eu:([117,114,108]:ao).map bE.eI=Rt.yy:=by decide
   rw[eu]
   by_cases q2:w.map bE.eI=Rt.yy
   ·refine zzL (tO q2) (bD (zzV m1.sc (by simp) (bq (cs:=[.str [],i_ 0]) (n:=H1.length) (h':=H1++[dB [] 0]) rfl (by simp[bw]) rfl rfl (aM (cs:=[.str s,i_ ((j+1:Nat):Int)]) (h':=H1++[dB s (j+1)]) rfl (b:=⟨126,[.str [],i_ 0],true⟩) (by simp) rfl rfl (by simp) rfl (by simp[bw]) (by rw[Lt _ _ (aS _)];simp[bU]) ?_))));have sc3:Sc H1.length (H1++[dB s (j+1)]) s (j+1):=by unfold Sc;simp
    refine ze sc3 rfl hlt hs ?_;have hsp:=qq (s:=s) (i:=j+1) hlt;obtain⟨e,he⟩:∃e,Rt.dU s (j+1)=e:=⟨_,rfl⟩;rw[he]at hsp hRR hF ⊢;have sc4:=sc3.set e;have m4:Mw id s (j+1) hB ((H1++[dB s (j+1)]).set H1.length (dB s e)):=m1.ext (by omega) (by simp) fun i hi=>by
     rw[iN (by omega),gE (by omega)]
    refine cZ 0 sc4 rfl rfl (by omega) ?_;rw[Nat.add_zero];refine zzH ?_;rw[fA (c:=34) 34 rfl (by decide)];refine kU (decide (Rt.aJ s e≠34∧Rt.aJ s e≠39)) (b1:=!decide (Rt.aJ s e=34)) rfl (fun z=>by simp at z;simp[z]) (fun z F hF=>?_) fun v hv=>?_
    ·refine zzH ?_;rw[fA (c:=39) 39 rfl (by decide)];have z:Rt.aJ s e≠34:=by simpa using z
     have e2:(!decide (Rt.aJ s e=39))=decide (Rt.aJ s e≠34∧Rt.aJ s e≠39):=by
      rw[Bool.eq_iff_iff];simp[z]
     rw[e2];exact ar hF
    refine kf hv ?_
    by_cases q3:Rt.aJ s e≠34∧Rt.aJ s e≠39
    ·refine zzL (tO q3) ?_;rw[if_pos ⟨q2,q3⟩]at hRR;refine SQ m4.sc rfl hs hlt fun H5 m5=>?_;rw[he]at m5 ⊢;exact ret _ _ H5 (m4.trans m5) hRR
    ·refine zzK (oF q3) ?_;exact ar (hF _ _ ⟨m4,fun z=>q3 z.2⟩)
   ·refine zzK (oF q2) ?_;exact ar (hF _ _ ⟨m1,fun z=>q2 z.1⟩)
 ·rw[if_pos q]at hRR;refine zzL (by rw[oF q];rfl) (bp rfl ?_);exact ret ⟨1,w,0,[],false⟩ j H m hRR
end
variable [bB]
def Pt{id a:Nat}{K:AV→aa→Prop}(sc:Sc id h s a)(ey:y=.op id 0)(hs:s.length≤2^20)(ha:a<s.length)(k:∀H,Mw id s (jA s a).2 h H→K (jA s a).1.av H):bA p_ (.fn (.func 64) [] []) [y] h K:=by
 subst ey;have hid:=sc.lt;obtain⟨R,hR⟩:∃R,jA s a=R:=⟨_,rfl⟩;rw[hR]at k;refine cu (by kernel_rfl) rfl (K0:=fun r H=>r=R.1.av∧Mw id s R.2 h H) ?_ (by rintro r H ⟨rfl,m⟩;exact k H m);refine (V64 _).bR ?_;unfold Wa;refine bq (cs:=[u8 0,.str [],i_ 0,.str [],ff]) (n:=h.length) (h':=h++[cm 0 [] 0 [] false]) rfl (by simp[bw]) rfl rfl ?_;obtain⟨hB,hhB⟩:∃hB,h++[cm 0 [] 0 [] false]=hB:=⟨_,rfl⟩;have hBl:hB.length=h.length+1:=by rw[←hhB];simp
 have sc2:Sc id hB s a:=by rw[←hhB];exact sc.app _
 have hV:hB[h.length]?=some (cm 0 [] 0 [] false):=by rw[←hhB];simp
 have pre:∀{b H},Mw id s b hB H→Mw id s b h H:=fun m=>by rw[←hhB]at m;exact m.pre
 rw[hhB];have m0:=Mw.refl sc2;have ret:∀(t:Tok) (b:Nat) (T:aa),Mw id s b hB T→R=(t,b)→ah 5 (.op h.length 0) t.av T fun g=>ae true 5 (.op h.length 0) g fun r=>∃r' h'',Wk h.length [r] g [r'] h''∧r'=R.1.av∧Mw id s R.2 h h'':=by
  intro t b T m e;refine pY (k:=t.k) (n:=t.n) (t:=t.t) (u:=t.u) (f:=t.f) (by rw[m.im _ (by omega) (by omega)];exact hV) ?_;refine⟨_,_,Wk.refl _ _ _ (by have:=m.len;simp;omega),by rw[e], ?_⟩;rw[e];exact (pre m).ext hid (by simp) fun i hi=>iN (by omega)
 have step:∀(n:Nat) (t:Tok),n≤4→R=(t,a+n)→∀{KK:aa→Prop},(∀T,Mw id s (a+n) hB T→KK T)→ca p_ (.op id 0) fun v1=>aN 1 v1 fun v2=>ae false 1 v2 hB fun v3=>ag .add v3 (i_ n) fun v4=>ca p_ (.op id 0) fun v5=>aN 1 v5 fun v6=>ah 1 v6 v4 hB fun g7=>KK g7:=by
  intro n t hn e KK kk;refine bD (zzA (zzU sc2 rfl (zzP (by unfold aZ;omega) (bD (zzA ?_)))));refine aM (cs:=[i_ ((a:Int)+n)]) (h':=hB.set id (dB s (a+n))) rfl sc2 rfl rfl (by simp) rfl rfl ?_ (kk _ (m0.set _));show _=List.set hB id (.ak ⟨126,[.str s,i_ ((a+n:Nat):Int)],true⟩);rw[show ((a+n:Nat):Int)=(a:Int)+n by omega];rfl
 refine⟨i_ (pk s a),cZ 0 sc2 rfl rfl (by omega) ⟨rfl,rfl⟩, ?_⟩;refine bD (zzA (zzU sc2 rfl (bD (zzA (zzU sc2 rfl (oO (a:=a) (b:=s.length) (r:=s.drop a) rfl rfl rfl (by omega) (aS _) (by rw[Gt]) (uCon (rQ _) ?_)))))));rw[zr];show af (Aw.b_ (Rt.je (Rt.aJ s a))) _ _;unfold jA at hR;have hat:=ib ha;obtain⟨c,hc⟩:∃c,Rt.aJ s a=c:=⟨_,rfl⟩;have isc:∀{d:UInt8} (n:Int),n=(d.toNat:Int)→d≠0→decide (pk s a=n)=decide (c=d):=fun n hn hd=>by rw[fA n hn hd,hc]
 simp only[hc]at hR;rw[hc];cases q0:Rt.je c with
 | true =>
   rw[if_pos q0]at hR;refine zzL rfl (ze sc2 rfl (by omega) hs (bp rfl ?_));exact ret ⟨13,[],0,[],false⟩ _ _ (m0.set _) hR.symm
 | false =>
 rw[if_neg (by rw[q0];decide)]at hR;refine zzK rfl (zzG ?_);rw[isc (d:=34) 34 rfl (by decide)];refine lv (decide (c=34∨c=39)) (b1:=decide (c=34)) rfl (fun z=>tO (.inl (uP z))) (fun z F hF=>?_) fun v hv=>?_
 ·refine zzG ?_;rw[isc (d:=39) 39 rfl (by decide)];have z:=At z;simp only[z,false_or]at hF;exact ar hF
 refine kB hv ?_
 by_cases q1:c=34∨c=39
 ·rw[if_pos q1]at hR;refine zzL (tO q1) ?_;refine SO sc2 rfl hs ha (by rw[hc];exact q1) fun H m=>?_;rw[hc]at m ⊢;exact ret _ _ H m hR.symm
 rw[if_neg q1]at hR;refine zzK (oF q1) (zzG ?_);rw[isc (d:=35) 35 rfl (by decide)]
 -- a hash
 have hash:∀b:Bool,b=decide (c=35∧(Rt.fN (Rt.aJ s (a+1))=true∨Rt.dP s (a+1)=true))→∀{A B:Prop},(b=true→A)→(b=false→B)→af (Aw.b_ b) A B:=fun b _ A B h1 h2=>by
  cases b with
  | true=>exact zzL rfl (h1 rfl)
  | false=>exact zzK rfl (h2 rfl)
 refine cL (fun v T=>T=hB∧((nx v 0=ff∧nx v 1=un∧c≠35)∨(nx v 0=tt∧nx v 1=Aw.b_ (Rt.fN (Rt.aJ s (a+1)))∧c=35))) (fun v T hv=>?_) fun F hF=>?_;rotate_left
 ·by_cases q:c=35
  ·refine zzN (tO q) (cZ 1 sc2 rfl rfl (by omega) (uCon (yP _) ?_));refine ar (hF _ _ ⟨rfl,.inr ⟨rfl, ?_,q⟩⟩);rw[←J4];rfl
  ·refine zzM (oF q) ?_;exact ar (hF _ _ ⟨rfl,.inl ⟨by rw[oF q];rfl,rfl,q⟩⟩)
 obtain⟨rfl,hv⟩:=hv;refine cL (fun w T2=>T2=T∧(nx v 0=tt→Qm (Rt.fN (Rt.aJ s (a+1))||Rt.dP s (a+1)) w)) (fun w T2 hw=>?_) fun F hF=>?_;rotate_left
 ·rcases hv with⟨h1,h2,h3⟩|⟨h1,h2,h3⟩
  ·rw[h2];refine cX rfl ?_;refine ar (hF _ _ ⟨rfl,fun z=>?_⟩);rw[h1]at z;cases z
  ·rw[h2];cases z:Rt.fN (Rt.aJ s (a+1)) with
   | true =>
     refine zzM rfl ?_;exact ar (hF _ _ ⟨rfl,fun _=>.inl ⟨rfl,by rw[z];rfl⟩⟩)
   | false =>
     refine zzN rfl (wU 1 sc2 rfl rfl (by omega) ?_);rw[tm];exact ar (hF _ _ ⟨rfl,fun _=>.inr ⟨rfl,by rw[z];rfl⟩⟩)
 obtain⟨rfl,hw⟩:=hw;refine cL (fun u T=>T=T2∧K5 (decide (c=35∧(Rt.fN (Rt.aJ s (a+1))=true∨Rt.dP s (a+1)=true))) u) (fun u T hu=>?_) fun F hF=>?_;rotate_left
 ·rcases hv with⟨h1,h2,h3⟩|⟨h1,h2,h3⟩
  ·rw[h1];refine zzM rfl ?_;exact ar (hF _ _ ⟨rfl,.inl ⟨rfl,oF fun z=>h3 z.1⟩⟩)
  ·have hw:=hw h1;rw[h1];refine zzN rfl (kB hw ?_);refine ar (hF _ _ ⟨rfl,.inr ⟨rfl, ?_⟩⟩);refine congrArg Aw.b_ ?_;rw[Bool.eq_iff_iff];simp[h3]
 obtain⟨rfl,hu⟩:=hu;refine kf hu ?_
 by_cases q2:c=35∧(Rt.fN (Rt.aJ s (a+1))=true∨Rt.dP s (a+1)=true)
 ·rw[if_pos q2]at hR;refine zzL (tO q2) (zd 1 sc2 rfl rfl (by omega) ?_);rw[zi];refine iU sc2 (by omega) rfl ?_;have m1:=m0.set (a+1);refine wV m1.sc rfl hs (by omega) fun H m=>?_;refine bp rfl ?_;exact ret ⟨4,_,0,[],_⟩ _ H (m1.trans m) hR.symm
 rw[if_neg q2]at hR;refine zzK (oF q2) (Mg sc2 rfl (by omega) ?_);rw[Td];cases q3:Rt.lN s a with
 | true =>
   rw[if_pos q3]at hR;refine zzL rfl ?_;refine SM sc2 rfl hs ha q3 fun H m=>?_;exact ret _ _ H m hR.symm
 | false =>
 rw[if_neg (by rw[q3];decide)]at hR;refine zzK rfl (uCon (qJ _ _) ?_);rw[xY];cases q4:Rt.hasB s a [45,45,62] with
 | true =>
   rw[if_pos q4]at hR;refine zzL rfl ?_;refine step 3 _ (by decide) hR.symm fun T m=>?_;refine bp rfl ?_;exact ret ⟨15,[],0,[],false⟩ _ T m hR.symm
 | false =>
 rw[if_neg (by rw[q4];decide)]at hR;refine zzK rfl (uCon (qJ _ _) ?_);rw[xY];cases q5:Rt.hasB s a [60,33,45,45] with
 | true =>
   rw[if_pos q5]at hR;refine zzL rfl ?_;refine step 4 _ (by decide) hR.symm fun T m=>?_;refine bp rfl ?_;exact ret ⟨14,[],0,[],false⟩ _ T m hR.symm
 | false =>
 rw[if_neg (by rw[q5];decide)]at hR;refine zzK rfl (zzG ?_);rw[isc (d:=64) 64 rfl (by decide)];refine kU (decide (c=64∧Rt.jz s (a+1)=true)) (b1:=decide (c=64)) rfl (fun z=>oF fun y=>At z y.1) (fun z F hF=>?_) fun v hv=>?_
 ·refine zd 1 sc2 rfl rfl (by omega) ?_;rw[zi];have z:=uP z;simp only[z,true_and,Bool.decide_eq_true]at hF;exact ar hF
 refine kf hv ?_
 by_cases q6:c=64∧Rt.jz s (a+1)=true
 ·rw[if_pos q6]at hR;refine zzL (tO q6) (iU sc2 (by omega) rfl ?_);have m1:=m0.set (a+1);refine wV m1.sc rfl hs (by omega) fun H m=>?_;refine bp rfl ?_;exact ret ⟨3,_,0,[],false⟩ _ H (m1.trans m) hR.symm
 rw[if_neg q6]at hR;refine zzK (oF q6) (zd 0 sc2 rfl rfl (by omega) ?_);rw[Nat.add_zero,zi];cases q7:Rt.jz s a with
 | true =>
   rw[if_pos q7]at hR;refine zzL rfl ?_;refine Ux sc2 rfl hs (by omega) fun H m=>?_;exact ret _ _ H m hR.symm
 | false =>
 rw[if_neg (by rw[q7];decide)]at hR;refine zzK rfl (iU sc2 (by omega) rfl ?_);have m1:=m0.set (a+1);refine eD (m:=(c.toNat:Int)) rfl (by rw[oJ ha,hc,IntKind.wrap_u8];have:=c.toNat_lt;omega) (uCon (I3 [58,59,44,91,93,40,41,123,125] c) (zzF ?_));have hib:Lib.indexByte Rt.np c<10:=by
  have key:((List.range 256).all fun n=>decide (Lib.indexByte Rt.np (UInt8.ofNat n)<10))=true:=by kernel_rfl
  have:=nW key c;rw[UInt8.ofNat_toNat]at this;exact uP this
 have hdef:Lib.indexByte [58,59,44,91,93,40,41,123,125] c=Lib.indexByte Rt.np c:=rfl;rw[hdef]
 by_cases q8:0≤Lib.indexByte Rt.np c
 ·rw[if_pos q8]at hR;refine zzL (tO q8) (eD (m:=Lib.indexByte Rt.np c) rfl (by rw[IntKind.wrap_u8];omega) (wm (c:=16+Lib.indexByte Rt.np c) (by decide) rfl rfl (by rw[IntKind.wrap_u8];omega) (bp rfl ?_)));exact ret ⟨16+Lib.indexByte Rt.np c,[],0,[],false⟩ _ _ m1 hR.symm
 ·rw[if_neg q8]at hR;refine zzK (oF q8) ?_;have hd:s.drop a=c:: s.drop (a+1):=by rw[aaK ha,←hat,hc]
  refine oO (a:=0) (b:=1) (r:=[c]) rfl rfl rfl (by omega) (by rw[hd];simp) (by rw[hd];rfl) (bp rfl ?_);exact ret ⟨9,[c],0,[],false⟩ _ _ m1 hR.symm
end
section
open Go Go.Aw
variable [bB]
def Tb(T:aa):Prop:=9≤T.length∧∀i,i<9→T[i]?=(Ha 1 0)[i]?
omit [bB] in
def Tb.b3(t:Tb T):T[3]?=some (.ak ⟨327,rb,true⟩):=by rw[t.2 3 (by decide)];rfl
omit [bB] in
def Tb.b4(t:Tb T):T[4]?=some (.ak ⟨322,tb,true⟩):=by rw[t.2 4 (by decide)];rfl
def nd_(v:List UInt8)(p:Int)(x:List UInt8)(n:AV):aY:=.ak ⟨325,[.str v,i_ p,.str x,n,.v (.slice none 0 0)],true⟩
omit [bB] in
def Tb.b5(t:Tb T):T[5]?=some (nd_ [10] 6 [10] (.op 6 0)):=by rw[t.2 5 (by decide)];rfl
omit [bB] in
def Tb.b6(t:Tb T):T[6]?=some (nd_ [10] 8 [] (.v (.pointer none))):=by rw[t.2 6 (by decide)];rfl
omit [bB] in
def Tb.b7(t:Tb T):T[7]?=some (nd_ [10] 4 [] (.v (.pointer none))):=by rw[t.2 7 (by decide)];rfl
omit [bB] in
def Tb.b8(t:Tb T):T[8]?=some (nd_ [239,191,189] 2 [] (.v (.pointer none))):=by rw[t.2 8 (by decide)];rfl
abbrev Gy(v:List UInt8)(n:Nat)(f:Bool):AV:=.aw [.str v,i_ n,Aw.b_ f]
def SY(t:Tb T):cw p_ 383 [.op 3 0,.str [],ff] T fun r hh=>r=Gy [] 0 false∧hh=T:=by
 refine (Dh _ _ _).bR ?_;unfold zW;simp only[mR,qS];refine aG (α:=Unit) (fun _=>True) (fun _=>[.str [],.str [],i_ 0,ff,i_ 0,.op 3 0,i_ 0]) (fun _=>T) (fun _=>0) () trivial (Wk.refl _ _ _ (by simp)) ?_;rintro - -;simp[rp,t.b3];exact Wk.refl _ _ _ (by simp)
omit [bB] in
def NC(c:UInt8):rb.drop (6+c.toNat)=u8 (eF.getD c.toNat 0):: rb.drop (6+c.toNat+1):=Tt _ c.toNat_lt
omit [bB] in
def Za:tb.drop 2=.op 7 0:: tb.drop 3:=rfl
def Uz(t:Tb T)(r:List UInt8):cw p_ 383 [.op 3 0,.str (12:: r),ff] T fun r hh=>r=Gy [10] 1 true∧hh=T:=by
 refine (Dh _ _ _).bR ?_;unfold zW;simp only[mR,qS];refine aG (α:=Bool) (fun _=>True) (fun b=>if b then [.str r,.str [],i_ 0,ff,i_ 0,.op 7 0,i_ 1] else [.str (12:: r),.str [],i_ 0,ff,i_ 0,.op 3 0,i_ 0]) (fun _=>T) (fun b=>if b then 0 else 1) false trivial (Wk.refl _ _ _ (by simp)) ?_;rintro (_|_) -
 ·have h1:=NC 12;have e1:eF.getD (12:UInt8).toNat 0=2:=by kernel_rfl
  rw[e1]at h1;have e2:(12:UInt8).toNat=12:=rfl;rw[e2]at h1;have w2:IntKind.i64.wrap 2=2:=by decide
  have hn:aZ 1:=by unfold aZ;decide
  have hl:(1:Int)≤(r.length:Int)+1:=by omega
  simp[rp,sR,sS,t.b3,t.b4,h1,Za,w2,hn,hl];exact Wk.refl _ _ _ (aS _)
 ·cases r with
  | nil =>
    simp[t.b7,nd_];exact Wk.refl _ _ _ (by simp)
  | cons d r =>
    simp[t.b7,nd_];exact Wk.refl _ _ _ (by simp)
def YW(t:Tb T)(r:List UInt8):cw p_ 383 [.op 3 0,.str (0:: r),ff] T fun r hh=>r=Gy [239,191,189] 1 true∧hh=T:=by
 refine (Dh _ _ _).bR ?_;unfold zW;simp only[mR,qS];refine aG (α:=Bool) (fun _=>True) (fun b=>if b then [.str r,.str [],i_ 0,ff,i_ 0,.op 8 0,i_ 1] else [.str (0:: r),.str [],i_ 0,ff,i_ 0,.op 3 0,i_ 0]) (fun _=>T) (fun b=>if b then 0 else 1) false trivial (Wk.refl _ _ _ (by simp)) ?_;rintro (_|_) -
 ·have h1:=NC 0;have e1:eF.getD (0:UInt8).toNat 0=0:=by kernel_rfl
  rw[e1]at h1;have e2:(0:UInt8).toNat=0:=rfl;rw[e2]at h1;have w2:IntKind.i64.wrap 0=0:=by decide
  have hn:aZ 1:=by unfold aZ;decide
  have hl:(1:Int)≤(r.length:Int)+1:=by omega
  simp[rp,sR,sS,t.b3,t.b4,h1,tb,w2,hn,hl];exact Wk.refl _ _ _ (aS _)
 ·cases r with
  | nil =>
    simp[t.b8,nd_];exact Wk.refl _ _ _ (by simp)
  | cons d r =>
    simp[t.b8,nd_];exact Wk.refl _ _ _ (by simp)
def UA(t:Tb T)(r:List UInt8)(hr:r.head?≠some 10):cw p_ 383 [.op 3 0,.str (13:: r),ff] T fun r hh=>r=Gy [10] 1 true∧hh=T:=by
 refine (Dh _ _ _).bR ?_;unfold zW;simp only[mR,qS];refine aG (α:=Bool) (fun _=>True) (fun b=>if b then [.str r,.str [],i_ 0,ff,i_ 0,.op 5 0,i_ 1] else [.str (13:: r),.str [],i_ 0,ff,i_ 0,.op 3 0,i_ 0]) (fun _=>T) (fun b=>if b then 0 else 1) false trivial (Wk.refl _ _ _ (by simp)) ?_;rintro (_|_) -
 ·have h1:=NC 13;have e1:eF.getD (13:UInt8).toNat 0=3:=by kernel_rfl
  rw[e1]at h1;have e2:(13:UInt8).toNat=13:=rfl;rw[e2]at h1;have w2:IntKind.i64.wrap 3=3:=by decide
  have hn:aZ 1:=by unfold aZ;decide
  have hl:(1:Int)≤(r.length:Int)+1:=by omega
  simp[rp,sR,sS,t.b3,t.b4,h1,tb,w2,hn,hl];exact Wk.refl _ _ _ (aS _)
 ·cases r with
  | nil =>
    simp[t.b5,nd_];exact Wk.refl _ _ _ (by simp)
  | cons d r =>
    have hd:¬d=10:=by simpa using hr
    simp[t.b5,nd_];refine⟨by kernel_rfl,cw.mono ((qJ (d:: r) [10]).call (K:=fun v hh=>v=Aw.b_ (decide (([10]:List UInt8).length≤(d:: r).length)&&decide ((d:: r).take ([10]:List UInt8).length=[10]))∧hh=T) ⟨rfl,rfl⟩) ?_⟩;rintro v hh ⟨rfl,rfl⟩;simp[hd];exact Wk.refl _ _ _ (by simp)
def Pw(t:Tb T)(r:List UInt8):cw p_ 383 [.op 3 0,.str (13:: 10:: r),ff] T fun r hh=>r=Gy [10] 2 true∧hh=T:=by
 refine (Dh _ _ _).bR ?_;unfold zW;simp only[mR,qS];refine aG (α:=Nat) (fun n=>n≤2) (fun b=>if b=0 then [.str (13:: 10:: r),.str [],i_ 0,ff,i_ 0,.op 3 0,i_ 0] else if b=1 then [.str (10:: r),.str [],i_ 0,ff,i_ 0,.op 5 0,i_ 1] else [.str r,.str [10],i_ 1,tt,i_ 6,.op 6 0,i_ 2]) (fun _=>T) (fun b=>2-b) 0 (by decide) (Wk.refl _ _ _ (by simp)) ?_;intro n hn3;have hn:aZ 1:=by unfold aZ;decide
 have hn2:aZ 2:=by unfold aZ;decide
 match n,hn3 with
 | 0,_ =>
   have h1:=NC 13;have e1:eF.getD (13:UInt8).toNat 0=3:=by kernel_rfl
   rw[e1]at h1;have e2:(13:UInt8).toNat=13:=rfl;rw[e2]at h1;have w2:IntKind.i64.wrap 3=3:=by decide
   have hl:(1:Int)≤(r.length:Int)+1+1:=by omega
   have ht:((r.length:Int)+1+1).toNat=r.length+1+1:=by omega
   simp[rp,sR,sS,t.b3,t.b4,h1,tb,w2,hn,hl,ht];exact⟨by omega,1,by decide,Wk.refl _ _ _ (aS _),by decide⟩
 | 1,_ =>
   have hl:(1:Int)≤(r.length:Int)+1:=by omega
   simp[t.b5,nd_];refine⟨by kernel_rfl,cw.mono ((qJ (10:: r) [10]).call (K:=fun v hh=>v=Aw.b_ (decide (([10]:List UInt8).length≤(10:: r).length)&&decide ((10:: r).take ([10]:List UInt8).length=[10]))∧hh=T) ⟨rfl,rfl⟩) ?_⟩;rintro v hh ⟨rfl,rfl⟩;simp[t.b5,nd_,hn2,hl,maxLen];exact⟨2,by decide,Wk.refl _ _ _ (aS _),by decide⟩
 | 2,_ =>
   cases r with
   | nil =>
     simp[t.b6,nd_];exact Wk.refl _ _ _ (by simp)
   | cons d r =>
     simp[t.b6,nd_];exact Wk.refl _ _ _ (by simp)
end
section
set_option maxHeartbeats 4000000
open Go Go.RowKit
theorem Uf(b o:Nat)(w:World)(ad:Option Addr)(cap:Nat)(h0:w.cell? ⟨b,o,none⟩=some (.slice ad 0 cap))(hz:w.frozen? ⟨b,o,none⟩=false):
 Calls p_ 398 #[.pointer (some ⟨b,o,none⟩),.string ⟨#[]⟩] w fun e w' => e=.returned (.tuple #[.int .i64 0,.nilIface])∧w'=w.setCell ⟨b,o,none⟩ (.slice ad 0 cap):=by
 cases ad with
 | none =>
   go_enter Tryz.func398,Tryz.ntmps398
   go_wp2
   go_ret2
   exact⟨rfl,rfl⟩
 | some x =>
   go_enter Tryz.func398,Tryz.ntmps398
   go_wp2
   go_ret2
   exact⟨rfl,rfl⟩
end
section
open Go Go.Aw
def ue(c:UInt8):List UInt8:=if c=13∨c=12 then [10] else if c=0 then Rt.kz else [c]
def dN:List UInt8→List UInt8
 | []=>[]
 | [c]=>ue c
 | c:: d:: r=>if c=13∧d=10 then 10:: dN r else ue c++dN (d:: r)
def oV(h:¬(c=13∧r.head?=some 10)):dN (c:: r)=ue c++dN r:=by
 cases r with
 | nil=>simp[dN]
 | cons d r =>
   rw[dN,if_neg (by simpa using h)]
def IQ(r:List UInt8):dN (13:: 10:: r)=10:: dN r:=by rw[dN,if_pos ⟨rfl,rfl⟩]
def Dt(c:UInt8):(ue c).length≤3:=by
 unfold ue;split
 ·simp
 ·split<;>simp[Rt.kz]
theorem qH:∀n (l:List UInt8),l.length≤n→(dN l).length≤3*l.length
 | 0,l,h=>by have:=List.length_eq_zero_iff.1 (Nat.le_zero.1 h);subst this;simp[dN]
 | n+1,l,h=>by
   match l,h with
   | [],_=>simp[dN]
   | [c],_=>have:=Dt c;simp only[dN,aab,aaN];omega
   | c:: d:: r,h =>
     rw[dN];simp only[aab]at h ⊢;split
     ·have:=qH n r (by omega);simp only[aab];omega
     ·have:=qH n (d:: r) (by simp;omega);have:=Dt c;simp only[BY,aab]at *;omega
variable [bB]
def Wr(T:aa)(w:List UInt8):Prop:=Tb T∧11≤T.length∧∃b cells,T[10]?=some (.ak ⟨424,[.own b 0 w.length 1],true⟩)∧b≠10∧9≤b∧T[b]?=some (.ak ⟨5,cells,true⟩)∧cells.take w.length=w.map bS∧w.length≤cells.length
omit [bB] in
def Zc[Laid](hx:T[10]?=some (.ak ⟨424,[.own b 0 0 1],true⟩)):cw p_ 398 [.op 10 0,.str []] T fun r hh=>r=.aw [i_ 0,.v .nilIface]∧hh=T:=by
 intro base ι S w vs h1 h2
 match vs,h1 with
 | [],h1=>simp at h1
 | [v],h1=>simp at h1
 | v:: u:: x:: vs,h1=>simp at h1
 | [v,u],h1 =>
   simp only[bL,di,and_true,dG]at h1;obtain⟨r1,rfl,_⟩:=h1;rw[ax]at r1;obtain⟨bb,hb,rfl⟩:=r1;obtain⟨v0,g0,q0,z0⟩:=cell_of h2 hx hb (o:=0) (c:=.own b 0 0 1) rfl;obtain⟨cap,ad,e0⟩:∃cap ad,v0=.slice ad 0 cap:=by
    have q1:=q0;rw[ax]at q1;obtain⟨_,a',cap',_,_,_,evx,_⟩:=q1;exact⟨cap',a',evx⟩
   subst e0;obtain⟨hE1,hH1⟩:=h2.set hx rfl hb (o:=0) (by simp) (c:=.own b 0 0 1) (v:=.slice ad 0 cap) q0;have hs:T.set 10 (.ak ⟨424,[AV.own b 0 0 1].set 0 (.own b 0 0 1),true⟩)=T:=jV hx;refine (Uf bb 0 w ad cap g0 z0).mono ?_;rintro e w' ⟨rfl,rfl⟩;refine⟨_,ι,S,.aw [i_ 0,.v .nilIface],T,rfl,hE1.mono ?_ (aS _), ?_, ?_,aS _,rfl,rfl⟩
   ·rw[h2.len];exact aS _
   ·rw[ax];exact⟨[.int .i64 0,.nilIface],rfl,by simp⟩
   ·rw[←hs];exact hH1
def Ue(wr:Wr T w)(m:List UInt8)(hm:0<w.length+m.length)(hl:w.length+m.length≤2^30):cw p_ 398 [.op 10 0,.str m] T fun r hh=>r=.aw [i_ m.length,.v .nilIface]∧Wr hh (w++m)∧T.length≤hh.length:=by
 obtain⟨tb,hT,b,cells,h10,hb10,hb9,hb,hc,hcl⟩:=wr;have hbl:=(dO.1 hb).1;refine (YB _ _).bR ?_;unfold R4;simp only[mR,tA,h10,ky,List.drop_zero,Pl,Bk,Mb,hb];refine⟨?_,⟨by simp;omega,by simpa using hm, ?_, ?_⟩⟩
 ·rw[List.all_map];exact AT.2 fun x _=>by simp[da,bw,bS]
 ·unfold gM maxLen;simp;omega
 have h10':(T.set b .dead++[aY.ak ⟨5,cells.take (w.length*1)++(m.map fun b=>[bS b]).flatten,true⟩])[10]?=some (.ak ⟨424,[.own b 0 w.length 1],true⟩):=by
  rw[gE (by simp;omega),iN hb10];exact h10
 have fm:∀l:List UInt8,(l.map fun b=>[bS b]).flatten=l.map bS:=pU;simp only[x5,aac];rw[h10'];refine⟨⟨rfl,by simp,by simp,by simp[bw]⟩, ?_⟩;simp only[Ao];intro hmx;refine⟨_,_,Wk.refl _ _ _ (by simp),rfl, ?_,by simp⟩;refine⟨⟨by simp;omega,fun i hi=>?_⟩,by simp;omega,T.length,w.map bS++m.map bS, ?_,by omega,by omega, ?_, ?_,by simp⟩
 ·rw[iN (by omega),gE (by simp;omega),iN (by omega)];exact tb.2 i hi
 ·rw[iF (by simp;omega)];simp[bU]
 ·rw[iN (by omega),iD (by simp),fm];simp[hc]
 ·rw[Of (by simp)];simp
end
section
open Go Go.Aw
variable [bB]
omit [bB] in
def Py(n:Nat)(h:n<256):(eF.getD n 0=4∨eF.getD n 0=1)∧n≠0∧n≠12∧n≠13∨(n=0∨n=12∨n=13):=by
 by_cases h0:n=0
 ·exact .inr (.inl h0)
 ·by_cases h1:n=12
  ·exact .inr (.inr (.inl h1))
  ·by_cases h2:n=13
   ·exact .inr (.inr (.inr h2))
   ·exact .inl ⟨S4 n h h0 h1 h2,h0,h1,h2⟩
def Mm{T:aa}(t:Tb T){s:List UInt8}{i:Nat}(hi:i<s.length)(hc:s[i].toNat=0∨s[i].toNat=12∨s[i].toNat=13):∃(v:List UInt8) (kl:Nat),v≠[]∧0<kl∧i+kl≤s.length∧v.length≤3∧dN (s.drop i)=v++dN (s.drop (i+kl))∧cw p_ 383 [.op 3 0,.str (s.drop i),ff] T fun r hh=>r=Gy v kl true∧hh=T:=by
 have hd:s.drop i=s[i]:: s.drop (i+1):=aaK hi;have hl:(s.drop (i+1)).length=s.length-(i+1):=by simp
 rcases hc with hc|hc|hc
 ·have e:s[i]=0:=UInt8.toNat_inj.1 hc;rw[e]at hd;refine⟨[239,191,189],1,by simp,by decide,hi,by simp, ?_,by rw[hd];exact YW t _⟩;rw[hd,oV (by simp)];rfl
 ·have e:s[i]=12:=UInt8.toNat_inj.1 hc;rw[e]at hd;refine⟨[10],1,by simp,by decide,hi,by simp, ?_,by rw[hd];exact Uz t _⟩;rw[hd,oV (by simp)];rfl
 ·have e:s[i]=13:=UInt8.toNat_inj.1 hc;rw[e]at hd
  by_cases q:(s.drop (i+1)).head?=some 10
  ·obtain⟨r,hr⟩:∃r,s.drop (i+1)=10:: r:=by
    cases z:s.drop (i+1) with
    | nil=>rw[z]at q;simp at q
    | cons a b=>rw[z]at q;simp at q;exact⟨b,by rw[q]⟩
   have hr2:s.drop (i+2)=r:=by
    have:s.drop (i+1+1)=(s.drop (i+1)).drop 1:=by rw[List.drop_drop]
    rw[show i+2=i+1+1 from rfl,this,hr];rfl
   have hlen:0<(s.drop (i+1)).length:=by rw[hr];simp
   refine⟨[10],2,by simp,by decide,by omega,by simp, ?_,by rw[hd,hr];exact Pw t _⟩;rw[hd,hr,IQ,hr2];rfl
  ·refine⟨[10],1,by simp,by decide,hi,by simp, ?_,by rw[hd];exact UA t _ q⟩;rw[hd,oV (by simpa using q)];rfl
omit [bB] in
def Hl(h0:c.toNat≠0)(h1:c.toNat≠12)(h2:c.toNat≠13):ue c=[c]:=by
 unfold ue;rw[if_neg (by rintro (e|e)<;>rw[e]at h1 h2<;>simp at h1 h2),if_neg (by intro e;rw[e]at h0;simp at h0)]
def wz(wr:Wr T w)(m:List UInt8)(hl:w.length+m.length≤2^30):cw p_ 398 [.op 10 0,.str m] T fun r hh=>r=.aw [i_ m.length,.v .nilIface]∧Wr hh (w++m)∧T.length≤hh.length:=by
 by_cases h:0<w.length+m.length
 ·exact Ue wr m h hl
 ·have h1:w=[]:=List.length_eq_zero_iff.1 (by omega);have h2:m=[]:=List.length_eq_zero_iff.1 (by omega);subst h1;subst h2;obtain⟨tb,hT,b,cells,h10,r⟩:=wr;refine (Zc h10).mono ?_;rintro v hh ⟨rfl,rfl⟩;exact⟨rfl,⟨tb,hT,b,cells,h10,r⟩,aS _⟩
def Uj(s:List UInt8)(hl:s.length≤4000)(w0:Wr T0 []):cw p_ 381 [.op 3 0,.fJ 425 (.op 10 0),.str s] T0 fun r hh=>Wr hh (dN s)∧T0.length≤hh.length:=by
 refine (Yy _ _ _).bR ?_;unfold R2;have ms:od p_ "WriteString" 425=some 398:=PB;refine⟨by kernel_rfl,(YC T0).mono ?_⟩;rintro r hh ⟨rfl,rfl⟩;have hcl:=qH s.length s (aS _);refine aG (α:=Nat×Nat×List UInt8×aa) (fun p=>p.1≤s.length+1∧p.2.1≤s.length∧p.2.1≤p.1∧Wr p.2.2.2 p.2.2.1∧hh.length≤p.2.2.2.length∧(p.2.2.1=[]→p.2.1=0)∧p.2.2.1++(s.take p.1).drop p.2.1++dN (s.drop p.1)=dN s) (fun p=>[i_ p.2.2.1.length,.v .nilIface,i_ p.2.1,ff,i_ p.1]) (fun p=>p.2.2.2) (fun p=>s.length+1-p.1) (0,0,[],hh) ⟨by simp,by simp,by simp,w0,aS _,fun _=>rfl,by simp⟩ (Wk.refl _ _ _ (by simp)) ?_;rintro⟨k,last,w,T⟩ ⟨hk,hla,hlk,wr,hT,hw0,he⟩;dsimp only at hk hla hlk wr hT hw0 he ⊢;have t:=wr.1;have g3:=t.b3;have g4:=t.b4;have hwl:w.length≤12000:=by
  have:=congrArg List.length he;simp only[BY]at this;omega
 have hk3:k<s.length∨k=s.length∨k=s.length+1:=by omega
 rcases hk3 with hk1|rfl|rfl
 ·have hne:k≠s.length:=by omega
  have hle:k≤s.length:=by omega
  have hni:¬(k:Int)=(s.length:Int):=by omega
  have hlt:s[k].toNat<256:=s[k].toNat_lt;have hr:=Tt _ hlt;have hlti:(s[k].toNat:Int)<256:=by omega
  have w4:IntKind.i64.wrap 4=4:=by decide
  have w1:IntKind.i64.wrap 1=1:=by decide
  have hin:aZ ((k:Int)+1):=by unfold aZ;omega
  rcases Py _ hlt with⟨hm,o1,o2,o3⟩|hc
  ·have hnx:(s.take (k+1)).drop last=(s.take k).drop last++[s[k]]:=by
    rw[List.take_succ_eq_append_getElem hk1,List.drop_append_of_le_length (by simp;omega)]
   have hcl2:dN (s.drop k)=s[k]:: dN (s.drop (k+1)):=by
    rw[aaK hk1,oV (by intro z;rw[z.1]at o3;exact o3 rfl),Hl o1 o2 o3];rfl
   have fin:∃y:Nat×Nat×List UInt8×aa,(y.1≤s.length+1∧y.2.1≤s.length∧y.2.1≤y.1∧Wr y.2.2.2 y.2.2.1∧hh.length≤y.2.2.2.length∧(y.2.2.1=[]→y.2.1=0)∧y.2.2.1++(s.take y.1).drop y.2.1++dN (s.drop y.1)=dN s)∧Wk (List.length hh) [i_ w.length,AV.v Value.nilIface,i_ last,ff,AV.v (Value.int IntKind.i64 (↑k+1))] T [i_ y.2.2.1.length,AV.v Value.nilIface,i_ y.2.1,ff,i_ y.1] y.2.2.2∧s.length+1-y.1<s.length+1-k:=
    ⟨(k+1,last,w,T),⟨by dsimp only;omega,hla,by dsimp only;omega,wr,hT,hw0,by dsimp only;rw[hnx,←he,hcl2];simp⟩,by simpa using Wk.refl _ _ _ hT,by dsimp only;omega⟩
   rcases hm with hm|hm
   ·rw[hm]at hr;simp[hne,hni,hle,hk1,g3,g4,rp,sR,sS,hr,hlti,w4];obtain⟨⟨ya,yb,yc,yd⟩,f1,f2,f3⟩:=fin;exact fun _=>⟨hin,ya,yb,yc,yd,by simpa using f1,f2,f3⟩
   ·rw[hm]at hr;simp[hne,hni,hle,hk1,g3,g4,rp,sR,sS,hr,hlti,w1,Zb];obtain⟨⟨ya,yb,yc,yd⟩,f1,f2,f3⟩:=fin;exact fun _=>⟨hin,ya,yb,yc,yd,by simpa using f1,f2,f3⟩
  ·obtain⟨v,kl,hv,hk0,hkl,hvl,hce,A⟩:=Mm t hk1 hc;have hb:cJ p_ 383=true:=by kernel_rfl
   have w0:IntKind.i64.wrap 0=0:=by decide
   have w2:IntKind.i64.wrap 2=2:=by decide
   have w3:IntKind.i64.wrap 3=3:=by decide
   have hkl0:¬(kl:Int)=0:=by omega
   have hkl1:kl≠0:=by omega
   have hml:((s.take k).drop last).length≤4000:=by simp;omega
   have fin2:∀T2:aa,Wr T2 (w++(s.take k).drop last++v)→hh.length≤T2.length→∃y:Nat×Nat×List UInt8×aa,(y.1≤s.length+1∧y.2.1≤s.length∧y.2.1≤y.1∧Wr y.2.2.2 y.2.2.1∧hh.length≤y.2.2.2.length∧(y.2.2.1=[]→y.2.1=0)∧y.2.2.1++(s.take y.1).drop y.2.1++dN (s.drop y.1)=dN s)∧Wk (List.length hh) [i_ ((w.length:Int)+((s.take k).drop last).length+v.length),AV.v Value.nilIface,i_ ((k:Int)+kl),ff,i_ ((k:Int)+kl)] T2 [i_ y.2.2.1.length,AV.v Value.nilIface,i_ y.2.1,ff,i_ y.1] y.2.2.2∧s.length+1-y.1<s.length+1-k:=by
    intro T2 w2 h2;refine⟨(k+kl,k+kl,w++(s.take k).drop last++v,T2),⟨by dsimp only;omega,by dsimp only;omega,aS _,w2,h2,fun z=>?_, ?_⟩, ?_,by dsimp only;omega⟩
    ·exact absurd (List.append_eq_nil_iff.1 z).2 hv
    ·dsimp only;have z:(s.take (k+kl)).drop (k+kl)=[]:=List.drop_eq_nil_of_le (by simp;omega);rw[z,←he,hce];simp
    ·have e:[i_ ((w.length:Int)+((s.take k).drop last).length+v.length),AV.v Value.nilIface,i_ ((k:Int)+kl),ff,i_ ((k:Int)+kl)]=[i_ (((w++(s.take k).drop last++v).length:Nat):Int),AV.v Value.nilIface,i_ ((k+kl:Nat):Int),ff,i_ ((k+kl:Nat):Int)]:=by
      rw[BY,BY];simp only[Int.natCast_add]
     rw[e];exact Wk.refl _ _ _ h2
   have i1:aZ ((w.length:Int)+((s.take k).drop last).length):=by unfold aZ;omega
   have i2:aZ ((w.length:Int)+((s.take k).drop last).length+v.length):=by unfold aZ;omega
   have i3:aZ ((k:Int)+kl):=by unfold aZ;omega
   obtain⟨m,hm⟩:∃m,(s.take k).drop last=m:=⟨_,rfl⟩;rw[hm]at hml fin2 i1 i2;have W1:=wz wr m (by omega);rcases hc with hc|hc|hc
   ·have hm0:eF.getD s[k].toNat 0=0:=by rw[hc];kernel_rfl
    rw[hm0]at hr;simp[hne,hni,hle,hk1,g3,g4,rp,sR,sS,hr,hlti,w0,tb];refine fun _=>⟨hb,A.mono ?_⟩;rintro r h' ⟨rfl,rfl⟩;simp[hkl1,hlk,ms,hm];refine W1.mono ?_;rintro r T1 ⟨rfl,wr1,hT1⟩;simp[i1];refine (wz wr1 v (by simp;omega)).mono ?_;rintro r T2 ⟨rfl,wr2,hT2⟩;simp[i2,i3];obtain⟨⟨ya,yb,yc,yd⟩,f1,f2,f3⟩:=fin2 T2 wr2 (by omega);exact⟨ya,yb,yc,yd,by simpa using f1,f2,f3⟩
   ·have hm0:eF.getD s[k].toNat 0=2:=by rw[hc];kernel_rfl
    rw[hm0]at hr;simp[hne,hni,hle,hk1,g3,g4,rp,sR,sS,hr,hlti,w2,tb];refine fun _=>⟨hb,A.mono ?_⟩;rintro r h' ⟨rfl,rfl⟩;simp[hkl1,hlk,ms,hm];refine W1.mono ?_;rintro r T1 ⟨rfl,wr1,hT1⟩;simp[i1];refine (wz wr1 v (by simp;omega)).mono ?_;rintro r T2 ⟨rfl,wr2,hT2⟩;simp[i2,i3];obtain⟨⟨ya,yb,yc,yd⟩,f1,f2,f3⟩:=fin2 T2 wr2 (by omega);exact⟨ya,yb,yc,yd,by simpa using f1,f2,f3⟩
   ·have hm0:eF.getD s[k].toNat 0=3:=by rw[hc];kernel_rfl
    rw[hm0]at hr;simp[hne,hni,hle,hk1,g3,g4,rp,sR,sS,hr,hlti,w3,tb];refine fun _=>⟨hb,A.mono ?_⟩;rintro r h' ⟨rfl,rfl⟩;simp[hkl1,hlk,ms,hm];refine W1.mono ?_;rintro r T1 ⟨rfl,wr1,hT1⟩;simp[i1];refine (wz wr1 v (by simp;omega)).mono ?_;rintro r T2 ⟨rfl,wr2,hT2⟩;simp[i2,i3];obtain⟨⟨ya,yb,yc,yd⟩,f1,f2,f3⟩:=fin2 T2 wr2 (by omega);exact⟨ya,yb,yc,yd,by simpa using f1,f2,f3⟩
 ·have hin:aZ ((s.length:Int)+1):=by unfold aZ;omega
  have hb:cJ p_ 383=true:=by kernel_rfl
  simp[g3,g4,rp,sR,sS];intro _;refine⟨hb,(SY t).mono ?_⟩;rintro r h' ⟨rfl,rfl⟩;simp[hin];refine⟨s.length+1,last,w,h',⟨by omega,hla,by omega,wr,hT,hw0, ?_⟩,Wk.refl _ _ _ hT,by omega⟩;have hd:s.drop (s.length+1)=[]:=List.drop_of_length_le (by omega);have ht:s.take (s.length+1)=s:=Of (by omega);rw[hd,ht];rw[Gt,List.drop_length]at he;simpa using he
 ·have hgt:¬((s.length:Int)+1≤(s.length:Int)):=by omega
  have hd:s.drop (s.length+1)=[]:=List.drop_of_length_le (by omega);have ht:s.take (s.length+1)=s:=Of (by omega);rw[hd,ht]at he;refine zzZ fun _=>?_;refine zzD (zzK (oF (by omega)) ?_);refine zzZ fun _=>?_;refine zzH ?_
  by_cases hs:last=s.length
  ·refine zzK (by simp[hs]) ?_;refine⟨_,_,Wk.refl _ _ _ hT, ?_,hT⟩;rw[←he,hs,List.drop_length];simpa[dN]using wr
  ·refine zzL (by simp;omega) (oO (a:=last) (b:=s.length) (r:=s.drop last) rfl rfl rfl (by omega) (aS _) (by rw[Gt]) ?_);simp only[Pq,ms,Jo,Option.isSome_some,true_and];refine (wz wr (s.drop last) (by simp;omega)).mono ?_;rintro r T2 ⟨rfl,wr2,hT2⟩;refine br rfl rfl (br rfl rfl (zzP (by unfold aZ;simp;omega) ?_));refine⟨_,_,Wk.refl _ _ _ (by omega), ?_,by omega⟩;rw[←he];simpa[dN]using wr2
end
section
open Go Go.Aw
variable [bB]
def Ui(s:List UInt8)(hl:s.length≤4000):cw p_ 380 [.op 3 0,.str s] (Ha 1 0) fun r hh=>r=.str (dN s)∧9≤hh.length:=by
 refine (Yx _ _).bR ?_;unfold R1;have hb:cJ p_ 381=true:=by kernel_rfl
 have hH:∀x y:aY,Ha 1 0++[x]++[y]=G x y:=fun x y=>rfl;have hL:(Ha 1 0).length=9:=rfl;have hL1:∀x:aY,(Ha 1 0++[x]).length=10:=fun _=>rfl;have hi:∀x y:aY,(Ha 1 0++[x]++[y])[10]?=some y:=fun _ _=>rfl;have hs:∀x y z:aY,(Ha 1 0++[x]++[y]).set 10 z=G x z:=fun _ _ _=>rfl;simp only[Ao,wR,SB,bl,x5,SA,hL,hL1,hi,hs,bU,List.set,NO,Int.toNat_zero];have w0:Wr (G (.ak ⟨5,eZ s.length [u8 0],true⟩) (.ak ⟨424,[.own 9 0 0 1],true⟩)) []:=by
  refine⟨⟨by rw[Ni];decide,fun i hi=>?_⟩,by rw[Ni];decide,9,_,rfl,by decide,by decide,rfl,rfl,aao _⟩;rcases (by omega:i=0∨i=1∨i=2∨i=3∨i=4∨i=5∨i=6∨i=7∨i=8) with rfl|rfl|rfl|rfl|rfl|rfl|rfl|rfl|rfl<;>rfl
 refine fun _=>⟨⟨by omega,by omega,by omega,by omega⟩,by simp[bw],⟨by simp[bw],hb,(Uj s hl w0).mono ?_⟩⟩;rintro r h' ⟨wr,hh⟩;obtain⟨tb,hT,b,cells,h10,hb10,hb9,hbk,hc,hcl⟩:=wr;have hf:=gU 1 (dN s).length cells (by omega);simp only[tA,h10,ky,List.drop_zero,dk,EN,hbk,Nat.mul_one,aaq,hcl,and_self,if_true,Option.bind_some,hf.1,true_and];rw[hc,py];exact⟨_,_,Wk.refl _ _ _ (by omega),rfl,by omega⟩
def YD(s:List UInt8)(hl:s.length≤4000):cw p_ 83 [.op 2 0,.str s] (Hb 0) fun r hh=>r=.str (dN s):=by
 refine (V83 _ _).bR ?_;unfold Ws;simp only[mR,qS];refine⟨by kernel_rfl,La.mono ?_⟩;rintro r hh ⟨rfl,rfl⟩;have h2:(Ha 1 0)[2]?=some (.ak (sw 1 0 (.fJ 280 (.op 3 0)) (.v (.slice none 0 0)))):=rfl;simp only[tA,h2,sw,aaq,List.drop_succ_cons,List.drop_zero,ky,Jo,PA];refine (Ui s hl).mono ?_;rintro r hh ⟨rfl,hq⟩;exact⟨_,_,Wk.refl _ _ _ (aat (by decide) hq),rfl⟩
def Hu(s:List UInt8)(hl:s.length≤4000):aV p_ 62 [.str s] (.aw [.str (dN s),i_ 0]):=by
 refine (Vg _).aQ (by simp) (by simp) ?_;unfold R5;have hn:¬(4000:Int)<(s.length:Int):=by omega
 simp[hn];refine fun _=>⟨by kernel_rfl,N4.mono ?_⟩;rintro r hh ⟨rfl,rfl⟩;refine⟨by kernel_rfl,(YD s hl).mono ?_⟩;rintro r hh rfl;exact .pure (by simp) rfl
end
section
open Go Go.Aw Go.RowKit
theorem xh(m:UInt8)(s:ao):∀n j,s.length-j≤n→j≤s.length→j≤(Rt.iK m s j).2∧(Rt.iK m s j).2≤s.length
 | 0,j,hn,hj=>by rw[Rt.iK,dif_neg (by omega)];exact⟨aS _,hj⟩
 | n+1,j,hn,hj=>by
   by_cases h:j<s.length
   ·rw[Rt.iK,dif_pos h];split
    ·dsimp only;omega
    ·split
     ·dsimp only;omega
     ·split
      ·split
       ·dsimp only;omega
       ·split
        ·have:=xh m s n (j+2) (by omega) (by omega);omega
        ·show j≤(Rt.iK m s (Rt.cP s j).2).2∧_≤_;have h1:=Rt.fw s j;have h2:=ko h;have:=xh m s n (Rt.cP s j).2 (by omega) h2;exact⟨by omega,this.2⟩
      ·show j≤(Rt.iK m s (j+1)).2∧_≤_;have:=xh m s n (j+1) (by omega) h;exact⟨by omega,this.2⟩
   ·rw[Rt.iK,dif_neg h];exact⟨aS _,hj⟩
theorem wG(s:ao):∀n i,s.length-i≤n→i≤s.length→i≤Rt.lJ s i
 | 0,i,hn,hi=>by rw[Rt.lJ,dif_neg (by omega)];omega
 | n+1,i,hn,hi=>by
   rw[Rt.lJ];split
   ·rename_i h;split
    ·omega
    ·split
     ·have:=Rt.fw s i;have:=wG s n _ (by omega) (ko h);omega
     ·have:=wG s n (i+1) (by omega) h;omega
   ·omega
theorem Br(s:ao):∀n j,s.length-j≤n→j≤s.length→j≤(Rt.gQ s j).2∧(Rt.gQ s j).2≤s.length
 | 0,j,hn,hj=>by rw[Rt.gQ,dif_neg (by omega)];dsimp only;omega
 | n+1,j,hn,hj=>by
   by_cases h:j<s.length
   ·have hsp:=qq hj;rw[Rt.gQ,dif_pos h];split
    ·dsimp only;omega
    ·split
     ·split
      ·have:=uc s s.length (Rt.dU s j) (by omega) hsp.2;have:=wG s s.length (Rt.dU s j) (by omega) hsp.2;dsimp only;omega
      ·dsimp only;omega
     ·split
      ·have:=uc s s.length j (by omega) hj;have:=wG s s.length j (by omega) hj;dsimp only;omega
      ·split
       ·show j≤(Rt.gQ s (Rt.cP s j).2).2∧_≤_;have h1:=Rt.fw s j;have h2:=ko h;have:=Br s n (Rt.cP s j).2 (by omega) h2;exact⟨by omega,this.2⟩
       ·show j≤(Rt.gQ s (j+1)).2∧_≤_;have:=Br s n (j+1) (by omega) h;exact⟨by omega,this.2⟩
   ·rw[Rt.gQ,dif_neg h];dsimp only;omega
def P0(h:Rt.je (Rt.aJ s i)=true):i<Rt.dU s i:=by
 have he:=Bi (p:=tM) (by decide) s i;rw[GS,zr]at he;rcases AS i (Rt.dU s i) with q|q
 ·exact q
 ·have:Rt.dU s i=i:=by unfold Rt.dU at q ⊢;omega
  rw[this,h]at he;cases he
def PE(hi:i<s.length)(h:Rt.jz s i=true):i<(Rt.cW s i).2:=by
 have hat:=ib hi;rw[Rt.cW,dif_pos hi];split
 ·have:=(oe s s.length (i+1) (by omega) hi).1;dsimp only;omega
 ·rename_i q;have e:Rt.dP s i=true:=by
   have q:Rt.fN s[i]=false:=by simpa using q
   unfold Rt.fN at q;simp only[aaS,decide_eq_false_iff_not]at q;unfold Rt.jz at h;rw[hat]at h;rw[if_neg q.2,q.1.1]at h;simpa using h
  rw[if_pos e];have h1:=Rt.fw s i;have:=(oe s s.length (Rt.cP s i).2 (by omega) (ko hi)).1;dsimp only;omega
def Qd(hi:i<s.length)(h:Rt.jz s i=true):i<(pL s i).2∧(pL s i).2≤s.length:=by
 have h1:=PE hi h;have h2:=(oe s s.length i (by omega) (by omega)).2;unfold pL;dsimp only;split
 ·exact⟨h1,h2⟩
 ·rename_i q;have q':Rt.aJ s (Rt.cW s i).2=40:=by
   by_cases q2:Rt.aJ s (Rt.cW s i).2=40
   ·exact q2
   ·exact absurd q2 q
  have h3:(Rt.cW s i).2<s.length:=at_lt (by rw[q'];decide);split
  ·have h4:=qq (s:=s) (i:=(Rt.cW s i).2+1) h3;have:=Br s s.length (Rt.dU s ((Rt.cW s i).2+1)) (by omega) h4.2;dsimp only;omega
  ·dsimp only;omega
def PF(hi:i<s.length)(h:Rt.lN s i=true):i<(ku s i).2∧(ku s i).2≤s.length:=by
 have h0:=(zm hi h).1;have h4:=(A9 (s:=s) (i:=i) (by omega)).2;unfold ku;dsimp only;split
 ·have:=oe s s.length (Rt.gL s i).1 (by omega) h4;dsimp only;omega
 ·split
  ·rename_i q;have:(Rt.gL s i).1<s.length:=at_lt (by rw[q];decide);dsimp only;omega
  ·dsimp only;omega
def xd(hi:i<s.length):i<(jA s i).2∧(jA s i).2≤s.length:=by
 unfold jA;dsimp only;split
 ·rename_i q;exact⟨P0 q,(qq (by omega)).2⟩
 ·split
  ·have:=xh (Rt.aJ s i) s s.length (i+1) (by omega) hi;dsimp only;omega
  ·split
   ·have:=oe s s.length (i+1) (by omega) hi;dsimp only;omega
   ·split
    ·rename_i q;exact PF hi q
    ·split
     ·rename_i q;have:=qQ (x:=[45,45,62]) q (by decide);simp at this;dsimp only;omega
     ·split
      ·rename_i q;have:=qQ (x:=[60,33,45,45]) q (by decide);simp at this;dsimp only;omega
      ·split
       ·have:=oe s s.length (i+1) (by omega) hi;dsimp only;omega
       ·split
        ·rename_i q;exact Qd hi q
        ·split<;>(dsimp only;omega)
def lK(s:ao)(i:Nat):List Tok:=
 if h:i<s.length then (jA s i).1:: lK s (Rt.fI s (jA s i).2) else []
termination_by s.length-i
decreasing_by
 have h1:=xd h;have:=tG s s.length (jA s i).2 (by omega) h1.2;omega
def iu(s:ao):List Tok×Int:=if 4000<s.length then ([],28) else if 1500<(lK (dN s) (Rt.fI (dN s) 0)).length then ([],4) else (lK (dN s) (Rt.fI (dN s) 0),0)
def xy(l:List Tok):AV:=if l=[] then .v (.slice none 0 0) else .sl 5 (cM l)
section
variable [Laid]
def rH(cap:Nat)(H:aa)(done:List Tok):Prop:=
 (done=[]∧H[cap]?=some (.ak ⟨58,[.v (.slice none 0 0)],true⟩))∨∃tid,done≠[]∧H[cap]?=some (.ak ⟨58,[.sb tid 5 (cM done)],true⟩)∧H[tid]?=some (aY.tok 83 5 done.length)
omit [Laid] in
def rH.other{cap:Nat}{done:List Tok}(c:rH cap H done)(hc:H'[cap]?=H[cap]?)(ho:∀(tid n:Nat),H[tid]?=some (aY.tok 83 5 n)→H'[tid]?=some (aY.tok 83 5 n)):rH cap H' done:=by
 rcases c with⟨h1,h2⟩|⟨tid,hd,h1,h2⟩
 ·exact .inl ⟨h1,by rw[hc];exact h2⟩
 ·exact .inr ⟨tid,hd,by rw[hc];exact h1,ho _ _ h2⟩
omit [Laid] in
def rH.app{cap:Nat}{done:List Tok}(c:rH cap H done)(j:aa):rH cap (H++j) done:=by
 have hl:∀{i:Nat} {x:aY},H[i]?=some x→(H++j)[i]?=some x:=fun h=>by
  rw[gE (dO.1 h).1];exact h
 rcases c with⟨h1,h2⟩|⟨tid,hd,h1,h2⟩
 ·exact .inl ⟨h1,hl h2⟩
 ·exact .inr ⟨tid,hd,hl h1,hl h2⟩
omit [Laid] in
def rH.mv{cap id b:Nat}{done:List Tok}(c:rH cap H done)(sc:Sc id H s a)(hne:cap≠id)(m:Mv id s b H H'):rH cap H' done:=by
 have hl:cap<H.length:=by rcases c with⟨_,h2⟩|⟨_,_,h2,_⟩<;>exact (dO.1 h2).1
 refine c.other (m.other hl hne) fun tid n ht=>?_;rw[m.other (dO.1 ht).1 (fun q=>by subst q;unfold Sc at sc;rw[ht]at sc;cases sc)];exact ht
omit [Laid] in
def FD{x:Tok}{K:AV→Prop}(q:K (.sl 5 [x.row])):bz 1 5 (.agg [(u8 0),(.str []),(i_ 0),(.str []),ff]) [(0,5,x.av)] K:=by
 have e:dD (eZ 1 (bl (.agg [(u8 0),(.str []),(i_ 0),(.str []),ff]))) [(0,5,x.av)]=some x.row:=by simp[dD,eZ,bl,bU,bw]
 unfold bz;rw[e];exact q
def SP{cap id:Nat}{H:aa}{s:ao}{a:Nat}{done:List Tok}{t:Tok}{y z:AV}{K:AV→aa→Prop}(c:rH cap H done)(sc:Sc id H s a)(hne:cap≠id)(hn:done.length≤2^20)
 (k:∀H',rH cap H' (done++[t])→Sc id H' s a→H.length≤H'.length→K (.aw []) H'):bA p_ (.fn (.func 44) [] [.op cap 0]) [t.av,y,z] H K:=by
 have hb:cJ p_ 44=true:=by kernel_rfl
 refine⟨hb, ?_⟩;show cw _ _ ([]++[t.av,y,z]++[.op cap 0]) _ _;have hl:cap<H.length:=by rcases c with⟨_,h2⟩|⟨_,_,h2,_⟩<;>exact (dO.1 h2).1
 refine cw.mono (K:=fun v H' => v=.aw []∧rH cap H' (done++[t])∧Sc id H' s a∧H.length≤H'.length) ?_ (by rintro _ H' ⟨rfl,h1,h2,h3⟩;exact k H' h1 h2 h3);refine (Z8 t.av y z (.op cap 0)).bR ?_;unfold VM;refine bq (cs:=t.row) (n:=H.length) (h':=H++[.ak ⟨83,t.row,true⟩]) rfl (by simp[bw]) rfl rfl ?_;have hV:(H++[aY.ak ⟨83,t.row,true⟩])[H.length]?=some (.ak ⟨83,t.row,true⟩):=by simp
 have scA:=sc.app [aY.ak ⟨83,t.row,true⟩];rcases c.app [aY.ak ⟨83,t.row,true⟩] with⟨rfl,h2⟩|⟨tid,hdn,h1,h2⟩
 ·refine zzU h2 rfl (zzV hV (by simp) (FD ?_));have ap:∀{KH:AV→aa→Prop},KH (.sb (H++[aY.ak ⟨83,t.row,true⟩]).length 5 [t.row]) (H++[aY.ak ⟨83,t.row,true⟩]++[aY.tok 83 5 1])→bN false 83 5 56 (.v (.slice none 0 0)) (.sl 5 [t.row]) (H++[aY.ak ⟨83,t.row,true⟩]) KH:=by
   intro KH q;unfold bN ep;rw[fT];exact⟨ot [t],⟨by simp[maxLen],by simp⟩,q⟩
  refine ap ?_;have hlt:cap<(H++[aY.ak ⟨83,t.row,true⟩]++[aY.tok 83 5 1]).length:=by simp;omega
  refine aM (cs:=[.sb (H++[aY.ak ⟨83,t.row,true⟩]).length 5 [t.row]]) (h':=(H++[aY.ak ⟨83,t.row,true⟩]++[aY.tok 83 5 1]).set cap (.ak ⟨58,[.sb (H++[aY.ak ⟨83,t.row,true⟩]).length 5 [t.row]],true⟩)) rfl (by rw[gE (by simp;omega)];exact h2) rfl rfl (by simp) rfl rfl rfl ?_;refine⟨_,_,Wk.refl _ _ _ (by simp),rfl,.inr ⟨_,by simp,iF hlt, ?_⟩, ?_,by simp⟩
  ·rw[iN (by simp;omega),iD (aS _)];simp
  ·unfold Sc;rw[iN hne];exact scA.app _
 ·refine zzU h1 rfl (zzV hV (by simp) (FD ?_));have htc:tid≠cap:=fun q=>by subst q;rw[h2]at h1;cases h1
  have hti:tid≠id:=fun q=>by subst q;unfold Sc at scA;rw[h2]at scA;cases scA
  have hl2:=(dO.1 h2).1;refine JN (rows:=[t.row]) (k:=done.length) rfl h2 (by simp) fT (ot [t]) ⟨by unfold maxLen;simp;omega,by simp;omega⟩ rfl ?_;refine aM (cs:=[.sb tid 5 (cM done++[t.row])]) (h':=((H++[aY.ak ⟨83,t.row,true⟩]).set tid (aY.tok 83 5 (done.length+[t.row].length))).set cap (.ak ⟨58,[.sb tid 5 (cM done++[t.row])],true⟩)) rfl (by rw[iN htc];exact h1) rfl rfl (by simp) rfl rfl rfl ?_;refine⟨_,_,Wk.refl _ _ _ (by simp),rfl,.inr ⟨tid,by simp, ?_, ?_⟩, ?_,by simp⟩
  ·rw[iF (by simp;omega)];simp
  ·rw[iN (Ne.symm htc),iF hl2];simp
  ·unfold Sc;rw[iN hne,iN hti];exact scA
end
variable [bB]
def E7(s:ao):aV p_ 28 [.str s] (.aw [xy (iu s).1,i_ (iu s).2]):=by
 refine (ZT _).aQ (by simp) ?_ ?_
 ·simp only[Aw.Pure,aq,and_true];unfold xy;split
  ·simp
  ·exact jU _
 unfold Vx;refine bq (cs:=[.v (.slice none 0 0)]) (n:=0) (h':=[.ak ⟨58,[.v (.slice none 0 0)],true⟩]) rfl rfl rfl rfl ?_;have read:cw p_ 43 [.str s,.fn (.func 44) [] [.op 0 0]] [.ak ⟨58,[.v (.slice none 0 0)],true⟩] fun v H=>v=i_ (iu s).2∧((iu s).2=0→rH 0 H (iu s).1):=by
  refine (Z7 _ _).bR ?_;unfold VL
  by_cases q:4000<s.length
  ·have e:iu s=([],28):=by unfold iu;rw[if_pos q]
   rw[e];refine uCon (Hn s q) (br rfl rfl (br rfl rfl (zzH (zzL rfl ?_))));exact⟨_,_,Wk.refl _ _ _ (aS _),rfl,fun z=>by cases z⟩
  refine uCon (Hu s (by omega)) ?_;obtain⟨c,hc⟩:∃c,dN s=c:=⟨_,rfl⟩;have hcl:c.length≤12000:=by have:=qH s.length s (aS _);rw[hc]at this;omega
  have he:iu s=if 1500<(lK c (Rt.fI c 0)).length then ([],4) else (lK c (Rt.fI c 0),0):=by unfold iu;rw[if_neg q,hc]
  rw[hc];obtain⟨L,hL⟩:∃L,lK c (Rt.fI c 0)=L:=⟨_,rfl⟩;rw[hL]at he;refine br rfl rfl (br rfl rfl (zzH (zzK rfl (bp rfl (bq (cs:=[.str c,i_ 0]) (n:=1) (h':=[.ak ⟨58,[.v (.slice none 0 0)],true⟩,dB c 0]) rfl rfl rfl rfl ?_)))));have sc0:Sc 1 [aY.ak ⟨58,[.v (.slice none 0 0)],true⟩,dB c 0] c 0:=rfl;refine Gq sc0 rfl (by omega) (aao _) ?_;have hp0:=tG c c.length 0 (by omega) (aao _);refine aG (α:=List Tok×Nat×aa) (fun x=>L=x.1++lK c x.2.1∧x.1.length≤1500∧x.2.1≤c.length∧Sc 1 x.2.2 c x.2.1∧rH 0 x.2.2 x.1∧2≤x.2.2.length) (fun x=>[i_ x.1.length]) (fun x=>x.2.2) (fun x=>c.length-x.2.1) ([],Rt.fI c 0,[aY.ak ⟨58,[.v (.slice none 0 0)],true⟩,dB c (Rt.fI c 0)]) ⟨by rw[hL];rfl,by simp,hp0.2,rfl,.inl ⟨rfl,rfl⟩,aS _⟩ (Wk.refl _ _ _ (aS _)) ?_;rintro⟨done,a,H⟩ ⟨el,hdl,ha,sc,cp,hH⟩;dsimp only at el hdl ha sc cp hH ⊢;refine bD (zzA (zzU sc rfl ?_));refine zzZ fun _=>?_;refine zzC ?_;rw[lK]at el
  by_cases h:a<c.length
  ·rw[dif_pos h]at el;have hlen:=congrArg List.length el;simp only[BY,aab]at hlen;refine zzL (tO (by omega)) (zzP (by unfold aZ;omega) (zzE ?_))
   by_cases h2:done.length=1500
   ·rw[if_pos (by omega)]at he;rw[he];refine zzL (tO (by omega)) ?_;exact⟨_,_,Wk.refl _ _ _ (by simp;omega),rfl,fun z=>by cases z⟩
   refine zzK (oF (by omega)) (bD (zzA (zzU sc rfl ?_)));have hin:=xd h;obtain⟨t,b,ht⟩:∃t b,jA c a=(t,b):=⟨_,_,rfl⟩;refine Pt sc rfl (by omega) h fun H1 m=>?_;rw[ht]at hin el m ⊢;dsimp only at hin el m ⊢;have sc1:=m.sc;have hid:1<H.length:=by omega
   have cp1:=cp.mv sc (by decide) (m.mv hid);have hH1:=m.len;refine bq (cs:=[u8 0,.str [],i_ 0,.str [],ff]) (n:=H1.length) (h':=H1++[cm 0 [] 0 [] false]) rfl (by simp[bw]) rfl rfl ?_;have hV:(H1++[cm 0 [] 0 [] false])[H1.length]?=some (cm 0 [] 0 [] false):=by simp
   refine aM (cs:=t.row) (h':=H1++[.ak ⟨83,t.row,true⟩]) rfl hV rfl rfl (by simp) rfl (by simp[bw]) (by rw[Lt _ _ (aS _)];simp) (zzV (b:=⟨83,t.row,true⟩) (by simp) (by simp) ?_);have sc2:=sc1.app [aY.ak ⟨83,t.row,true⟩];have cp2:=cp1.app [aY.ak ⟨83,t.row,true⟩];refine bD (zzA (zzU sc2 rfl ?_));refine SP (t:=t) cp2 sc2 (by decide) (by omega) fun H3 cp3 sc3 hl3=>?_;have hpb:=tG c c.length b (by omega) hin.2;refine Gq sc3 rfl (by omega) hin.2 ?_;have hid3:1<H3.length:=by simp at hl3;omega
   have m4:=Mv.set 1 c (Rt.fI c b) H3;refine⟨rfl,(done++[t],Rt.fI c b,H3.set 1 (dB c (Rt.fI c b))),⟨by rw[el];simp,by simp;omega,hpb.2,sc3.set _,cp3.mv sc3 (by decide) m4,by show 2≤(List.set H3 1 _).length;simp;omega⟩, ?_,by dsimp only;omega⟩;simp only[BY,aab,aaN];exact Wk.refl _ _ _ (by simp at hl3;simp;omega)
  ·rw[dif_neg h,aal]at el;subst el;rw[if_neg (by omega)]at he;rw[he];refine zzK (oF (by omega)) ?_;exact⟨_,_,Wk.refl _ _ _ (by simp;omega),rfl,fun _=>cp⟩
 refine cu (by kernel_rfl) rfl read ?_;rintro _ H ⟨rfl,cp⟩;refine zzH ?_
 by_cases z:(iu s).2=0
 ·have cp:=cp z;rw[z];refine zzK rfl ?_;rcases cp with⟨h1,h2⟩|⟨tid,hdn,h1,h2⟩
  ·refine zzU h2 rfl ?_;rw[h1];exact .pure (by simp[Aw.Pure,aq]) rfl
  ·refine zzU h1 rfl (cf.of ?_);simp only[tl,dt,lH,aap,if_false];rw[yv _ _ _ _ (jU _)];unfold xy;rw[if_neg hdn];exact Le.refl _
 ·have hn:(iu s).1=[]:=by
   unfold iu at z ⊢;split
   ·rfl
   ·split
    ·rfl
    ·rename_i h1 h2;rw[if_neg h1,if_neg h2]at z;exact absurd rfl z
  rw[hn];refine zzL (by simpa using z) ?_;exact .pure (by simp[Aw.Pure,aq]) rfl
end
section
open Go Go.Aw Go.jh Go.RowKit
abbrev bC:AV:=.v (.slice none 0 0)
mutual
def bx:Vl→List AV
 | .mk k t n u f l=>[u1 k,.str t,i_ n,.str u,b_ f,match l with|[]=>bC|v:: l=>.sl 6 (bx v:: pT l)]
def pT:List Vl→List (List AV)
 | []=>[]
 | v:: l=>bx v:: pT l
end
def u6(l:List Vl):AV:=match l with|[]=>bC|v:: l=>.sl 6 (bx v:: pT l)
def Ah(k:Int)(t:ao)(n:Int)(u:ao)(f:Bool)(l:List Vl):bx (.mk k t n u f l)=[u1 k,.str t,i_ n,.str u,b_ f,u6 l]:=by cases l<;>simp[bx,u6]
mutual
theorem zv:∀x:Vl,aq (bx x)
 | .mk k t n u f []=>by simp[bx,aq,Aw.Pure]
 | .mk k t n u f (v:: l)=>by simp[bx,aq,Aw.Pure,aX,zv v,Ez l]
theorem Ez:∀l:List Vl,aX (pT l)
 | []=>by simp[pT,aX]
 | v:: l=>by simp[pT,aX,zv v,Ez l]
end
def DV(l:List Vl):Aw.Pure (u6 l):=by
 cases l with
 | nil=>simp[u6,Aw.Pure]
 | cons v l=>simp[u6,Aw.Pure,aX,zv,Ez]
mutual
theorem L1:∀v:Vl,gG (bx v) (ig v)
 | .mk k t n u f []=>by
   rw[Ah,ig];exact .cons (.refl _) (.cons (.refl _) (.cons (.refl _) (.cons (.refl _) (.cons (.refl _) (.cons (.nil 6) .nil)))))
 | .mk k t n u f (v:: l)=>by
   rw[Ah,ig];exact .cons (.refl _) (.cons (.refl _) (.cons (.refl _) (.cons (.refl _) (.cons (.refl _) (.cons (.sl (.cons (L1 v) (HG l))) .nil)))))
theorem HG:∀l:List Vl,lI (pT l) (ct l)
 | []=>.nil
 | v:: l=>.cons (L1 v) (HG l)
end
def Pj(l:List Vl):Bz (u6 l) (.sl 6 (ct l)):=by
 cases l with
 | nil=>exact .nil 6
 | cons v l=>exact .sl (.cons (L1 v) (HG l))
/-! ### In memory -/
mutual
def VV(F:Nat→Prop)(H:aa):List AV→Vl→Prop
 | r,.mk k t n u f l=>∃a,r=[u1 k,.str t,i_ n,.str u,b_ f,a]∧((l=[]∧a=bC)∨(l≠[]∧∃X rows,a=.own X 0 l.length 6∧F X∧H[X]?=some (.ak ⟨87,rows.flatten,true⟩)∧VR F H rows l))
def VR(F:Nat→Prop)(H:aa):List (List AV)→List Vl→Prop
 | rows,[]=>rows=[]
 | rows,v:: l=>∃r rs,rows=r:: rs∧VV F H r v∧VR F H rs l
end
section
variable {F F':Nat→Prop} {H H':aa}
mutual
theorem VV.mono(hF:∀X,F X→F' X∧H'[X]?=H[X]?):∀(v:Vl) (r:List AV),VV F H r v→VV F' H' r v
 | .mk k t n u f l,r,h=>by
   rw[VV]at h ⊢;obtain⟨a,rfl,h⟩:=h;refine⟨a,rfl, ?_⟩;rcases h with h|⟨h0,X,rows,rfl,h1,h2,h3⟩
   ·exact .inl h
   ·exact .inr ⟨h0,X,rows,rfl,(hF X h1).1,by rw[(hF X h1).2];exact h2,VR.mono hF l rows h3⟩
theorem VR.mono(hF:∀X,F X→F' X∧H'[X]?=H[X]?):∀(l:List Vl) (rows:List (List AV)),VR F H rows l→VR F' H' rows l
 | [],rows,h=>by rw[VR]at h ⊢;exact h
 | v:: l,rows,h=>by
   rw[VR]at h ⊢;obtain⟨r,rs,rfl,h1,h2⟩:=h;exact⟨r,rs,rfl,VV.mono hF v r h1,VR.mono hF l rs h2⟩
end
def VV.row(h:VV F H r v):da 6 r=true:=by
 cases v;rw[VV]at h;obtain⟨a,rfl,h⟩:=h;rcases h with⟨_,rfl⟩|⟨_,X,rows,rfl,_⟩<;>rfl
theorem VR.len:∀{l:List Vl} {rows:List (List AV)},VR F H rows l→rows.length=l.length
 | [],rows,h=>by rw[VR]at h;subst h;rfl
 | v:: l,rows,h=>by
   rw[VR]at h;obtain⟨r,rs,rfl,_,h2⟩:=h;simp[h2.len]
theorem VR.rows:∀{l:List Vl} {rows:List (List AV)},VR F H rows l→rows.all (da 6)=true
 | [],rows,h=>by rw[VR]at h;subst h;rfl
 | v:: l,rows,h=>by
   rw[VR]at h;obtain⟨r,rs,rfl,h1,h2⟩:=h;rw[aaC,h1.row,h2.rows];rfl
theorem VR.snoc(hv:VV F H r v):∀{l:List Vl} {rows:List (List AV)},VR F H rows l→VR F H (rows++[r]) (l++[v])
 | [],rows,h=>by
   rw[VR]at h;subst h;rw[List.nil_append,List.nil_append,VR];exact⟨r,[],rfl,hv,by rw[VR]⟩
 | w:: l,rows,h=>by
   rw[VR]at h;obtain⟨r',rs,rfl,h1,h2⟩:=h;rw[aaQ,aaQ,VR];exact⟨r',_,rfl,h1,h2.snoc hv⟩
def Ce{sz:Nat}(h:da sz r=true):r.length=sz:=by
 simp only[da,On,beq_iff_eq]at h;exact h.1
theorem jI{sz:Nat}:∀{rows:List (List AV)},rows.all (da sz)=true→rows.flatten.length=rows.length*sz
 | [],_=>by simp
 | r:: rows,h=>by
   simp only[aaC,On]at h;rw[aaM,BY,Ce h.1,jI h.2,aab,Nat.succ_mul];omega
mutual
theorem VV.tl:∀(v:Vl) (r:List AV) (d:Nat),VV F H r v→zV v≤d+1→r.map (tl 0 H d)=bx v
 | .mk k t n u f l,r,d,h,hz=>by
   rw[VV]at h;obtain⟨a,rfl,h⟩:=h;rw[Ah];have e:tl 0 H d a=u6 l:=by
    rcases h with⟨rfl,rfl⟩|⟨h0,X,rows,rfl,h1,h2,h3⟩
    ·exact jf (by simp[Aw.Pure])
    ·have hl:=h3.len;rw[zV]at hz;have hzl:=lA l;obtain⟨d,rfl⟩:∃e,d=e+1:=⟨d-1,by have:0<l.length:=List.length_pos_iff.2 h0;omega⟩;rw[oy h2 rfl (by rw[jI h3.rows,hl];exact aS _),←hl,sJ _ h3.rows,VR.tl l rows d h3 (by omega)];cases l with
     | nil=>exact absurd rfl h0
     | cons v l=>rfl
   simp only[IF,List.map_nil,e];rw[jf (by simp),jf (by simp),jf (by simp),jf (by simp),jf (by simp)]
theorem VR.tl:∀(l:List Vl) (rows:List (List AV)) (d:Nat),VR F H rows l→bP l≤d+1→rows.map (List.map (tl 0 H d))=pT l
 | [],rows,d,h,hz=>by rw[VR]at h;subst h;rfl
 | v:: l,rows,d,h,hz=>by
   rw[VR]at h;obtain⟨r,rs,rfl,h1,h2⟩:=h;rw[bP]at hz;rw[pT,IF,VV.tl v r d h1 (by omega),VR.tl l rs d h2 (by omega)]
end
end
def HL(F:Nat→Prop)(H:aa)(a:AV)(l:List Vl):Prop:=(l=[]∧a=bC)∨(l≠[]∧∃X rows,a=.own X 0 l.length 6∧¬F X∧H[X]?=some (.ak ⟨87,rows.flatten,true⟩)∧VR F H rows l)
section
variable [Laid]
def Wk.U9(hn:n≤h.length):Wk n s h (s.map (tl n h d)) (nG n h):=
 ⟨by simp[nG];omega,by simp,fun base ι S w vs r k=>by
  obtain⟨e,k'⟩:=k.told hn;refine⟨_,_,e, ?_,k'⟩;cases d with
  | zero =>
    have:=aD.dt (L:=n) (f:=fun _=>.any) k (fun _ _ _=>by simp) s vs r
    rwa [mW]at this
  | succ d =>
    have:=aD.dt (L:=n) (f:=tl n h d) k (ax.tl k d) s vs r
    rwa [mW]at this⟩
def cf.sq(d:Nat)(q:tl 0 h' d r'=r):cf r r' h':=⟨_,_,Wk.U9 (d:=d) (aao _),q⟩
omit [Laid] in
def HL.told{F:Nat→Prop}(d:Nat)(hd:bP l≤d+1)(h:HL F H a l):tl 0 H (d+1) a=u6 l:=by
 rcases h with⟨rfl,rfl⟩|⟨h0,X,rows,rfl,h1,h2,h3⟩
 ·exact jf (by simp[Aw.Pure])
 ·have hl:=h3.len;rw[oy h2 rfl (by rw[jI h3.rows,hl];exact aS _),←hl,sJ _ h3.rows,VR.tl l rows d h3 hd];cases l with
  | nil=>exact absurd rfl h0
  | cons v l=>rfl
def HL.aQ{F:Nat→Prop}(h:HL F H a l):cf (.aw [u6 l,i_ e]) (.aw [a,i_ e]) H:=by
 refine cf.sq (bP l+1) ?_;show AV.aw [Aw.tl 0 H (bP l+1) a,i_ e]=_;rw[h.told _ (by omega)]
end
/-! ### The state -/
structure PS(a b:Nat)(F:Nat→Prop)(H:aa)(N:Nat)(ls:List (List Vl))(os:List Tok)(hs:List AV)(Lb:Nat)(e1:List AV)(ho:AV):Prop where
 la:H[a]?=some (.ak ⟨85,[.own Lb 0 ls.length 1],true⟩)
 lb:H[Lb]?=some (.ak ⟨61,hs++e1,true⟩)
 hl:hs.length=ls.length
 hd:∀(i:Nat) (l:List Vl),ls[i]?=some l→l.length≤N∧∃x,hs[i]?=some x∧HL F H x l
 inj:∀(i j X m m':Nat),hs[i]?=some (.own X 0 m 6)→hs[j]?=some (.own X 0 m' 6)→i=j
 ob:H[b]?=some (.ak ⟨58,[ho],true⟩)
 ol:(os=[]∧ho=bC)∨∃Ob e2,ho=.own Ob 0 os.length 5∧H[Ob]?=some (.ak ⟨83,(cM os).flatten++e2,true⟩)
 fr:∀X,F X→∃cs,H[X]?=some (.ak ⟨87,cs,true⟩)
section
variable {a b N Lb:Nat} {F F':Nat→Prop} {H H':aa} {ls:List (List Vl)} {os:List Tok} {hs e1:List AV} {ho:AV}
def HL.mono(h:HL F H x l)(hF:∀X,F X→F' X∧H'[X]?=H[X]?)(hx:∀X m,x=.own X 0 m 6→¬F' X∧H'[X]?=H[X]?):HL F' H' x l:=by
 rcases h with h|⟨h0,X,rows,rfl,h1,h2,h3⟩
 ·exact .inl h
 ·exact .inr ⟨h0,X,rows,rfl,(hx X _ rfl).1,by rw[(hx X _ rfl).2];exact h2,h3.mono hF⟩
def PS.app(p:PS a b F H N ls os hs Lb e1 ho)(j:aa):PS a b F (H++j) N ls os hs Lb e1 ho:=by
 have hl:∀{i:Nat} {x:aY},H[i]?=some x→(H++j)[i]?=some x:=fun h=>by
  rw[gE (dO.1 h).1];exact h
 refine⟨hl p.la,hl p.lb,p.hl,fun i l q=>?_,p.inj,hl p.ob, ?_,fun X hX=>(p.fr X hX).imp fun _=>hl⟩
 ·obtain⟨hn,x,hx,hh⟩:=p.hd i l q;refine⟨hn,x,hx, ?_⟩;rcases hh with h|⟨h0,X,rows,rfl,h1,h2,h3⟩
  ·exact .inl h
  ·exact .inr ⟨h0,X,rows,rfl,h1,hl h2,h3.mono fun X hX=>⟨hX,by obtain⟨cs,e⟩:=p.fr X hX;rw[e];exact hl e⟩⟩
 ·rcases p.ol with h|⟨Ob,e2,h1,h2⟩
  ·exact .inl h
  ·exact .inr ⟨Ob,e2,h1,hl h2⟩
def PS.put{v:Vl}{r:List AV}{rows:List (List AV)}{base:List (List Vl)}{hb:List AV}(p:PS a b F H N (base++[c]) os (hb++[x]) Lb e1 ho)(hc:c.length+1≤N+1)
 (hr:VR F H rows c) (hv:VV F H r v)
 (h1:H'[H.length]?=some (.ak ⟨87,(rows++[r]).flatten,true⟩))
 (h2:H'[Lb]?=some (.ak ⟨61,hb++[.own H.length 0 (c.length+1) 6]++e1,true⟩))
 (h3:∀id,id<H.length→id≠Lb→(∀m,x≠.own id 0 m 6)→H'[id]?=H[id]?) :
 PS a b F H' (N+1) (base++[c++[v]]) os (hb++[.own H.length 0 (c.length+1) 6]) Lb e1 ho:=by
 have hlen:hb.length=base.length:=by have:=p.hl;simp at this;exact this
 have lt:∀{i:Nat} {x:aY},H[i]?=some x→i<H.length:=fun h=>(dO.1 h).1;have hxX:∀X m,x=.own X 0 m 6→¬F X∧∃cs,H[X]?=some (.ak ⟨87,cs,true⟩):=by
  intro X m e;obtain⟨_,y,hy,hh⟩:=p.hd base.length c (by simp);rw[←hlen,iD (aS _)]at hy;simp at hy;subst hy;rcases hh with⟨_,hh⟩|⟨_,X',rows',e',g1,g2,_⟩
  ·rw[e]at hh;cases hh
  ·rw[e]at e';cases e';exact⟨g1,_,g2⟩
 have eT:∀{id:Nat} {e:aY},H[id]?=some e→id≠Lb→(∀m,x≠.own id 0 m 6)→H'[id]?=some e:=fun h q1 q2=>by rw[h3 _ (lt h) q1 q2];exact h
 have keepT:∀{id t:Nat} {cs:List AV},H[id]?=some (.ak ⟨t,cs,true⟩)→t≠61→t≠87→H'[id]?=some (.ak ⟨t,cs,true⟩):=fun {id t cs} h q1 q2=>by
  refine eT h (fun e=>?_) fun m e=>?_
  ·subst e;rw[p.lb]at h;cases h;exact q1 rfl
  ·obtain⟨_,cs',g⟩:=hxX _ _ e;rw[g]at h;cases h;exact q2 rfl
 have hF:∀X,F X→F X∧H'[X]?=H[X]?:=fun X hX=>by
  obtain⟨cs,e⟩:=p.fr X hX;refine⟨hX,h3 X (lt e) (fun q=>?_) fun m q=>(hxX X m q).1 hX⟩;subst q;rw[p.lb]at e;cases e
 refine⟨?_,h2,by simp[hlen], ?_, ?_,keepT p.ob (by decide) (by decide), ?_,fun X hX=>?_⟩
 ·have:=keepT p.la (by decide) (by decide);simpa using this
 ·intro i l q;rcases Nat.lt_trichotomy i base.length with k|k|k
  ·rw[gE k]at q;obtain⟨hn,y,hy,hh⟩:=p.hd i l (by rw[gE k];exact q);refine⟨by omega,y,by rw[gE (by omega)]at hy ⊢;exact hy,hh.mono hF fun X m e=>?_⟩;subst e;rcases hh with⟨_,e⟩|⟨_,X',rows',e',g1,g2,_⟩
   ·cases e
   ·cases e';refine⟨g1,h3 X (lt g2) (fun q=>?_) fun m' q=>?_⟩
    ·subst q;rw[p.lb]at g2;cases g2
    ·subst q;have:=p.inj i hb.length X _ m' hy (by simp);omega
  ·subst k;simp at q;subst q;refine⟨by simp;omega,.own H.length 0 (c.length+1) 6,by rw[←hlen];simp,.inr ⟨by simp,H.length,rows++[r],by simp,fun z=>?_,h1,(hr.mono hF).snoc (hv.mono hF)⟩⟩;obtain⟨cs,e⟩:=p.fr _ z;have:=lt e;omega
  ·rw[lE (by simp;omega)]at q;cases q
 ·intro i j X m m' q1 q2;have old:∀{i m:Nat},i<hb.length→(hb++[AV.own H.length 0 (c.length+1) 6])[i]?=some (.own X 0 m 6)→hb[i]?=some (.own X 0 m 6)∧X<H.length:=by
   intro i m k q;rw[gE k]at q;refine⟨q, ?_⟩;obtain⟨l,hl⟩:∃l,base[i]?=some l:=⟨_,bY (by omega)⟩;obtain⟨_,y,hy,hh⟩:=p.hd i l (by rw[gE (by omega)];exact hl);rw[gE k,q]at hy;cases hy;rcases hh with⟨_,e⟩|⟨_,X',rows',e',g1,g2,_⟩
   ·cases e
   ·cases e';exact lt g2
  have new:∀{i m:Nat},¬i<hb.length→(hb++[AV.own H.length 0 (c.length+1) 6])[i]?=some (.own X 0 m 6)→i=hb.length∧X=H.length:=by
   intro i m k q;have hi:i=hb.length:=by
    have:=(dO.1 q).1;simp at this;omega
   subst hi;simp at q;exact⟨rfl,q.1.symm⟩
  by_cases k1:i<hb.length<;>by_cases k2:j<hb.length
  ·exact p.inj i j X m m' (by rw[gE k1];exact (old k1 q1).1) (by rw[gE k2];exact (old k2 q2).1)
  ·have:=(old k1 q1).2;have:=(new k2 q2).2;omega
  ·have:=(old k2 q2).2;have:=(new k1 q1).2;omega
  ·rw[(new k1 q1).1,(new k2 q2).1]
 ·rcases p.ol with h|⟨Ob,e2,g1,g2⟩
  ·exact .inl h
  ·exact .inr ⟨Ob,e2,g1,keepT g2 (by decide) (by decide)⟩
 ·rw[(hF X hX).2];exact p.fr X hX
end
section
variable {a b N Lb:Nat} {F F':Nat→Prop} {H H':aa} {ls:List (List Vl)} {os:List Tok} {hs e1:List AV} {ho:AV}
def PS.lt(h:H[i]?=some x):i<H.length:=(dO.1 h).1
def PS.drop{base:List (List Vl)}{ob:List Tok}{hb:List AV}{x ho':AV}(p:PS a b F H N (base++[c]) (ob++[o]) (hb++[x]) Lb e1 ho)
 (h1:H'[a]?=some (.ak ⟨85,[.own Lb 0 base.length 1],true⟩))
 (h2:H'[b]?=some (.ak ⟨58,[ho'],true⟩)) (hho:∀Ob m,ho=.own Ob 0 m 5→ho'=.own Ob 0 ob.length 5)
 (h3:∀id,id≠a→id≠b→id<H.length→H'[id]?=H[id]?) :
 ∃F',PS a b F' H' N base ob hb Lb (x:: e1) ho'∧VV F' H' [u8 o.k,.str o.t,i_ o.n,.str o.u,b_ o.f,x] (lD o c):=by
 have hlen:hb.length=base.length:=by have:=p.hl;simp at this;exact this
 have keepT:∀{id t:Nat} {cs:List AV},H[id]?=some (.ak ⟨t,cs,true⟩)→t≠85→t≠58→H'[id]?=some (.ak ⟨t,cs,true⟩):=fun {id t cs} h q1 q2=>by
  rw[h3 id (fun e=>?_) (fun e=>?_) (PS.lt h)]
  ·exact h
  ·subst e;rw[p.la]at h;cases h;exact q1 rfl
  ·subst e;rw[p.ob]at h;cases h;exact q2 rfl
 obtain⟨hcn,y,hy,hh⟩:=p.hd base.length c (by simp);rw[←hlen,iD (aS _)]at hy;simp at hy;subst hy;have hlast:(hb++[x])[hb.length]?=some x:=by simp
 have hF:∀X,F X→(F X∨∃m,x=.own X 0 m 6)∧H'[X]?=H[X]?:=fun X hX=>by
  obtain⟨cs,e⟩:=p.fr X hX;exact⟨.inl hX,by rw[keepT e (by decide) (by decide),e]⟩
 refine⟨fun X=>F X∨∃m,x=.own X 0 m 6,⟨h1, ?_,hlen, ?_, ?_,h2, ?_, ?_⟩, ?_⟩
 ·have:=keepT p.lb (by decide) (by decide);simpa using this
 ·intro i l q;have k:i<base.length:=(dO.1 q).1;obtain⟨hn,y,hy,hy2⟩:=p.hd i l (by rw[gE k];exact q);have hy1:=hy;rw[gE (by omega)]at hy;refine⟨hn,y,hy,hy2.mono hF fun X m e=>?_⟩;subst e;rcases hy2 with⟨_,e⟩|⟨_,X',rows',e',g1,g2,_⟩
  ·cases e
  ·cases e';refine⟨fun z=>?_,by rw[keepT g2 (by decide) (by decide),g2]⟩;rcases z with z|⟨m',z⟩
   ·exact g1 z
   ·subst z;have:=p.inj i hb.length X _ _ hy1 hlast;omega
 ·intro i j X m m' q1 q2;have k1:=(dO.1 q1).1;have k2:=(dO.1 q2).1;exact p.inj i j X m m' (by rw[gE k1];exact q1) (by rw[gE k2];exact q2)
 ·rcases p.ol with⟨h,_⟩|⟨Ob,e2,g1,g2⟩
  ·exact absurd h (by simp)
  ·refine .inr ⟨Ob,o.row++e2,hho _ _ g1, ?_⟩;have:=keepT g2 (by decide) (by decide);simpa using this
 ·rintro X (z|⟨m,z⟩)
  ·rw[(hF X z).2];exact p.fr X z
  ·subst z;rcases hh with⟨_,e⟩|⟨_,X',rows',e',g1,g2,_⟩
   ·cases e
   ·cases e';exact⟨_,keepT g2 (by decide) (by decide)⟩
 ·show VV _ _ _ (.mk o.k o.t o.n o.u o.f c);rw[VV];refine⟨x,rfl, ?_⟩;rcases hh with h|⟨h0,X,rows,rfl,g1,g2,g3⟩
  ·exact .inl h
  ·exact .inr ⟨h0,X,rows,rfl,.inr ⟨_,rfl⟩,keepT g2 (by decide) (by decide),g3.mono hF⟩
def PS.push{t:Tok}{L2 O2:Nat}(p:PS a b F H N ls os hs Lb e1 ho)
 (h1:H'[a]?=some (.ak ⟨85,[.own L2 0 (ls.length+1) 1],true⟩)) (h2:H'[L2]?=some (.ak ⟨61,hs++[bC],true⟩))
 (h3:H'[b]?=some (.ak ⟨58,[.own O2 0 (os.length+1) 5],true⟩)) (h4:H'[O2]?=some (.ak ⟨83,(cM (os++[t])).flatten,true⟩))
 (h5:∀(id:Nat) (cs:List AV),H[id]?=some (aY.ak ⟨87,cs,true⟩)→H'[id]?=H[id]?):PS a b F H' N (ls++[[]]) (os++[t]) (hs++[bC]) L2 [] (.own O2 0 (os.length+1) 5):=by
 have hF:∀X,F X→F X∧H'[X]?=H[X]?:=fun X hX=>by
  obtain⟨cs,e⟩:=p.fr X hX;exact⟨hX,h5 X cs e⟩
 have hl:=p.hl;refine⟨by simpa using h1,by simpa using h2,by simp[hl], ?_, ?_,h3,.inr ⟨O2,[],by simp,by simpa using h4⟩,fun X hX=>?_⟩
 ·intro i l q
  by_cases k:i<ls.length
  ·rw[gE k]at q;obtain⟨hn,y,hy,hh⟩:=p.hd i l q;refine⟨hn,y,by rw[gE (by omega)];exact hy,hh.mono hF fun X m e=>?_⟩;subst e;rcases hh with⟨_,e⟩|⟨_,X',rows',e',g1,g2,_⟩
   ·cases e
   ·cases e';exact⟨g1,h5 _ _ g2⟩
  ·have hi:i=ls.length:=by have:=(dO.1 q).1;simp at this;omega
   subst hi;simp at q;subst q;exact⟨aao _,bC,by rw[←hl];simp,.inl ⟨rfl,rfl⟩⟩
 ·intro i j X m m' q1 q2;have old:∀{i m:Nat},(hs++[bC])[i]?=some (.own X 0 m 6)→hs[i]?=some (.own X 0 m 6):=by
   intro i m q
   by_cases k:i<hs.length
   ·rw[gE k]at q;exact q
   ·have hi:i=hs.length:=by have:=(dO.1 q).1;simp at this;omega
    subst hi;simp at q
  exact p.inj i j X m m' (old q1) (old q2)
 ·rw[(hF X hX).2];exact p.fr X hX
end
section
variable [Laid]
omit [Laid] in
def KJ{K1 K2:AV→aa→Prop}(q1:K1 (b_ false) (g++[.ak ⟨4,[b_ false],true⟩]))(q2:K2 (b_ true) (g++[.ak ⟨4,[b_ true],true⟩])):
 aB 4 ff g fun v g1=>(ah 1 v tt g1 fun g2=>ah 1 v ff g2 fun g3=>ae false 1 v g3 fun w=>K1 w g3)∧(ah 1 v ff g1 fun g2=>ah 1 v tt g2 fun g3=>ae false 1 v g3 fun w=>K2 w g3):=by
 have st:∀{b c:Bool} {K:aa→Prop},K (g++[.ak ⟨4,[b_ c],true⟩])→ah 1 (.op g.length 0) (b_ c) (g++[.ak ⟨4,[b_ b],true⟩]) K:=fun {b c K} q =>
  aM (id:=g.length) (b:=⟨4,[b_ b],true⟩) (cs:=[b_ c]) rfl (by simp) rfl rfl (by simp) rfl rfl (by simp[bU]) q
 have ld:∀{c:Bool} {K:AV→Prop},K (b_ c)→ae false 1 (.op g.length 0) (g++[.ak ⟨4,[b_ c],true⟩]) K:=fun {c K} q=>aE (b:=⟨4,[b_ c],true⟩) rfl (by simp) rfl q;refine bq (cs:=[b_ false]) rfl rfl rfl rfl ⟨?_, ?_⟩
 ·exact st (st (ld q1))
 ·exact st (st (ld q2))
omit [Laid] in
def km{sz:Nat}{cs:List AV}{K:AV→Prop}(hv:bl v=cs)(hl:cs.length=sz)(hz:(bl z).length=sz)(hs:cs.all bw=true)(q:K (.sl sz [cs])):bz 1 sz z [(0,sz,v)] K:=by
 subst hv;have:dD (eZ 1 (bl z)) [(0,sz,v)]=some (bl v):=by
  simp only[dD,eZ,aal];rw[if_pos ⟨hl,by omega,hs⟩,fY (by omega)]
 unfold bz;rw[this];simp only[chunks];rw[Of (by omega)];exact q
abbrev zeroV:List AV:=[u8 0,.str [],i_ 0,.str [],ff,bC]
variable {a b N Lb:Nat} {F F':Nat→Prop} {H H':aa} {os:List Tok} {e1:List AV} {ho:AV}
omit [Laid] in
def Ny{K:AV→aa→Prop}(h:HL F H x c)(hr:da 6 r=true)(hc:c.length<2^20)
 (k:∀H1 rows,VR F H rows c→H1.length=H.length+1→H1[H.length]?=some (.ak ⟨87,(rows++[r]).flatten,true⟩)→(∀id,id<H.length→(∀m,x≠.own id 0 m 6)→H1[id]?=H[id]?)→K (.own H.length 0 (c.length+1) 6) H1) :
 bN true 87 6 80 x (.sl 6 [r]) H K:=by
 rcases h with⟨rfl,rfl⟩|⟨h0,X,rows,rfl,h1,h2,h3⟩
 ·unfold bN ep;rw[fT];refine⟨by rw[aaC,hr];rfl,by simp,⟨by simp[maxLen],by simp⟩, ?_⟩;exact k _ [] (by rw[VR]) (by simp) (by simp) fun id hid _=>by rw[gE hid]
 ·have hl:=h3.len;refine JO (n:=H.length) rfl h2 (by rw[jI h3.rows,hl];exact aS _) (List.length_pos_iff.2 h0) fT (by rw[aaC,hr];rfl) ⟨by unfold maxLen;simp;omega,by simp;omega⟩ rfl rfl ?_;refine k _ rows h3 (by simp) ?_ fun id hid hne=>?_
  ·rw[iD (by simp)];simp;rw[Of (by rw[jI h3.rows,hl];exact aS _)]
  ·rw[gE (by simpa using hid),iN (fun e=>hne _ (by rw[e]))]
omit [Laid] in
def Jt{nb:Nat}{base:List (List Vl)}{r hb:List AV}{K:aa→Prop}(p:PS a b F H N (base++[c]) os (hb++[x]) Lb e1 ho)(hnb:base.length=nb)(hN:N<2^20)(hv:VV F H r v)
 (k:∀H',PS a b F H' (N+1) (base++[c++[v]]) os (hb++[.own H.length 0 (c.length+1) 6]) Lb e1 ho→H.length≤H'.length→K H') :
 bN true 87 6 80 x (.sl 6 [r]) H fun v89 g90=>au 1 (.own Lb 0 (nb+1) 1) (i_ nb) fun v91=>ah 1 v91 v89 g90 K:=by
 subst hnb;have hlen:hb.length=base.length:=by have:=p.hl;simp at this;exact this
 obtain⟨hcn,y,hy,hh⟩:=p.hd base.length c (by simp);rw[←hlen,iD (aS _)]at hy;simp at hy;subst hy;refine Ny hh hv.row (by omega) fun H1 rows hr hl hn ho=>?_;have hLb:=PS.lt p.lb;have hxl:∀m,x≠.own Lb 0 m 6:=fun m e=>by
  subst e;rcases hh with⟨_,e⟩|⟨_,X',rows',e',g1,g2,_⟩
  ·cases e
  ·cases e';rw[p.lb]at g2;cases g2
 refine dY rfl rfl (by omega) ?_;refine aM (b:=⟨61,hb++[x]++e1,true⟩) (cs:=[.own H.length 0 (c.length+1) 6]) (h':=H1.set Lb (.ak ⟨61,hb++[.own H.length 0 (c.length+1) 6]++e1,true⟩)) rfl (by rw[ho Lb hLb hxl];exact p.lb) rfl rfl (by simp;omega) rfl rfl ?_ ?_
 ·congr 3
  simp only[bU];rw[show 0+base.length*1=hb.length by omega,TO,Lt _ _ (aS _)];simp
 ·refine k _ (p.put (by omega) hr hv ?_ ?_ ?_) (by simp;omega)
  ·rw[iN (by omega)];exact hn
  ·rw[iF (by omega)]
  ·intro id h1 h2 h3;rw[iN (Ne.symm h2)];exact ho id h1 h3
omit [Laid] in
def Ju{nb:Nat}{base:List (List Vl)}{r hb:List AV}{K:aa→Prop}(p:PS a b F H N (base++[c]) os (hb++[x]) Lb e1 ho)(hnb:base.length=nb)(hN:N<2^20)(hv:VV F H r v)(hy:bl y=r)
 (k:∀H',PS a b F H' (N+1) (base++[c++[v]]) os (hb++[.own H.length 0 (c.length+1) 6]) Lb e1 ho→H.length≤H'.length→K H') :
 bN true 87 6 80 x (.sl 6 [zeroV]) H fun v75 g76=>au 1 (.own Lb 0 (nb+1) 1) (i_ nb) fun v77=>ah 1 v77 v75 g76 fun g78=>au 6 v75 (i_ c.length) fun v79=>ah 6 v79 y g78 K:=by
 subst hnb;have hlen:hb.length=base.length:=by have:=p.hl;simp at this;exact this
 obtain⟨hcn,z,hz,hh⟩:=p.hd base.length c (by simp);rw[←hlen,iD (aS _)]at hz;simp at hz;subst hz;refine Ny hh rfl (by omega) fun H1 rows hr hl hn ho=>?_;have hLb:=PS.lt p.lb;have hxl:∀m,x≠.own Lb 0 m 6:=fun m e=>by
  subst e;rcases hh with⟨_,e⟩|⟨_,X',rows',e',g1,g2,_⟩
  ·cases e
  ·cases e';rw[p.lb]at g2;cases g2
 have hrl:=hr.len;have hro:=Ce hv.row;have hfl:=jI hr.rows;refine dY rfl rfl (by omega) ?_;refine aM (b:=⟨61,hb++[x]++e1,true⟩) (cs:=[.own H.length 0 (c.length+1) 6]) (h':=H1.set Lb (.ak ⟨61,hb++[.own H.length 0 (c.length+1) 6]++e1,true⟩)) rfl (by rw[ho Lb hLb hxl];exact p.lb) rfl rfl (by simp;omega) rfl rfl ?_ ?_
 ·congr 3
  simp only[bU];rw[show 0+base.length*1=hb.length by omega,TO,Lt _ _ (aS _)];simp
 ·refine dY rfl rfl (by omega) ?_;refine aM (b:=⟨87,(rows++[zeroV]).flatten,true⟩) (cs:=r) (h':=(H1.set Lb (.ak ⟨61,hb++[.own H.length 0 (c.length+1) 6]++e1,true⟩)).set H.length (.ak ⟨87,(rows++[r]).flatten,true⟩)) rfl (by rw[iN (by omega)];exact hn) rfl hy (by simp only[List.flatten_append,BY,hfl,hrl];simp;omega) hro (by have:=hv.row;simp only[da,On]at this;exact this.2) ?_ ?_
  ·congr 3
   show bU (rows++[zeroV]).flatten (0+c.length*6) r=_;rw[show 0+c.length*6=rows.flatten.length by omega];simp only[List.flatten_append,aaM,List.flatten_nil,aal];exact uI r rows.flatten zeroV (by rw[hro];rfl)
  ·refine k _ (p.put (by omega) hr hv ?_ ?_ ?_) (by simp;omega)
   ·rw[iF (by simp;omega)]
   ·rw[iN (by omega),iF (by omega)]
   ·intro id h1 h2 h3;rw[iN (by omega),iN (Ne.symm h2)];exact ho id h1 h3
end
end
section
open Go Go.Aw Go.jh Go.RowKit
variable [Laid]
def nj(k:Int):aV p_ 46 [u1 k] (u1 (dE k)):=by
 refine (V46 _).aQ (by simp) (by simp) ?_;unfold VO;rcases (by omega:k=2∨k=19∨k=21∨k=23∨(k≠2∧k≠19∧k≠21∧k≠23)) with rfl|rfl|rfl|rfl|⟨h1,h2,h3,h4⟩
 ·simp;exact .pure (by simp) rfl
 ·simp;exact .pure (by simp) rfl
 ·simp;exact .pure (by simp) rfl
 ·simp;exact .pure (by simp) rfl
 ·simp[h1,h2,h3,h4];exact .pure (by simp) (by simp[dE,h1,h2,h3,h4])
omit [Laid] in
def P5{ob:List Tok}:(((cM (ob++[o])).flatten++e2).drop (ob.length*5)).take 5=o.row:=by
 have h:((cM ob).flatten).length=ob.length*5:=by rw[jI (ot ob)];simp
 have e:(cM (ob++[o])).flatten++e2=(cM ob).flatten++(o.row++e2):=by simp
 rw[e,←h,List.drop_left];rfl
omit [Laid] in
def rC:((cM l).flatten).length=l.length*5:=by rw[jI (ot l)];simp
omit [Laid] in
def jZ(h:b=true)(q:X):cG b X:=by subst h;exact q
omit [Laid] in
def IG{m id len n:Nat}{K:AV→Prop}(ex:x=.own id 0 len m)(ey:y=i_ n)(hn:n≤len)(q:K (.own id 0 n m)):iB m x none (some y) K:=by
 subst ex;subst ey;rw[Uv];simp only[dS];refine⟨trivial,⟨by omega,by omega,by omega⟩, ?_⟩;simpa using q
omit [Laid] in
def po(h:i≠d):pQ d (.op i o)=true:=by
 unfold pQ;cases e:Nat.beq i d with
 | false=>simp[e]
 | true=>exact absurd (lT e) h
omit [Laid] in
def PS.free{a b N Lb:Nat}{F:Nat→Prop}{base:List (List Vl)}{os:List Tok}{hg e1:List AV}{y ho:AV}(p:PS a b F H N (base++[g]) os (hg++[y]) Lb e1 ho):∃d,pQ d (.op a 0)=true∧uE d y=true:=by
 have hgl:hg.length=base.length:=by have:=p.hl;simp at this;omega
 obtain⟨_,z,hz,hh⟩:=p.hd base.length g (by simp);rw[←hgl]at hz;simp at hz;subst hz;rcases hh with⟨_,rfl⟩|⟨_,X,rows,rfl,_,h2,_⟩
 ·exact⟨a+1,po (by omega),rfl⟩
 ·refine⟨X, ?_,by simp[uE]⟩;have:a≠X:=fun e=>by subst e;have:=p.la;rw[h2]at this;cases this
  exact po this
def PX(a b:Nat)(H:aa)(N:Nat)(ls:List (List Vl))(os:List Tok):Prop:=∃F hs Lb e1 ho,PS a b F H N ls os hs Lb e1 ho
def Jx{base:List (List Vl)}{ob:List Tok}{K:AV→aa→Prop}(p:PX a b H N (base++[g]++[c]) (ob++[o]))(hN:N<2^20)(hob:ob.length=base.length)(hbl:base.length<2^20)
 (k:∀H',PX a b H' (N+1) (base++[g++[lD o c]]) ob→H.length≤H'.length→K (.aw []) H'):bA p_ (.fn (.func 45) [] [.op b 0,.op a 0]) [] H K:=by
 have hb:cJ p_ 45=true:=by kernel_rfl
 refine⟨hb, ?_⟩;show cw _ _ ([]++[]++[.op b 0,.op a 0]) _ _;refine cw.mono (K:=fun v H' => v=.aw []∧PX a b H' (N+1) (base++[g++[lD o c]]) ob∧H.length≤H'.length) ?_ (by rintro _ H' ⟨rfl,h1,h2⟩;exact k H' h1 h2);obtain⟨F,hs,Lb,e1,ho,p⟩:=p;have hal:=PS.lt p.la;have hbl2:=PS.lt p.ob;have hll:=PS.lt p.lb;have hab:a≠b:=fun e=>by subst e;have:=p.la;rw[p.ob]at this;cases this
 obtain⟨hb,x,rfl⟩:∃hb x,hs=hb++[x]:=by
  have h0:hs≠[]:=fun e=>by have:=p.hl;rw[e]at this;simp at this
  exact⟨hs.dropLast,hs.getLast h0,(List.dropLast_concat_getLast h0).symm⟩
 obtain⟨hg,y,rfl⟩:∃hg y,hb=hg++[y]:=by
  have h0:hb≠[]:=fun e=>by have:=p.hl;rw[e]at this;simp at this
  exact⟨hb.dropLast,hb.getLast h0,(List.dropLast_concat_getLast h0).symm⟩
 have hgl:hg.length=base.length:=by have:=p.hl;simp at this;omega
 obtain⟨Ob,e2,rfl,hO⟩:∃Ob e2,ho=.own Ob 0 (ob.length+1) 5∧H[Ob]?=some (.ak ⟨83,(cM (ob++[o])).flatten++e2,true⟩):=by
  rcases p.ol with⟨e,_⟩|⟨Ob,e2,q1,q2⟩
  ·exact absurd e (by simp)
  ·exact⟨Ob,e2,by simpa using q1,q2⟩
 refine (Z9 _ _).bR ?_;unfold VN;have cI:∀m:Nat,m<2^21→aZ (m:Int):=fun m hm=>by unfold aZ;omega
 refine zzU p.ob rfl ?_;rw[tz];intro _;refine zzf (by unfold aZ;omega) ?_;rw[show ((ob.length+1:Nat):Int)-1=(base.length:Nat) by omega];refine zzU p.ob rfl (dY rfl rfl (by omega) ?_);rw[show 0+base.length*5=ob.length*5 by omega];refine zzV hO (by simp only[List.length_drop,BY,rC,aab,aaN];omega) ?_;rw[P5];refine zzU p.la rfl (zzP (by unfold aZ;omega) ?_);rw[show ((base.length:Nat):Int)+1=((base.length+1:Nat):Int) by omega];refine dY rfl rfl (by simp) ?_;refine zzU (c:=x) p.lb (by simp;rw[iD (by omega)];simp[hgl]) ?_;have hxs:bw x=true:=by
  obtain⟨_,z,hz,hh⟩:=p.hd (base.length+1) c (by simp);rw[iD (by simp;omega)]at hz;simp[hgl]at hz;subst hz;rcases hh with⟨_,rfl⟩|⟨_,X,rows,rfl,_⟩<;>rfl
 refine bp (cs:=[u8 o.k,.str o.t,i_ o.n,.str o.u,b_ o.f,x]) (by
  cases x<;>first|(simp[dD,bl,bU,bw]at hxs ⊢;done)|(simp[bw]at hxs;done)|(simp[dD,bl,bU,bw]at hxs ⊢;assumption)) ?_
 obtain⟨R,hR⟩:∃R:List AV,R=[u8 o.k,.str o.t,i_ o.n,.str o.u,b_ o.f,x]:=⟨_,rfl⟩;have hRs:R.all bw=true:=by rw[hR];simp only[aaC,List.all_nil,hxs];rfl
 have hRl:R.length=6:=by rw[hR];rfl
 rw[←hR];refine aM (id:=H.length+1+0) (b:=⟨87,zeroV,true⟩) (cs:=R) (h':=H++[.dead]++[.ak ⟨87,R,true⟩]) rfl (by rw[iD (by simp)];simp) rfl rfl (by rw[hRl];simp) hRl hRs (by rw[Lt _ _ (by simp)];simp[fY (a:=zeroV) (b:=R) (by rw[hRl];rfl)]) ?_;have p3:=(p.app [.dead]).app [aY.ak ⟨87,R,true⟩];obtain⟨H3,h3⟩:∃H3,H3=H++[.dead]++[aY.ak ⟨87,R,true⟩]:=⟨_,rfl⟩;rw[←h3]at p3 ⊢;have l3:H3.length=H.length+2:=by rw[h3];simp
 have hv3:H3[H.length+1+0]?=some (.ak ⟨87,R,true⟩):=by rw[h3,iD (by simp)];simp
 refine⟨a, ?_⟩;refine zzU p3.la rfl (zzP (by unfold aZ;omega) ?_);rw[show ((base.length:Nat):Int)+1=((base.length+1:Nat):Int) by omega];refine IG rfl rfl (by simp) (jZ (po (Ne.symm hab)) (zzU p3.ob rfl (IG rfl rfl (by omega) (jZ (by simp[wj]) (aM (b:=⟨85,_,true⟩) (cs:=[.own Lb 0 (base.length+1) 1]) (h':=H3.set a (.ak ⟨85,[.own Lb 0 (base.length+1) 1],true⟩)) rfl p3.la rfl rfl (by simp) rfl rfl rfl ?_)))));refine aM (b:=⟨58,_,true⟩) (cs:=[.own Ob 0 base.length 5]) (h':=(H3.set a (.ak ⟨85,[.own Lb 0 (base.length+1) 1],true⟩)).set b (.ak ⟨58,[.own Ob 0 base.length 5],true⟩)) rfl (by rw[iN hab];exact p3.ob) rfl rfl (by simp) rfl rfl rfl ?_;obtain⟨H5,h5⟩:∃H5,H5=(H3.set a (.ak ⟨85,[.own Lb 0 (base.length+1) 1],true⟩)).set b (.ak ⟨58,[.own Ob 0 base.length 5],true⟩):=⟨_,rfl⟩;rw[←h5];have l5:H5.length=H.length+2:=by rw[h5];simp[l3]
 obtain⟨F',p5,hv⟩:=p3.drop (H':=H5) (ho':=.own Ob 0 base.length 5) (by rw[h5,iN (Ne.symm hab),iF (by omega)];simp) (by rw[h5,iF (by simp;omega)]) (fun Ob' m e=>by cases e;rw[hob]) fun id q1 q2 q3=>by rw[h5,iN (Ne.symm q2),iN (Ne.symm q1)]
 rw[←hR]at hv;have hv5:H5[H.length+1+0]?=some (.ak ⟨87,R,true⟩):=by rw[h5,iN (by omega),iN (by omega)];exact hv3
 have hvm:∀j,VV F' (H5++j) R (lD o c):=fun j=>hv.mono fun X hX=>⟨hX,by obtain⟨cs,e⟩:=p5.fr X hX;rw[gE (PS.lt e)]⟩;have hy6:∀j:aa,(H5++j)[H.length+1+0]?=some (.ak ⟨87,R,true⟩):=fun j=>by rw[gE (by omega)];exact hv5
 refine aK ?_;refine KJ ?_ ?_
 ·have p6:=p5.app [aY.ak ⟨4,[b_ false],true⟩];refine ar (zzK rfl ?_);obtain⟨d,hd1,hd2⟩:=p6.free;refine⟨d,jZ hd1 ?_⟩;refine zzU p6.la rfl (zzU p6.la rfl (dY rfl rfl (by simp) ?_));refine zzU (c:=y) p6.lb (by simp;rw[iD (by omega)];simp[hgl]) ?_;refine zzV (hy6 _) (by simp[hRl]) (km (cs:=R) (by simp only[List.drop_zero,bl];rw[Of (by omega)]) hRl rfl hRs (jZ hd2 ?_));simp only[BY,aab,aaN,aaq];refine Jt p6 rfl hN (hvm _) fun H' p7 hl=>?_;exact⟨_,_,Wk.refl _ _ _ (by simp at hl;omega),rfl,⟨_,_,_,_,_,p7⟩,by simp at hl;omega⟩
 ·have p6:=p5.app [aY.ak ⟨4,[b_ true],true⟩];refine ar (zzL rfl (zzU p6.la rfl (dY rfl rfl (by simp) ?_)));refine zzU (c:=y) p6.lb (by simp;rw[iD (by omega)];simp[hgl]) ?_;refine zzV (hy6 _) (by simp[hRl]) ?_;have hlq:∀{K:AV→Prop},K (i_ g.length)→dX y K:=by
   obtain⟨_,z,hz,hh⟩:=p6.hd base.length g (by simp);rw[←hgl]at hz;simp at hz;subst hz;intro K q;rcases hh with⟨rfl,rfl⟩|⟨_,X,rows,rfl,_⟩
   ·exact q
   ·exact q
  refine hlq (km (cs:=zeroV) rfl rfl rfl rfl ?_);simp only[BY,aab,aaN,aaq];refine Ju p6 rfl hN (hvm _) (by simp only[List.drop_zero,bl];rw[Of (by omega)]) fun H' p7 hl=>?_;exact⟨_,_,Wk.refl _ _ _ (by simp at hl;omega),rfl,⟨_,_,_,_,_,p7⟩,by simp at hl;omega⟩
end
section
open Go Go.Aw Go.jh
variable [Laid]
omit [Laid] in
def IB{K:AV→Prop}(ex:x=i_ a)(ey:y=i_ b)(q:K (i_ (max a b))):iy x y K:=by
 subst ex;subst ey;refine⟨rfl, ?_⟩;rw[show (if a<b then b else a)=max a b by omega];exact q
omit [Laid] in
def zzd{K:AV→Prop}(q:K (i_ (max a b))):iy (i_ a) (i_ b) K:=IB rfl rfl q
def wW(c:Int)(l:List Vl):AV:=.agg [i_ (dr l),i_ (cT l),b_ (fc c l)]
def Qk(n:Nat):Prop:=∀(l:List Vl) (c:Int),bP l≤n→aV p_ 65 [.sl 6 (ct l),u1 c] (wW c l)
def Px(hn:n<2^40)(hP:∀n',n'<n→Qk n'):Qk n:=by
 intro l c hz;refine (V65 _ _).aQ (by simp[ki]) (by simp[wW]) ?_;unfold Wb;have hlen:(ct l).length=l.length:=by simp[dz]
 have hll:=lA l;refine gi (by simp) (gi (by simp) ?_);refine zzg (n:=l.length) hlen fun _=>?_;refine aG (α:=Nat) (fun k=>k≤l.length) (fun k=>[i_ k]) (fun k=>[.ak ⟨129,[i_ 0,i_ 0,ff],true⟩,.ak ⟨129,[i_ (dr (l.take k)),i_ (cT (l.take k)),b_ (fc c (l.take k))],true⟩]) (fun k=>l.length-k) 0 (by simp) (by simpa[dr,cT,fc]using Wk.refl _ _ _ (by simp)) ?_;intro k hk;refine zzC ?_;rcases AS k l.length with q|q
 ·obtain⟨⟨kd,tx,nu,un',fl,l2⟩,hx⟩:∃x,l[k]?=some x:=⟨l[k],bY q⟩;have hin:aZ ((k:Int)+1):=by unfold aZ;omega
  have hzv:=tR (eQ hx);rw[zV]at hzv;have hrec:=hP (bP l2) (by omega) l2 (dE kd) (aS _);have d1:=Fi hx;have d2:=Hm hx;have d3:=Hh c hx;rw[ui]at d1;rw[uf]at d2;rw[Dn]at d3;have b1:=rR (l.take k);have b2:=ug (l.take k);have b0:=oT l k;have b3:=rR l2;have b4:=ug l2;have h2len:(ct l2).length=l2.length:=by simp[dz]
  obtain⟨D,hD⟩:∃D,dr (l.take k)=D:=⟨_,rfl⟩;obtain⟨C,hC⟩:∃C,cT (l.take k)=C:=⟨_,rfl⟩;obtain⟨B,hB⟩:∃B,fc c (l.take k)=B:=⟨_,rfl⟩;obtain⟨D2,hD2⟩:∃D,dr l2=D:=⟨_,rfl⟩;obtain⟨C2,hC2⟩:∃C,cT l2=C:=⟨_,rfl⟩;obtain⟨B2,hB2⟩:∃B,fc (dE kd) l2=B:=⟨_,rfl⟩;rw[wW,hD2,hC2,hB2]at hrec;rw[hD]at d1 b1 ⊢;rw[hC]at d2 b2 ⊢;rw[hB]at d3 ⊢;rw[hD2]at d1 b3;rw[hC2]at d2 b4;rw[hB2]at d3;have i1:aZ ((C:Int)+1):=by unfold aZ;omega
  have i2:aZ ((D2:Int)+1):=by unfold aZ;omega
  have i3:aZ ((C:Int)+1+C2):=by unfold aZ;omega
  have i4:aZ ((C:Int)+1+C2+1):=by unfold aZ;omega
  have he:(l2=[])↔l2.length=0:=List.length_eq_zero_iff.symm;refine zzL (by simpa using q) (aK (zzc (dz l) rfl hx (zzY (by simp[kn]) (gi rfl ?_))));rw[ig];refine gd (cs:=[u1 kd,.str tx,i_ nu,.str un',b_ fl,.sl 6 (ct l2)]) rfl rfl rfl rfl (aS _) rfl rfl ?_
  by_cases hc0:dE kd=0
  ·have g0:decide (dE kd=0)=true:=by simpa using hc0
   rw[if_pos hc0]at d1 d2 d3;repeat' (first|(with_reducible first|apply aK|apply ar)|((with_reducible first|apply cS|apply bK|apply cz);rfl;rfl)|((with_reducible apply bQ);rfl;rfl;first|assumption|(unfold aZ;omega))|((with_reducible apply bu);rfl)|((with_reducible apply bt);rfl)|((with_reducible apply aF);rfl;first|rfl|assumption)|((with_reducible apply cd);rfl;first|rfl|assumption)|((with_reducible apply bV);rfl;first|rfl|assumption)|((with_reducible apply cX);rfl)|((with_reducible apply jL);rfl)|((with_reducible apply aR);rfl)|((with_reducible apply aE);rfl;rfl;rfl)|((with_reducible apply gd);rfl;rfl;rfl;rfl;(first|exact aS _|simp);(first|rfl|simp);(first|rfl|simp))|((with_reducible apply cr);rfl;(first|rfl|simp);intro _)|(refine uCon (nj kd) ?_)|((with_reducible apply aW);rfl)|((with_reducible apply eG);rfl)|(with_reducible intro _))
   all_goals
    refine⟨k+1,q,Wk.back (M:=2) (by simp) (by simp) ?_ rfl (by simp[mr];exact⟨jK _ _ (by simp),jK _ _ (by simp)⟩) (by simp[Bd]),by omega⟩;rw[d1,d2,d3];simp[bU]
    grind
  ·have g0:decide (dE kd=0)=false:=by simpa using hc0
   rw[if_neg hc0]at d1 d2 d3;repeat' (first|((with_reducible apply IB);rfl;rfl)|(with_reducible first|apply aK|apply ar)|((with_reducible first|apply bK|apply cz);rfl;rfl)|((with_reducible apply bQ);rfl;rfl;first|assumption|(unfold aZ;omega))|((with_reducible apply bu);rfl)|((with_reducible apply bt);rfl)|((with_reducible apply aF);rfl;first|rfl|assumption)|((with_reducible apply az);rfl;first|rfl|assumption)|((with_reducible apply cd);rfl;first|rfl|assumption)|((with_reducible apply bV);rfl;first|rfl|assumption)|((with_reducible apply cX);rfl)|((with_reducible apply jL);rfl)|((with_reducible apply aR);rfl)|((with_reducible apply aE);rfl;rfl;rfl)|((with_reducible apply gi);first|rfl|simp)|((with_reducible apply gd);rfl;rfl;rfl;rfl;(first|exact aS _|simp);(first|rfl|simp);(first|rfl|simp))|((with_reducible apply bp);rfl)|(refine uCon (nj kd) ?_)|(refine uCon (hrec) ?_)|((with_reducible apply eG);rfl)|(with_reducible intro _))
   all_goals
    refine⟨k+1,q,Wk.back (M:=2) (by simp) (by simp) ?_ rfl (by simp[mr];exact⟨jK _ _ (by simp),jK _ _ (by simp)⟩) (by simp[Bd]),by omega⟩;rw[d1,d2,d3];simp[bU]
    grind
 ·have hk:k=l.length:=by omega
  subst hk;rw[Gt];refine zzK (by simp) (zzV rfl (by simp) (gd (cs:=[i_ (dr l),i_ (cT l),b_ (fc c l)]) rfl rfl rfl rfl (by simp) (by simp) (by simp) (zzV rfl (by simp) ?_)));exact .pure (by simp) (by simp[wW])
def SX:∀n,n<2^40→Qk n:=by
 intro n;induction n using Nat.strongRecOn with
 | _ n ih=>exact fun hn=>Px hn fun n' h=>ih n' h (by omega)
def LF(l:List Vl)(c:Int)(hz:bP l<2^40):aV p_ 65 [.sl 6 (ct l),u1 c] (wW c l):=SX _ hz l c (aS _)
def yQ(l:List Vl)(hz:bP l<2^40):aV p_ 47 [.sl 6 (ct l)] (i_ (ic l)):=by
 refine (V47 _).aQ (by simp[ki]) (by simp) ?_;unfold VP;have hL:=LF l 0 hz;rw[wW]at hL;repeat' (first|((with_reducible apply cS);rfl;rfl)|((with_reducible apply aR);rfl)|((with_reducible apply aE);rfl;rfl;rfl)|((with_reducible apply gi);first|rfl|simp)|((with_reducible apply gd);rfl;rfl;rfl;rfl;(first|exact aS _|simp);(first|rfl|simp);(first|rfl|simp))|(refine uCon (hL) ?_)|((with_reducible apply aW);rfl)|(with_reducible intro _))
 all_goals
  refine .pure (by simp) ?_;simp only[AV.v.injEq,Value.int.injEq,true_and];simp[bU]at *;unfold ic;repeat' split
  all_goals first|rfl|omega|simp_all
end
section
open Go Go.Aw
variable [Laid]
def Qp(c d:AV)(h:aa)(K:AV→aa→Prop):Prop:=
 aB 83 (.agg [u8 0,.str [],i_ 0,.str [],ff]) h fun b a=>qLd p_ c 1 a fun g=>ag .add g d fun i=>qLd p_ c 0 a fun j=>dX j fun k=>ag .lss i k fun l=>af l (qLd p_ c 0 a fun m=>qLd p_ c 1 a fun n=>ag .add n d fun o=>au 6 m o fun p=>iFL 0 true 5 p a fun q=>ah 5 b q a fun e=>ae true 5 b e fun r23=>K r23 e) (bf (.agg [u8 0,.str [],i_ 0,.str [],ff]) [] fun r=>ah 5 b r a fun f=>ae true 5 b f fun r26=>K r26 f)
def WW(a b:AV):ej p_ 100 [a,b] (Qp a b):=mkM Tryz.func100 (sn (.seq (.seq (.draw 12 (oR 0 12 []) [] []) (.two (.seq (.draw 13 (oR 0 13 []) [.op 13 false] []) .nil) .nil)) .nil)) 31 [.cell 4 83]
def QZ(a d:AV)(h:aa)(K:AV→aa→Prop):Prop:=
 qLd p_ a 0 h fun b=>qLd p_ a 1 h fun c=>ag .add c d fun e=>au 6 b e fun f=>iFL 5 false 1 f h fun g=>K g h
def XB(a b:AV):ej p_ 152 [a,b] (QZ a b):=mkM Tryz.func152 (sn (.seq (.draw 14 (oR 0 14 []) [] []) .nil)) 18 [.tmp 4]
def Qv(a:AV)(h:aa)(K:AV→aa→Prop):Prop:=
 qLd p_ a 1 h fun b=>qLd p_ a 0 h fun c=>dX c fun d=>ag .eql b d fun e=>K e h
def W2(a:AV):ej p_ 105 [a] (Qv a):=mkM Tryz.func105 (sn (.seq (.draw 11 (oR 0 11 []) [] []) .nil)) 13 [.tmp 2]
def WH(a:AV)(h:aa)(K:AV→aa→Prop):Prop:=
 qLd p_ a 1 h fun c=>bc [] h fun d o e =>
 iC p_ 100 [a,i_ 0] e fun f b=>qT false 0 1 f fun g=>ag .eql g (u8 13) fun i=>af i (qLd p_ a 1 b fun j=>qBe .add j 1 fun k=>qSt p_ a 1 k b fun l=>eC [a,c] (d [] l)) (qLd p_ a 1 b fun m=>ag .gtr m c fun n=>K n b)
def V98(a:AV):ej p_ 98 [a] (WH a):=mkM Tryz.func98 (sn (sn (.seq (.one (.loop [0,3] [] .nil)) .nil))) 25 [.tmp 2]
def Qr(a m:AV)(h:aa)(K:AV→aa→Prop):Prop:=
 iC p_ 100 [a,i_ 0] h fun e f=>aB 83 (.agg [u8 0,.str [],i_ 0,.str [],ff]) f fun c g=>ah 5 c e g fun b=>iFL 0 false 1 c b fun i=>ag .neq i (u8 9) fun j=>qJo j [a] b (fun k=>iFL 1 false 1 c b fun l=>ag .neq l m fun n=>k n b) fun o d=>af o (K ff d) (qLd p_ a 1 d fun p=>qBe .add p 1 fun q=>qSt p_ a 1 q d fun r=>K tt r)
def WY(a b:AV):ej p_ 102 [a,b] (Qr a b):=mkM Tryz.func102 (sn (sn (.seq (.seq (.aO (oR 0 4 (.aA 3 false (fR 4 4) [0] [11,15]::.op 8 false::[]))) .nil) .nil))) 24 [.tmp 4]
def WI(b:AV)(h:aa)(K:AV→aa→Prop):Prop:=
 bc [i_ 0] h fun e a c =>
 qBe .lss (nx a 0) 3 fun f=>af f (qBe .add (nx a 0) 1 fun g=>eS (.str [62,43,126]) (some (nx a 0)) (some g) fun i=>iC p_ 102 [b,i] c fun j d=>af j (iC p_ 98 [b] d fun o k=>cH .u8 (nx a 0) fun l=>ag .add (u8 2) l fun m=>K m k) (qBe .add (nx a 0) 1 fun n=>eC [b] (e [n] d))) (K (u8 0) c)
def V99(a:AV):ej p_ 99 [a] (WI a):=mkM Tryz.func99 (sn (.seq (sn (.one (.loop [0] [4] .nil))) .nil)) 19 [.tmp 2]
def Qs(a w:AV)(h:aa)(K:AV→aa→Prop):Prop:=
 aB 93 w h fun d x=>bc [qNs] x fun y e z =>
 bf (.agg [u8 0,.str [],u8 0,.str [],ff,i_ 0,i_ 0,ff,qNs]) [] fun A=>aB 99 (.agg [u8 0,.str [],u8 0,.str [],ff,i_ 0,i_ 0,ff,qNs]) z fun b B=>ah 9 b A B fun C=>iC p_ 100 [a,i_ 1] C fun D E=>aB 83 (.agg [u8 0,.str [],i_ 0,.str [],ff]) E fun i F=>ah 5 i D F fun G=>aI (fun j=>iC p_ 100 [a,i_ 0] G fun H I=>aB 83 (.agg [u8 0,.str [],i_ 0,.str [],ff]) I fun f J=>ah 5 f H J fun g=>iFL 0 false 1 f g fun L=>ag .eql L (u8 4) fun M=>af M ((∃d24:Nat,iFL 1 false 1 f g fun N=>bf (.agg [u8 0,.str [],u8 0,.str [],ff,i_ 0,i_ 0,ff,qNs]) [(0,1,(u8 1)),(1,1,N)] fun O=>aN 4 f fun m=>cG (pQ d24 m) (ae false 1 m g fun P=>cG (wj d24 b) (ah 9 b O g fun n=>qLd p_ a 1 n fun Q=>qBe .add Q 1 fun R=>qSt p_ a 1 R n fun S=>eC [a,d,nx e 0,b] (j [P] S))))) (iFL 0 false 1 f g fun T=>ag .eql T (u8 9) fun U=>qJa U [a,d,nx e 0,b,ff,i,f] g (fun V=>iFL 1 false 1 f g fun W=>ag .eql W (.str [46]) fun X=>V X g) fun Y c=>af Y ((∃d48:Nat,iFL 1 false 1 i c fun Z=>bf (.agg [u8 0,.str [],u8 0,.str [],ff,i_ 0,i_ 0,ff,qNs]) [(0,1,(u8 2)),(1,1,Z)] fun a0=>aN 0 i fun o=>cG (pQ d48 o) (ae false 1 o c fun a1=>ag .eql a1 (u8 1) fun a2=>cG (wj d48 b) (ah 9 b a0 c fun p=>qLd p_ a 1 p fun a3=>qBe .add a3 2 fun a4=>qSt p_ a 1 a4 p fun a5=>eC [a,d,nx e 0,b] (j [a2] a5))))) (iFL 0 false 1 f c fun a6=>ag .eql a6 (u8 19) fun a7=>af a7 (iC p_ 152 [a,i_ 0] c fun a8 a9=>iC p_ 151 [a8] a9 fun q b0=>ay 0 q fun b1=>ay 1 q fun b2=>ah 9 b b1 b0 fun r=>qLd p_ a 1 r fun b3=>qBe .add b3 1 fun b4=>qSt p_ a 1 b4 r fun b5=>eC [a,d,nx e 0,b] (j [b2] b5)) (iFL 0 false 1 f c fun b6=>ag .eql b6 (u8 16) fun b7=>af b7 (aI (fun k=>iFL 0 false 1 i c fun s=>ag .eql s (u8 1) fun b8=>af b8 (iFL 1 false 1 i c fun b9=>iC p_ 153 [b9] c fun t c0=>ay 0 t fun c1=>ay 1 t fun c2=>ah 9 b c1 c0 fun c3=>eC [a,d,nx e 0,b] (k [c2] c3)) (ag .eql s (u8 2) fun c4=>af c4 (iFL 1 false 1 i c fun c5=>iQ p_ 152 [a,i_ 1] c fun c6=>ae true 2 d c fun c7=>iQ p_ 154 [c5,c6,c7] c fun u=>ay 0 u fun c8=>ay 1 u fun c9=>ah 9 b c8 c fun d0=>eC [a,d,nx e 0,b] (k [c9] d0)) (eC [a,d,nx e 0,b] (k [ff] c)))) fun d1 v=>qLd p_ a 1 v fun d2=>qBe .add d2 2 fun d3=>qSt p_ a 1 d3 v fun d4=>eC [a,d,nx e 0,b] (j [nx d1 0] d4)) (K (.aw [nx e 0,tt]) c))))) fun d5 l=>bT (nx d5 0) fun d6=>af d6 (K (.aw [qNs,ff]) l) (ae true 9 b l fun d7=>bz 1 9 (.agg [u8 0,.str [],u8 0,.str [],ff,i_ 0,i_ 0,ff,qNs]) [(0,9,d7)] fun d8=>bN false 99 9 104 (nx e 0) d8 l fun d9 e0=>eC [a,d] (y [d9] e0))
def WZ(a b:AV):ej p_ 103 [a,b] (Qs a b):=mkM Tryz.func103 (sn (sn (.one (.loop [0,3] [6] (.one (sn (sn (.join [0,3,6,7] [8] (sn (.one (sn (.two (.seq (.two (.fF [(0,0,false),(1,1,false),(2,0,false),(3,0,false),(4,3,false),(5,4,false),(6,0,false)]) .nil) .nil) (.seq (.aO (oR 0 4 (.aA 3 true (fR 4 3) [0,3,6,7,8,9,10] [37,40]::oR 7 2 []))) (.two (.seq (.two (.fF [(0,0,false),(1,1,false),(2,0,false),(3,0,false),(4,3,false),(5,0,false),(6,4,false),(7,0,false)]) .nil) .nil) (sn (.two .nil (sn (.two (.join [0,3,6,7] [8] (sn (.one (sn (.two .nil (sn (.two (.fF [(0,0,false),(1,1,false),(2,0,false),(3,1,false),(4,1,false),(5,1,false),(6,0,false),(7,0,false),(8,0,false),(9,2,false),(10,0,false)]) .nil)))))) .nil) .nil)))))))))) (sn (.aO (oR 0 2 (.op 2 true::oR 3 2 [])))))))))))) 110 [.tmp 4,.tmp 5]
def Q0(d:AV)(h:aa)(K:AV→aa→Prop):Prop:=
 aB 99 (.agg [u8 0,.str [],u8 0,.str [],ff,i_ 0,i_ 0,ff,qNs]) h fun a l=>iC p_ 101 [d] l fun e b=>ag .eql e (.str [102,105,114,115,116,45,99,104,105,108,100]) fun m=>af m (bf (.agg [i_ 0,i_ 0]) [(1,1,(i_ 1))] fun n=>bf (.agg [u8 0,.str [],u8 0,.str [],ff,i_ 0,i_ 0,ff,qNs]) [(0,1,(u8 9)),(5,2,n)] fun o=>ah 9 a o b fun f=>ae true 9 a f fun r9=>K (.aw [r9,tt]) f) (ag .eql e (.str [108,97,115,116,45,99,104,105,108,100]) fun p=>af p (bf (.agg [i_ 0,i_ 0]) [(1,1,(i_ 1))] fun q=>bf (.agg [u8 0,.str [],u8 0,.str [],ff,i_ 0,i_ 0,ff,qNs]) [(0,1,(u8 10)),(5,2,q)] fun r=>ah 9 a r b fun g=>ae true 9 a g fun r14=>K (.aw [r14,tt]) g) (iC p_ 209 [] b fun s t=>iC p_ 101 [d] t fun u v=>iC p_ 208 [s,u] v fun c i=>iy c (i_ 0) fun w=>cH .u8 w fun x=>ag .add (u8 4) x fun y=>bf (.agg [u8 0,.str [],u8 0,.str [],ff,i_ 0,i_ 0,ff,qNs]) [(0,1,y)] fun j=>qBe .geq c 0 fun z=>qJa z [a,j] i (fun A=>qBe .lss c 5 fun B=>A B i) fun C D=>ah 9 a j D fun k=>ae true 9 a k fun r32=>K (.aw [r32,C]) k))
def XC(a:AV):ej p_ 153 [a] (Q0 a):=mkM Tryz.func153 (sn (sn (sn (.seq (.aO (oR 0 8 (.aA 7 true (fR 8 2) [2,23] [26,28]::oR 10 3 []))) .nil)))) 30 [.cell 2 99,.tmp 3]
def Rw(h:aa)(K:AV→aa→Prop):Prop:=
 bz 11 1 (.str []) [(0,1,(.str [108,105,110,107])),(1,1,(.str [118,105,115,105,116,101,100])),(2,1,(.str [97,110,121,45,108,105,110,107])),(3,1,(.str [114,111,111,116])),(4,1,(.str [101,109,112,116,121])),(5,1,(.str [110,116,104,45,99,104,105,108,100])),(6,1,(.str [110,116,104,45,108,97,115,116,45,99,104,105,108,100])),(7,1,(.str [105,115])),(8,1,(.str [119,104,101,114,101])),(9,1,(.str [110,111,116])),(10,1,(.str [104,97,115]))] fun a=>K a h
def X4:ej p_ 209 [] (Rw):=mkM Tryz.func209 (sn (.seq (.aO [.op 0 true,.op 1 false]) .nil)) 2 [.tmp 0]
def Rx(u c w:AV)(h:aa)(K:AV→aa→Prop):Prop:=
 aB 99 u h fun a v=>aB 93 w v fun x y=>aB 99 (.agg [u8 0,.str [],u8 0,.str [],ff,i_ 0,i_ 0,ff,qNs]) y fun b z=>iC p_ 265 [c,.fn (.func 266) [] []] z fun d e=>aI (fun j=>qBe .geq d 0 fun A=>af A (ae true 2 x e fun B=>iFL 0 false 1 a e fun C=>iC p_ 211 [B,C] e fun k D=>ay 0 k fun E=>ay 1 k fun F=>aB 93 (.agg [i_ 0,ff]) D fun l G=>ah 2 l E G fun f=>qBe .add d 1 fun H=>iB 6 c (some H) none fun I=>ae true 2 l f fun J=>iQ p_ 48 [I,J,ff,ff] f fun m=>ay 0 m fun n=>ay 1 m fun L=>bT F fun M=>qJo M [c,a,b,d,n] f (fun N=>bT L fun O=>N O f) fun P g=>af P (ae true 9 a g fun Q=>ah 9 b Q g fun o=>ae true 9 b o fun r35=>K (.aw [r35,ff]) o) (iB 6 c none (some d) fun R=>aN 7 a fun S=>ah 1 S tt g fun T=>aN 8 a fun U=>ah 1 U n T fun V=>eC [a,b] (j [R] V))) (eC [a,b] (j [c] e))) fun W X=>iC p_ 267 [nx W 0] X fun p i=>ay 0 p fun Y=>ay 1 p fun Z=>qBe .neq Z 0 fun a0=>af a0 (ae true 9 a i fun a1=>ah 9 b a1 i fun q=>ae true 9 b q fun r50=>K (.aw [r50,ff]) q) (iC p_ 268 [Y] i fun r a2=>ay 0 r fun a3=>ay 1 r fun a4=>aN 5 a fun a5=>ah 2 a5 a3 a2 fun s=>ae true 9 a s fun a6=>qBe .eql a4 0 fun a7=>ah 9 b a6 s fun t=>ae true 9 b t fun r60=>K (.aw [r60,a7]) t)
def X5(a b c:AV):ej p_ 210 [a,b,c] (Rx a b c):=mkM Tryz.func210 (sn (sn (.join [3,6] [1] (sn (.two (sn (.seq (.draw 11 (oR 0 11 []) [] []) (.seq (.seq (.aO (oR 0 3 (.aA 2 false (fR 3 2) [1,3,6,8,11] [37,39]::.op 5 false::[]))) .nil) (.fF [(0,0,false),(1,0,false),(2,0,false),(3,0,false),(4,0,false),(5,2,false),(6,0,false),(7,2,false),(8,0,false)])))) .nil)) .nil))) 65 [.cell 6 99,.tmp 7]
def RR(c:AV)(h:aa)(K:AV→aa→Prop):Prop:=
 aB 87 c h fun b a=>aN 0 b fun d=>iFL 0 false 1 d a fun e=>ag .eql e (u8 1) fun f=>qKa f a (fun g=>aN 0 b fun i=>iFL 1 false 1 i a fun j=>iC p_ 148 [j,.str [111,102]] a g) fun k l=>K k l
def Yn(a:AV):ej p_ 266 [a] (RR a):=mkM Tryz.func266 (sn (.seq (.aO (oR 0 5 (.aA 4 true (fR 5 4) [] [7,11]::oR 9 2 []))) .nil)) 13 [.tmp 2]
def Q1(x j s:AV)(h:aa)(K:AV→aa→Prop):Prop:=
 aB 93 s h fun e t=>aB 99 (.agg [u8 0,.str [],u8 0,.str [],ff,i_ 0,i_ 0,ff,qNs]) t fun b u=>iC p_ 209 [] u fun v w=>iC p_ 101 [x] w fun y z=>iC p_ 208 [v,y] z fun f g=>qBe .lss f 5 fun A=>af A (bf (.agg [u8 0,.str [],u8 0,.str [],ff,i_ 0,i_ 0,ff,qNs]) [] fun B=>ah 9 b B g fun i=>ae true 9 b i fun r14=>K (.aw [r14,ff]) i) (cH .u8 f fun C=>ag .add (u8 4) C fun D=>bf (.agg [u8 0,.str [],u8 0,.str [],ff,i_ 0,i_ 0,ff,qNs]) [(0,1,D)] fun E=>aB 99 (.agg [u8 0,.str [],u8 0,.str [],ff,i_ 0,i_ 0,ff,qNs]) g fun a F=>ah 9 a E F fun c=>iFL 0 false 1 a c fun G=>ag .leq G (u8 10) fun H=>af H (ae true 9 a c fun I=>ae true 2 e c fun J=>iC p_ 210 [I,j,J] c fun k L=>ay 0 k fun M=>ay 1 k fun N=>ah 9 b M L fun l=>ae true 9 b l fun r31=>K (.aw [r31,N]) l) (ae true 2 e c fun O=>iFL 0 false 1 a c fun P=>iC p_ 211 [O,P] c fun m Q=>ay 0 m fun R=>ay 1 m fun S=>aB 93 (.agg [i_ 0,ff]) Q fun n T=>ah 2 n R T fun d=>bT S fun U=>af U (ae true 9 a d fun V=>ah 9 b V d fun o=>ae true 9 b o fun r45=>K (.aw [r45,ff]) o) (ae true 2 n d fun W=>iFL 0 false 1 a d fun X=>ag .eql X (u8 14) fun Y=>iFL 0 false 1 a d fun Z=>ag .leq Z (u8 12) fun a0=>iC p_ 48 [j,W,Y,a0] d fun p a1=>ay 0 p fun a2=>ay 1 p fun a3=>aN 8 a fun a4=>ah 1 a4 a2 a1 fun q=>ae true 9 a q fun a5=>ah 9 b a5 q fun r=>ae true 9 b r fun r61=>K (.aw [r61,a3]) r)))
def XD(a b c:AV):ej p_ 154 [a,b,c] (Q1 a b c):=mkM Tryz.func154 .nil 57 [.cell 6 99,.tmp 7]
def VQ(b p e f:AV)(h:aa)(K:AV→aa→Prop):Prop:=
 aB 93 p h fun c q=>aU b fun r=>qBe .add r 1 fun d=>bc [qNs,i_ 0,i_ 0] q fun s a g =>
 ag .lss (nx a 2) d fun t=>af t (aI (fun k=>aU b fun u=>ag .lss (nx a 2) u fun v=>qJa v [b,e,f,c,nx a 0,nx a 1,nx a 2,d,nx a 2] g (fun w=>au 6 b (nx a 2) fun x=>aN 0 x fun y=>iFL 0 false 1 y g fun z=>ag .neq z (u8 18) fun A=>w A g) fun B j=>af B (eC [b,e,f,c,d,nx a 2] (k [nx a 0,nx a 1] j)) (aI (fun l=>iB 6 b (some (nx a 1)) (some (nx a 2)) fun C=>ae true 2 c j fun D=>pf p_ (.fn (.func 66) [] []) [C,D,e] [] fun m=>ay 0 m fun E=>ay 1 m fun F=>aB 118 (.agg [u8 0,qNs,qNs]) j fun n G=>ah 3 n E G fun i=>af F (ae true 3 n i fun H=>bz 1 3 (.agg [u8 0,qNs,qNs]) [(0,3,H)] fun I=>bN false 118 3 56 (nx a 0) I i fun J L=>eC [b,e,f,c,nx a 2,d,nx a 2] (l [J] L)) (bT f fun M=>af M (K (.aw [qNs,ff]) i) (eC [b,e,f,c,nx a 2,d,nx a 2] (l [nx a 0] i)))) fun N O=>qBe .add (nx a 2) 1 fun P=>eC [b,e,f,c,d,nx a 2] (k [nx N 0,P] O))) fun o Q=>qBe .add (nx a 2) 1 fun R=>eC [b,e,f,c,d] (s [nx o 0,nx o 1,R] Q)) (K (.aw [nx a 0,tt]) g)
def V48(a b c d:AV):ej p_ 48 [a,b,c,d] (VQ a b c d):=mkM Tryz.func48 (sn (sn (sn (.seq (sn (.one (.loop [0,2,3,5,17] [10,11,18] (sn (sn (.join [0,2,3,5,17,18] [10,11] (.one (sn (.seq (.seq (.aO (oR 0 5 (.aA 4 true (fR 5 7) [0,2,3,5,10,11,12,17,18] [25,32]::.op 12 false::[]))) .nil) (.join [0,2,3,5,12,17,18] [10] (.seq (.fF [(0,0,false),(1,0,false),(2,0,false),(3,0,false),(4,3,false),(5,0,false),(6,0,false),(7,0,false),(8,0,false),(9,0,false),(10,2,false),(11,2,false),(12,0,false)]) (sn (.two (.aO (oR 0 2 (.op 2 true::oR 3 2 []))) .nil))) .nil)))) .nil)))))) .nil)))) 55 [.tmp 8,.tmp 9]
def Vz(a:AV)(h:aa)(K:AV→aa→Prop):Prop:=
 iC p_ 47 [a] h fun b c=>qBe .neq b 0 fun i=>af i (K (.aw [qNs,b]) c) (bf (.agg [i_ 0,ff]) [] fun j=>iC p_ 48 [a,j,ff,ff] c fun d e=>ay 0 d fun f=>ay 1 d fun k=>bT k fun l=>af l (K (.aw [qNs,i_ 12]) e) (iC p_ 49 [f] e fun m g=>qBe .gtr m 64 fun n=>af n (K (.aw [qNs,i_ 4]) g) (K (.aw [f,i_ 0]) g)))
def ZV(a:AV):ej p_ 30 [a] (Vz a):=mkM Tryz.func30 .nil 26 [.tmp 2,.tmp 3]
def Vo(i:AV)(h:aa)(K:AV→aa→Prop):Prop:=
 iC p_ 28 [i] h fun a b=>ay 0 a fun j=>ay 1 a fun c=>qBe .neq c 0 fun k=>af k (K (.aw [qNs,c]) b) (iC p_ 29 [j] b fun d e=>ay 0 d fun l=>ay 1 d fun f=>qBe .neq f 0 fun m=>af m (K (.aw [qNs,f]) e) (iC p_ 30 [l] e fun g n=>ay 0 g fun o=>ay 1 g fun p=>K (.aw [o,p]) n))
def ZK(a:AV):ej p_ 18 [a] (Vo a):=mkM Tryz.func18 .nil 27 [.tmp 2,.tmp 3]
def RS(a:AV)(h:aa)(K:AV→aa→Prop):Prop:=
 iC p_ 47 [a] h fun b c=>qBe .neq b 0 fun d=>af d (K (.aw [qNs,b]) c) (iC p_ 288 [qNs,a] c fun e f=>K (.aw [e,i_ 0]) f)
def Yo(a:AV):ej p_ 267 [a] (RS a):=mkM Tryz.func267 .nil 12 [.tmp 2,.tmp 3]
def RW(m b:AV)(h:aa)(K:AV→aa→Prop):Prop:=
 aU b fun c=>bc [m,i_ 0] h fun n a e =>
 ag .lss (nx a 1) c fun o=>af o (aI (fun g=>au 6 b (nx a 1) fun p=>ae true 6 p e fun q=>aB 87 (.agg [u8 0,.str [],i_ 0,.str [],ff,qNs]) e fun d r=>ah 6 d q r fun i=>iFL 0 true 5 d i fun s=>bz 1 5 (.agg [u8 0,.str [],i_ 0,.str [],ff]) [(0,5,s)] fun t=>bN false 83 5 56 (nx a 0) t i fun j k=>aN 0 d fun u=>iFL 0 false 1 u k fun v=>iC p_ 46 [v] k fun l f=>ag .neq l (u8 0) fun w=>af w (iFL 5 false 1 d f fun x=>iC p_ 288 [j,x] f fun y z=>bf (.agg [u8 0,.str [],i_ 0,.str [],ff]) [(0,1,l)] fun A=>bz 1 5 (.agg [u8 0,.str [],i_ 0,.str [],ff]) [(0,5,A)] fun B=>bN false 83 5 56 y B z fun C D=>eC [b,c,nx a 1] (g [C] D)) (eC [b,c,nx a 1] (g [j] f))) fun E F=>qBe .add (nx a 1) 1 fun G=>eC [b,c] (n [nx E 0,G] F)) (K (nx a 0) e)
def Ys(a b:AV):ej p_ 288 [a,b] (RW a b):=mkM Tryz.func288 (sn (.seq (sn (.one (.loop [8,9] [0,10] (sn (sn (.join [8,9,10] [0] (.one (sn (.seq (.aO (oR 0 3 (.op 3 true::oR 4 2 []))) (sn (sn (.two (.aO (oR 0 6 (.op 6 true::oR 7 2 []))) .nil)))))) .nil)))))) .nil)) 35 [.tmp 4]
def RX(a:AV)(h:aa)(K:AV→aa→Prop):Prop:=
 bc [] h fun d r b =>
 qLd p_ a 0 b fun e=>aU e fun f=>qBe .gtr f 0 fun g=>qJa g [a] b (fun i=>qLd p_ a 0 b fun j=>au 5 j (i_ 0) fun k=>iFL 0 false 1 k b fun l=>ag .eql l (u8 13) fun m=>i m b) fun n c=>af n (qLd p_ a 0 c fun o=>iB 5 o (some (i_ 1)) none fun p=>qSt p_ a 0 p c fun q=>eC [a] (d [] q)) (K (.aw []) c)
def Yt(a:AV):Body p_ 289 [a] (RX a):=mkB Tryz.func289 (.one (.loop [0] [] (.seq (.seq (.aO (oR 0 7 (.aA 6 true (fR 7 8) [0] [8,16]::.op 15 false::[]))) .nil) .nil))) 26 []
def K8(a r:AV)(h:aa)(K:AV→aa→Prop):Prop:=
 aB 83 (.agg [u8 0,.str [],i_ 0,.str [],ff]) h fun b c=>qLd p_ a 0 c fun k=>aU k fun l=>qBe .eql l 0 fun m=>qJo m [a,b] c (fun n=>qLd p_ a 0 c fun o=>au 5 o (i_ 0) fun p=>iFL 0 false 1 p c fun q=>ag .neq q r fun s=>n s c) fun t d=>af t (bf (.agg [u8 0,.str [],i_ 0,.str [],ff]) [] fun u=>ah 5 b u d fun e=>ae true 5 b e fun r21=>K (.aw [r21,ff]) e) (qLd p_ a 0 d fun v=>au 5 v (i_ 0) fun w=>ae true 5 w d fun x=>aB 83 (.agg [u8 0,.str [],i_ 0,.str [],ff]) d fun f y=>ah 5 f x y fun g=>qLd p_ a 0 g fun z=>iB 5 z (some (i_ 1)) none fun A=>qSt p_ a 0 A g fun i=>ae true 5 f i fun B=>ah 5 b B i fun j=>ae true 5 b j fun r39=>K (.aw [r39,tt]) j)
def Qo(a b:AV):Body p_ 306 [a,b] (K8 a b):=mkB Tryz.func306 (sn (.seq (.seq (.aO (oR 0 7 (.aA 6 false (fR 7 9) [0,4] [13,22]::.op 16 false::[]))) .nil) .nil)) 40 [.cell 4 83,.tmp 5]
def G9(a:AV)(h:aa)(K:AV→aa→Prop):Prop:=
 qLd p_ a 0 h fun f=>aU f fun g=>qBe .eql g 0 fun i=>qJo i [a] h (fun j=>qLd p_ a 0 h fun k=>au 5 k (i_ 0) fun l=>iFL 0 false 1 l h fun m=>ag .neq m (u8 9) fun n=>j n h) fun o c=>af o (K (i_ 0) c) (qLd p_ a 0 c fun p=>au 5 p (i_ 0) fun q=>iFL 1 false 1 q c fun r=>iC p_ 85 [.str [45,32,43],r] c fun s b=>qBe .sub s 1 fun e=>qLd p_ a 0 b fun t=>au 5 t (i_ 0) fun u=>iFL 1 false 1 u b fun v=>ag .eql v (.str [43]) fun w=>qJo w [a,e] b (fun x=>qLd p_ a 0 b fun y=>au 5 y (i_ 0) fun z=>iFL 1 false 1 z b fun A=>ag .eql A (.str [45]) fun B=>x B b) fun C d=>af C (qLd p_ a 0 d fun D=>iB 5 D (some (i_ 1)) none fun E=>qSt p_ a 0 E d fun F=>K e F) (K (i_ 0) d))
def K7(a:AV):Body p_ 309 [a] (G9 a):=mkB Tryz.func309 (sn (.seq (.seq (.aO (oR 0 7 (.aA 6 false (fR 7 8) [0] [10,18]::.op 15 false::[]))) .nil) (sn (.seq (.seq (.aO (oR 0 9 (.aA 8 false (fR 9 8) [0,3] [37,45]::.op 17 false::[]))) .nil) .nil)))) 56 [.tmp 2]
def RZ(m:AV)(h:aa)(K:AV→aa→Prop):Prop:=
 iC p_ 306 [m,u8 10] h fun c n=>ay 0 c fun o=>ay 1 c fun d=>aB 83 (.agg [u8 0,.str [],i_ 0,.str [],ff]) n fun b p=>ah 5 b o p fun a=>iFL 2 false 1 b a fun q=>qBe .quo q 1000 fun r=>aI (fun e=>aL d true (aN 4 b fun f=>ae false 1 f a fun s=>e [f,s] a) (e [un,un] a)) fun t _=>bG d (nx t 1) ff fun g=>aI (fun i=>aL g true (aN 2 b fun j=>ae false 1 j a fun k=>qBe .rem k 1000 fun l=>qBe .eql l 0 fun u=>i [j,k,l,u] a) (i [un,un,un,un] a)) fun v _=>bG g (nx v 3) ff fun w=>K (.aw [r,w]) a
def Yv(a:AV):Body p_ 305 [a] (RZ a):=mkB Tryz.func305 (sn (sn (.seq (.draw 16 (oR 0 5 (.aA 4 true (fR 5 2) [] [16,17]::oR 7 2 (.aA 8 true (fR 9 4) [] [20,21,22,23]::oR 13 3 []))) [] []) .nil))) 25 [.tmp 2,.tmp 3]
def R0(a b:AV)(h:aa)(K:AV→aa→Prop):Prop:=
 aI (fun i=>ag .eql b (.str [45]) fun u=>af u (eC [a] (i [i_ (-1)] h)) (ag .neq b (.str []) fun v=>af v (iC p_ 307 [b,.str [45]] h fun j k=>ay 0 j fun c=>ay 1 j fun w=>bT w fun x=>qJo x [c] k (fun y=>iC p_ 322 [c,.str [48,49,50,51,52,53,54,55,56,57]] k fun z A=>ag .neq z (.str []) fun B=>y B A) fun C l=>af C (K (.aw [i_ 0,ff]) l) (iC p_ 323 [c,i_ 10,i_ 64] l fun m n=>ay 0 m fun d=>ay 1 m fun D=>aI (fun o=>iH true (uA D) fun E=>qJo E [d] n (fun F=>qBe .gtr d 1000000000 fun G=>F G n) fun H p=>af H (o [i_ 1000000000] p) (o [d] p)) fun I J=>sQ (nx I 0) fun L=>K (.aw [L,tt]) J)) (iC p_ 289 [a] h fun Y e=>qLd p_ a 0 e fun M=>aU M fun N=>qBe .eql N 0 fun O=>af O (K (.aw [i_ 0,tt]) e) (iC p_ 309 [a] e fun P Q=>eC [a] (i [P] Q))))) fun q R=>iC p_ 289 [a] R fun Z S=>iC p_ 305 [a] S fun r f=>ay 0 r fun g=>ay 1 r fun s=>qBe .eql (nx q 0) 0 fun T=>af T (K (.aw [g,s]) f) (ag .mul (nx q 0) g fun t=>qJa s [t] f (fun U=>qBe .geq g 0 fun V=>U V f) fun W X=>K (.aw [t,W]) X)
def Yw(a b:AV):Body p_ 308 [a,b] (R0 a b):=mkB Tryz.func308 (sn (sn (.join [0] [6] (.one (sn (.two .nil (sn (.two (sn (.seq (.seq (.aO (oR 0 3 (.aA 2 false (fR 3 3) [7] [36,39]::.op 6 false::[]))) .nil) (sn (.join [] [9] (.seq (.aO (oR 0 3 (.aA 2 false (fR 3 2) [9] [48,50]::.op 5 false::[]))) .nil) .nil)))) .nil))))) (sn (sn (sn (.seq (.aO (oR 0 5 (.aA 4 true (fR 5 2) [67] [69,71]::oR 7 3 []))) .nil))))))) 73 [.tmp 4,.tmp 5]
def RY(b:AV)(h:aa)(K:AV→aa→Prop):Prop:=
 aB 97 (.agg [i_ 0,i_ 0]) h fun a M=>iC p_ 305 [b] M fun o p=>ay 0 o fun N=>ay 1 o fun O=>af O (bf (.agg [i_ 0,i_ 0]) [(1,1,N)] fun P=>ah 2 a P p fun q=>ae true 2 a q fun r9=>K (.aw [r9,tt]) q) (iC p_ 306 [b,u8 12] p fun r Q=>ay 0 r fun R=>ay 1 r fun S=>aB 83 (.agg [u8 0,.str [],i_ 0,.str [],ff]) Q fun c T=>ah 5 c R T fun f=>af S (iFL 3 false 1 c f fun U=>iC p_ 101 [U] f fun V W=>iC p_ 307 [V,.str [110]] W fun s g=>ay 0 s fun i=>ay 1 s fun X=>bT X fun Y=>qJo Y [b,a,c,i] g (fun Z=>iFL 4 false 1 c g fun a0=>bT a0 fun a1=>Z a1 g) fun a2 j=>qJo a2 [b,a,c,i] j (fun a3=>iFL 2 false 1 c j fun a4=>qBe .rem a4 1000 fun a5=>qBe .neq a5 0 fun a6=>a3 a6 j) fun a7 t=>af a7 (bf (.agg [i_ 0,i_ 0]) [] fun a8=>ah 2 a a8 t fun u=>ae true 2 a u fun r43=>K (.aw [r43,ff]) u) (iC p_ 308 [b,i] t fun v w=>ay 0 v fun a9=>ay 1 v fun b0=>iFL 2 false 1 c w fun b1=>qBe .quo b1 1000 fun b2=>bf (.agg [i_ 0,i_ 0]) [(0,1,b2),(1,1,a9)] fun b3=>ah 2 a b3 w fun x=>ae true 2 a x fun r53=>K (.aw [r53,b0]) x)) (iC p_ 309 [b] f fun k b4=>iC p_ 306 [b,u8 1] b4 fun y b5=>ay 0 y fun b6=>ay 1 y fun b7=>aB 83 (.agg [u8 0,.str [],i_ 0,.str [],ff]) b5 fun l b8=>ah 5 l b6 b8 fun z=>bT b7 fun b9=>qJo b9 [b,a,k,l] z (fun c0=>qBe .lss k 0 fun c1=>c0 c1 z) fun c2 m=>af c2 (bf (.agg [i_ 0,i_ 0]) [] fun c3=>ah 2 a c3 m fun A=>ae true 2 a A fun r71=>K (.aw [r71,ff]) A) (iFL 1 false 1 l m fun c4=>iC p_ 101 [c4] m fun d e=>aI (fun n=>qBe .eql k 0 fun c5=>af c5 (ag .eql d (.str [111,100,100]) fun c6=>af c6 (bf (.agg [i_ 0,i_ 0]) [(0,1,(i_ 2)),(1,1,(i_ 1))] fun c7=>ah 2 a c7 e fun B=>ae true 2 a B fun r81=>K (.aw [r81,tt]) B) (ag .eql d (.str [101,118,101,110]) fun c8=>af c8 (bf (.agg [i_ 0,i_ 0]) [(0,1,(i_ 2))] fun c9=>ah 2 a c9 e fun C=>ae true 2 a C fun r85=>K (.aw [r85,tt]) C) (iC p_ 307 [d,.str [45]] e fun D E=>ay 0 D fun d0=>ay 1 D fun d1=>af d1 (eC [b,a] (n [d0,i_ (-1)] E)) (eC [b,a] (n [d,i_ 1] E))))) (eC [b,a] (n [d,i_ 1] e))) fun F d2=>iC p_ 307 [nx F 0,.str [110]] d2 fun G H=>ay 0 G fun d3=>ay 1 G fun d4=>bT d4 fun d5=>af d5 (bf (.agg [i_ 0,i_ 0]) [] fun d6=>ah 2 a d6 H fun I=>ae true 2 a I fun r99=>K (.aw [r99,ff]) I) (iC p_ 308 [b,d3] H fun J d7=>ay 0 J fun d8=>ay 1 J fun d9=>bf (.agg [i_ 0,i_ 0]) [(0,1,(nx F 1)),(1,1,d8)] fun e0=>ah 2 a e0 d7 fun L=>ae true 2 a L fun r106=>K (.aw [r106,d9]) L))))
def Yu(a:AV):Body p_ 290 [a] (RY a):=mkB Tryz.func290 (sn (sn (.seq (sn (sn (.two (sn (.seq (.seq (.aO (oR 0 3 (.aA 2 false (fR 3 3) [0,2,6,8] [46,49]::oR 6 2 (.aA 7 false (fR 8 4) [0,2,6,8] [51,55]::.op 12 false::[])))) .nil) .nil)) .nil))) (sn (sn (.seq (.seq (.aO (oR 0 3 (.aA 2 false (fR 3 2) [0,2,12,13] [79,81]::.op 5 false::[]))) .nil) (sn (.join [0,2] [15,16] .nil .nil)))))))) 121 [.cell 2 97,.tmp 3]
def RT(l:AV)(h:aa)(K:AV→aa→Prop):Prop:=
 aB 97 (.agg [i_ 0,i_ 0]) h fun a k=>bf (.agg [qNs]) [(0,1,l)] fun m=>aB 336 m k fun c n=>iC p_ 289 [c] n fun I o=>iC p_ 290 [c] o fun g p=>ay 0 g fun q=>ay 1 g fun r=>aB 97 (.agg [i_ 0,i_ 0]) p fun b s=>ah 2 b q s fun t=>iC p_ 289 [c] t fun J d=>bT r fun u=>qJo u [a,b] d (fun v=>qLd p_ c 0 d fun w=>aU w fun x=>qBe .gtr x 0 fun y=>v y d) fun z e=>qJo z [a,b] e (fun A=>ae true 2 b e fun B=>iC p_ 216 [B] e fun C D=>qBe .neq C 0 fun E=>A E D) fun F f=>af F (bf (.agg [i_ 0,i_ 0]) [] fun G=>ah 2 a G f fun i=>ae true 2 a i fun r37=>K (.aw [r37,i_ 12]) i) (ae true 2 b f fun H=>ah 2 a H f fun j=>ae true 2 a j fun r40=>K (.aw [r40,i_ 0]) j)
def Yp(a:AV):Body p_ 268 [a] (RT a):=mkB Tryz.func268 (sn (sn (sn (sn (sn (.seq (.seq (.aO (oR 0 3 (.aA 2 false (fR 3 6) [2,5] [21,27]::oR 9 2 (.aA 10 false (fR 11 3) [2,5] [29,32]::.op 14 false::[])))) .nil) .nil)))))) 36 [.cell 2 97,.tmp 3]
end
section
open Go Go.Aw Go.RowKit
abbrev lG(l:List Tok):aY:=.ak ⟨336,[.sl 5 (cM l)],true⟩
def Rd(id:Nat)(h:aa)(l:List Tok):Prop:=h[id]?=some (lG l)
def Rd.lt{id:Nat}(r:Rd id h l):id<h.length:=(dO.1 r).1
def Rd.set{id:Nat}(r:Rd id h l)(m:List Tok):Rd id (h.set id (lG m)) m:=iF r.lt
def Rd.app{id:Nat}(r:Rd id h l)(j:aa):Rd id (h++j) l:=by
 unfold Rd;rw[gE r.lt];exact r
def Mr(id:Nat)(l:List Tok)(h h':aa):Prop:=∃j,h'=h.set id (lG l)++j
def Mr.len{id:Nat}(g:Mr id l h h'):h.length≤h'.length:=by obtain⟨j,rfl⟩:=g;simp
def Mr.rd{id:Nat}(r:Rd id h l0)(g:Mr id l h h'):Rd id h' l:=by
 obtain⟨j,rfl⟩:=g;exact (r.set l).app j
def Mr.trans{id:Nat}(hl:id<h.length)(x:Mr id l h h')(y:Mr id m h' h''):Mr id m h h'':=by
 obtain⟨j,rfl⟩:=x;obtain⟨k,rfl⟩:=y;exact⟨j++k,by rw[Mk _ _ (by simpa using hl),aam,TO]⟩
def Mr.other{id:Nat}(g:Mr id l h h')(hi:i<h.length)(hne:i≠id):h'[i]?=h[i]?:=by
 obtain⟨j,rfl⟩:=g;rw[gE (by simpa using hi),iN (Ne.symm hne)]
def Mr.set(id:Nat)(l:List Tok)(h:aa):Mr id l h (h.set id (lG l)):=⟨[],by simp⟩
def Mr.tail{id:Nat}(g:Mr id l h h')(k:aa):Mr id l h (h'++k):=by
 obtain⟨j,rfl⟩:=g;exact⟨j++k,by rw[TO]⟩
def Mr.refl{id:Nat}(r:Rd id h l):Mr id l h h:=⟨[],by rw[jV r];simp⟩
def Mr.uK{id T:Nat}(m:Mr id l h H)(hT:h.length≤T)(e:aY):Mr id l h (H.set T e):=by
 obtain⟨j,rfl⟩:=m;exact⟨j.set (T-h.length) e,by rw[Lt _ _ (by simpa using hT)];simp⟩
def Mr.new{id:Nat}(hid:id<h.length)(m:Mr id l (h++k) H):Mr id l h H:=by
 obtain⟨j,rfl⟩:=m;exact⟨k++j,by rw[Mk _ _ hid,TO]⟩
def KC{K:AV→Prop}(ex:x=.v (.int k a))(ey:y=.v (.int k b))(h0:b≠0)(hc:a.tmod b=c)(q:K (.v (.int k c))):ag .rem x y K:=by
 subst ex;subst ey;subst hc;exact⟨rfl,h0,q⟩
def ES{K:AV→Prop}(ex:x=.v (.int k a))(ey:y=.v (.int k b))(h0:b≠0)(hc:k.wrap (a.tdiv b)=c)(q:K (.v (.int k c))):ag .quo x y K:=by
 subst ex;subst ey;subst hc;exact⟨rfl,h0,q⟩
def sG{K:AV→Prop}(ex:x=.sl 5 (cM (t:: l)))(q:K (.ip t.row)):au 5 x (i_ 0) K:=by
 refine KP (n:=0) ex rfl (by simp) ?_;exact q
def K9{K:AV→Prop}(ex:x=.sl 5 (cM (t:: l)))(q:K (.sl 5 (cM l))):iB 5 x (some (i_ 1)) none K:=by
 refine Nj ex (by simp) ?_;exact q
def NG(k:Int):List Tok→Prop
 | []=>True
 | t:: _=>t.k≠k
variable [Laid]
theorem Mh{id:Nat}{sp l:List Tok}{K:AV→aa→Prop}(r:Rd id h (sp++l))(ex:x=.op id 0)(hs:∀t∈sp,t.k=13)(hl:NG 13 l)(hn:sp.length+l.length≤2^20)(k:K (.aw []) (h.set id (lG l))):
 bA p_ (.fn (.func 289) [] []) [x] h K:=by
 subst ex;refine cu (by kernel_rfl) rfl (K0:=fun v h' => v=.aw []∧h'=h.set id (lG l)) ?_ ?_
 ·refine (Yt _).bR ?_;unfold RX;refine aG (α:=List Tok×List Tok) (fun x=>sp=x.1++x.2) (fun _=>[]) (fun x=>h.set id (lG (x.2++l))) (fun x=>x.2.length) ([],sp) rfl (by rw[jV r];exact Wk.refl _ _ _ (aS _)) ?_;rintro⟨p,q⟩ e;have e:sp=p++q:=e;have r':=r.set (q++l);show ca _ _ _;refine bD (zzA (zzU r' rfl (pA rfl (zzE (aK ?_)))));cases q with
  | cons t q =>
    have ht:t.k=13:=hs t (by rw[e];simp);refine zzN (tO (by simp<;>omega)) (bD (zzA (zzU r' rfl (sG rfl (zzX (zzW (zzG (ar (zzR (zzL (tO ht) (bD (zzA (zzU r' rfl ?_)))))))))))));refine K9 rfl (bD (zzA (aM (cs:=[.sl 5 (cM (q++l))]) (h':=h.set id (lG (q++l))) rfl r' rfl rfl (by simp) rfl rfl (by rw[aam];rfl) (ar ?_))));exact⟨(p++[t],q),by rw[e];simp,Wk.refl _ _ _ (by simp),by simp⟩
  | nil =>
    have fin:∃r' h'',Wk h.length [AV.aw []] (h.set id (lG ([]++l))) [r'] h''∧r'=.aw []∧h''=h.set id (lG l):=⟨_,_,Wk.refl _ _ _ (by simp),rfl,rfl⟩;cases l with
    | nil =>
      refine zzM rfl (ar (zzQ (zzK rfl ?_)));exact fin
    | cons t l =>
      refine zzN (tO (by simp<;>omega)) (bD (zzA (zzU r' rfl (sG rfl (zzX (zzW (zzG (ar (zzR (zzK (oF hl) ?_))))))))));exact fin
 ·rintro _ _ ⟨rfl,rfl⟩;exact k
def Pv{id:Nat}{kd:Int}{K:AV→aa→Prop}(r:Rd id h (t:: l))(ex:x=.op id 0)(ht:t.k=kd)(hn:l.length≤2^20)(k:∀H,Mr id l h H→K (.aw [t.av,tt]) H):
 bA p_ (.fn (.func 306) [] []) [x,u8 kd] h K:=by
 subst ex;have hid:=r.lt;refine cu (by kernel_rfl) rfl (K0:=fun v h' => v=.aw [t.av,tt]∧Mr id l h h') ?_ ?_
 ·refine (Qo _ _).bR ?_;unfold K8;refine bq (cs:=[u8 0,.str [],i_ 0,.str [],ff]) (n:=h.length) (h':=h++[cm 0 [] 0 [] false]) rfl (by simp[bw]) rfl rfl ?_;have r2:=r.app [cm 0 [] 0 [] false];have hV:(h++[cm 0 [] 0 [] false])[h.length]?=some (cm 0 [] 0 [] false):=by simp
  have hL:(h++[cm 0 [] 0 [] false]).length=h.length+1:=by simp
  have m0:∀{H m},Mr id m (h++[cm 0 [] 0 [] false]) H→Mr id m h H:=fun m=>m.new hid;generalize h++[cm 0 [] 0 [] false]=H at r2 hV hL m0;refine bD (zzA (zzU r2 rfl (pA rfl (zzG (aK (zzN (oF (by simp<;>omega)) (bD (zzA (zzU r2 rfl (sG rfl (zzX (zzW (zzH ?_)))))))))))));refine ar (zzQ (zzK (by simp[ht]) (bD (zzA (zzU r2 rfl (sG rfl (zzY rfl (bq (cs:=[u8 0,.str [],i_ 0,.str [],ff]) (n:=H.length) (h':=H++[cm 0 [] 0 [] false]) rfl (by simp[bw]) rfl rfl (aM (cs:=t.row) (h':=H++[aY.ak ⟨83,t.row,true⟩]) rfl (b:=⟨83,[u8 0,.str [],i_ 0,.str [],ff],true⟩) (by simp) rfl rfl (by simp) rfl (by simp[bw]) (by rw[Lt _ _ (aS _)];simp) ?_)))))))));have r3:=r2.app [aY.ak ⟨83,t.row,true⟩];refine bD (zzA (zzU r3 rfl (K9 rfl (bD (zzA (aM (cs:=[.sl 5 (cM l)]) (h':=(H++[aY.ak ⟨83,t.row,true⟩]).set id (lG l)) rfl r3 rfl rfl (by simp) rfl rfl rfl ?_))))));refine zzV (b:=⟨83,t.row,true⟩) (by rw[iN (by omega)];simp) (by simp) ?_;refine pY (k:=t.k) (t:=t.t) (n:=t.n) (u:=t.u) (f:=t.f) (K:=fun r39 g38=>∃r' h'',Wk h.length [.aw [r39,tt]] g38 [r'] h''∧r'=.aw [t.av,tt]∧Mr id l h h'') (k0:=0) (t0:=[]) (n0:=0) (u0:=[]) (f0:=false) (by rw[iN (by omega),gE (by omega)];exact hV) ?_;have m1:Mr id l h ((H++[aY.ak ⟨83,t.row,true⟩]).set id (lG l)):=m0 ⟨[aY.ak ⟨83,t.row,true⟩],by rw[Mk _ _ (by omega)]⟩;exact⟨_,_,Wk.refl _ _ _ (by simp;omega),rfl,m1.uK (aS _) _⟩
 ·rintro _ H ⟨rfl,m⟩;exact k H m
theorem Gv{id:Nat}{kd:Int}{K:AV→aa→Prop}(r:Rd id h l)(ex:x=.op id 0)(ht:NG kd l)(hn:l.length≤2^20)(k:∀H,Mr id l h H→K (.aw [uS 0 [] 0 [] false,ff]) H):
 bA p_ (.fn (.func 306) [] []) [x,u8 kd] h K:=by
 subst ex;have hid:=r.lt;refine cu (by kernel_rfl) rfl (K0:=fun v h' => v=.aw [uS 0 [] 0 [] false,ff]∧Mr id l h h') ?_ ?_
 ·refine (Qo _ _).bR ?_;unfold K8;refine bq (cs:=[u8 0,.str [],i_ 0,.str [],ff]) (n:=h.length) (h':=h++[cm 0 [] 0 [] false]) rfl (by simp[bw]) rfl rfl ?_;have r2:=r.app [cm 0 [] 0 [] false];have hV:(h++[cm 0 [] 0 [] false])[h.length]?=some (cm 0 [] 0 [] false):=by simp
  have m1:Mr id l h (h++[cm 0 [] 0 [] false]):=(Mr.refl r).tail _;have fin:ah 5 (.op h.length 0) (uS 0 [] 0 [] false) (h++[cm 0 [] 0 [] false]) fun g20=>ae true 5 (.op h.length 0) g20 fun r21=>∃r' h'',Wk h.length [.aw [r21,ff]] g20 [r'] h''∧r'=.aw [uS 0 [] 0 [] false,ff]∧Mr id l h h'':=by
   refine pY hV ?_;exact⟨_,_,Wk.refl _ _ _ (by simp),rfl,m1.uK (aS _) _⟩
  refine bD (zzA (zzU r2 rfl (pA rfl (zzG (aK ?_)))));cases l with
  | nil =>
    refine zzM rfl (ar (zzR (zzL rfl (bp rfl ?_))));exact fin
  | cons t l =>
    refine zzN (oF (by simp<;>omega)) (bD (zzA (zzU r2 rfl (sG rfl (zzX (zzW (zzH (ar (zzQ ?_)))))))));have ht:¬t.k=kd:=ht;refine zzL (by simp[ht]) (bp rfl ?_);exact fin
 ·rintro _ H ⟨rfl,m⟩;exact k H m
end
section
open Go Go.Aw Go.RowKit
def L6(l:ao):∀a,a≤l.foldl (fun n b=>10*n+yX b) a:=by
 induction l with
 | nil=>intro a;exact aS _
 | cons b l ih=>intro a;rw[List.foldl_cons];exact aat (by omega) (ih _)
theorem xF:∀(l:ao) (a:Nat),(∀b∈l,48≤b.toNat∧b.toNat≤57)→a≤2^64-1→Lib.parseUintM (2^64-1) a l=if l.foldl (fun n b=>10*n+yX b) a≤2^64-1 then .ok (l.foldl (fun n b=>10*n+yX b) a) else .range
 | [],a,_,ha=>by rw[Lib.parseUintM,List.foldl_nil,if_pos ha]
 | b:: l,a,hd,ha=>by
   have hb:=hd b (aaJ ..);rw[List.foldl_cons];have hg:=L6 l (10*a+yX b);have e:a*10+(b.toNat-48)=10*a+yX b:=by unfold yX;omega
   rw[Lib.parseUintM,if_pos hb,e]
   by_cases h1:1844674407370955162≤a
   ·rw[if_pos h1,if_neg (by omega)]
   ·rw[if_neg h1]
    by_cases h2:2^64-1<10*a+yX b
    ·rw[if_pos h2,if_neg (by omega)]
    ·rw[if_neg h2];exact xF l _ (fun x hx=>hd x (MK _ hx)) (by omega)
def Fq(hd:Sn d):Lib.parseIntB 64 d=if sU d<2^63 then .ok (sU d) else .range:=by
 obtain⟨hn,hd⟩:=hd;cases d with
 | nil=>exact absurd rfl hn
 | cons c r =>
   have hc:=hd c (aaJ ..);unfold Lib.parseIntB;have h1:¬(c.toNat=43∨c.toNat=45):=by omega
   have h2:¬c.toNat=45:=by omega
   simp only[if_neg h1];unfold Lib.parseUintB;rw[if_neg hn,xF (c:: r) 0 hd (by omega)];have h4:(c:: r).foldl (fun n b=>10*n+yX b) 0=sU (c:: r):=rfl;rw[h4]
   by_cases h3:sU (c:: r)<2^63
   ·rw[if_pos (by omega),if_pos h3];simp only[h2];rw[if_neg (by omega)];simp
   ·rw[if_neg h3]
    by_cases h5:sU (c:: r)≤2^64-1
    ·rw[if_pos h5];simp only[h2];rw[if_pos ⟨by simp,by omega⟩]
    ·rw[if_neg h5]
theorem drop_nil{p:UInt8→Bool}:∀{l:ao},l.dropWhile p=[]→∀b∈l,p b=true
 | [],_,b,hb=>by cases hb
 | x:: l,h,b,hb=>by
   rw[List.dropWhile_cons]at h
   by_cases q:p x=true
   ·rw[if_pos q]at h;rcases IS.1 hb with rfl|hb
    ·exact q
    ·exact drop_nil h b hb
   ·rw[if_neg q]at h;cases h
def M0(h:Lib.trimS d lL=[]):∀b∈d,48≤b.toNat∧b.toNat≤57:=by
 unfold Lib.trimS Lib.trimRightS Lib.trimLeftS at h;have hin:∀b:UInt8,lL.contains b=true→48≤b.toNat∧b.toNat≤57:=fun b hb=>by
  have:b∈lL:=by simpa using hb
  simp[lL]at this;rcases this with rfl|rfl|rfl|rfl|rfl|rfl|rfl|rfl|rfl|rfl<;>decide
 have hall:=drop_nil h;have hnil:d.reverse.dropWhile (fun x=>lL.contains x)=[]:=by
  cases e:d.reverse.dropWhile (fun x=>lL.contains x) with
  | nil=>rfl
  | cons x r =>
    have h1:=hall x (by rw[e];simp);have h2:=List.head_dropWhile_not (fun x=>lL.contains x) (l:=d.reverse) (by rw[e];simp);simp only[e,List.head_cons]at h2;rw[h1]at h2;cases h2
 intro b hb;exact hin b (drop_nil hnil b (by simpa using hb))
variable [bB]
def Cr(l:ao)(hl:l.length≤2^31)(h:Lib.parseIntB 64 l=.range):aV p_ 323 [.str l,i_ 10,i_ 64] (.aw [i_ (Lib.intSat 64 l),.fJ 379 .any]):=by
 refine⟨by simp[aq],by simp[aq,Aw.Pure], ?_⟩;intro base ι S w vs h1 h2;have hg:=(h2.gl 4 [.v bB.er] rfl).1.get 0 (.v bB.er) rfl;obtain⟨u,hu,_,hr⟩:=hg;rw[cE]at hr;subst hr;rw[aaq]at hu
 match vs,h1 with
 | [],h1=>simp at h1
 | [v],h1=>simp at h1
 | [v,u],h1=>simp at h1
 | v:: u:: x:: y:: vs,h1=>simp at h1
 | [v,u,x],h1 =>
   simp only[bL,di,and_true,dG,cE]at h1;obtain⟨⟨rfl,_⟩,rfl,rfl⟩:=h1;refine (Any.strconv_ParseInt_10_at64_range laysC174 ⟨l.toArray⟩ (by simp[ByteArray.size];omega) (by simpa using h) bB.er w hu bB.Sp).mono ?_;rintro e w' ⟨N,rfl,_,_,hB⟩;have hE:bM ι.length w.heap.size ι S w ι S w':=⟨fun _ _=>eW.refl _,fun _ _ q=>q,fun _ _ q=>.inl q,fun b o q=>hB.cell (h2.fV b o q),fun b x hx=>by
    unfold World.shape? at hx ⊢;have hb:b<w.heap.size:=by
     rcases AS b w.heap.size with k|k
     ·exact k
     ·rw[aaT k]at hx;cases hx
    rw[hB.block b hb];exact hx,hB⟩
   refine⟨_,ι,S,_,[],rfl,hE.mono (by rw[h2.len];exact aS _) h2.ji, ?_,h2.over hE (fun b o q=>UP (h2.fV b o q) hB.size),aS _,rfl⟩;simp[ax]
   kernel_rfl
end
section
open Go Go.Aw Go.RowKit
def Hw[Laid](s:ao)(c:UInt8):aV p_ 85 [.str s,.str [c]] (i_ (Lib.indexByte s c)):=by
 refine gV (v:=.int .i64 (Lib.indexByte s c)) (by simp[aq]) (by simp) (by simp) (fun w=>by simp) ?_;intro ι S w vs h1 hg
 match vs,h1 with
 | [],h1=>simp at h1
 | [v],h1=>simp at h1
 | v:: u:: x:: vs,h1=>simp at h1
 | [v,u],h1 =>
   simp only[bL,di,and_true,dG]at h1;obtain⟨⟨rfl,_⟩,rfl,_⟩:=h1;refine (Any.strings_Index_one lays143 ⟨s.toArray⟩ c w).mono ?_;rintro e w' ⟨rfl,rfl⟩;exact⟨rfl,Below.refl _ _⟩
theorem Gs[Laid]{id:Nat}{K:AV→aa→Prop}(r:Rd id h l)(ex:x=.op id 0)(ht:NG 9 l)(k:K (i_ 0) h):
 bA p_ (.fn (.func 309) [] []) [x] h K:=by
 subst ex;refine cu (by kernel_rfl) rfl (K0:=fun v h' => v=i_ 0∧h'=h) ?_ ?_
 ·refine (K7 _).bR ?_;unfold G9;have fin:∃r' h'',Wk h.length [i_ 0] h [r'] h''∧r'=i_ 0∧h''=h:=⟨_,_,Wk.refl _ _ _ (aS _),rfl,rfl⟩;refine bD (zzA (zzU r rfl (pA rfl (zzG (aK ?_)))));cases l with
  | nil =>
    refine zzM rfl (ar (zzR (zzL rfl ?_)));exact fin
  | cons t l =>
    refine zzN (oF (by simp<;>omega)) (bD (zzA (zzU r rfl (sG rfl (zzX (zzW (zzH (ar (zzQ ?_)))))))));have ht:¬t.k=9:=ht;refine zzL (by simp[ht]) ?_;exact fin
 ·rintro _ _ ⟨rfl,rfl⟩;exact k
def Gu[Laid]{id:Nat}{K:AV→aa→Prop}(r:Rd id h (⟨9,[c],n,u,f⟩:: l))(ex:x=.op id 0)(hc:c=43∨c=45)(k:K (i_ (if c=43 then 1 else -1)) (h.set id (lG l))):
 bA p_ (.fn (.func 309) [] []) [x] h K:=by
 subst ex;refine cu (by kernel_rfl) rfl (K0:=fun v h' => v=i_ (if c=43 then 1 else -1)∧h'=h.set id (lG l)) ?_ ?_
 ·refine (K7 _).bR ?_;unfold G9;have hd:∀{K:AV→Prop},K (.str [c])→ca p_ (.op id 0) fun v17=>aN 0 v17 fun v18=>ae false 1 v18 h fun v19=>au 5 v19 (i_ 0) fun v20=>aN 1 v20 fun v21=>ae false 1 v21 h K:=by
   intro K q;refine bD (zzA (zzU r rfl (sG rfl (zzX ?_))));exact zzW q
  refine bD (zzA (zzU r rfl (pA rfl (zzG (aK (zzN (oF (by simp<;>omega)) (bD (zzA (zzU r rfl (sG rfl (zzX (zzW (zzH ?_)))))))))))));refine ar (zzQ (zzK rfl (hd (uCon (Hw _ c) ?_))));have hib:Lib.indexByte [45,32,43] c-1=(if c=43 then 1 else -1):=by rcases hc with rfl|rfl<;>decide
  refine zzf (by rw[hib];split<;>(unfold aZ;decide)) ?_;rw[hib];have fin:ca p_ (.op id 0) fun v44=>aN 0 v44 fun v45=>ae false 1 v45 h fun v46=>iB 5 v46 (some (i_ 1)) none fun v47=>ca p_ (.op id 0) fun v48=>aN 0 v48 fun v49=>ah 1 v49 v47 h fun g50=>∃r' h'',Wk h.length [i_ (if c=43 then 1 else -1)] g50 [r'] h''∧r'=i_ (if c=43 then 1 else -1)∧h''=h.set id (lG l):=by
   refine bD (zzA (zzU r rfl (K9 rfl (bD (zzA (aM (cs:=[.sl 5 (cM l)]) (h':=h.set id (lG l)) rfl r rfl rfl (by simp) rfl rfl rfl ?_))))));exact⟨_,_,Wk.refl _ _ _ (by simp),rfl,rfl⟩
  refine hd (zzI (aK ?_));rcases hc with rfl|rfl
  ·refine zzM rfl (ar (zzR (zzL rfl ?_)));exact fin
  ·refine zzN rfl (hd (zzI (ar (zzQ (zzL rfl ?_)))));exact fin
 ·rintro _ _ ⟨rfl,rfl⟩;exact k
end
section
open Go Go.Aw Go.RowKit
def Cg(l:List Tok):∃sp,l=sp++dT l∧(∀t∈sp,t.k=13)∧NG 13 (dT l):=by
 induction l with
 | nil=>exact⟨[],rfl,by simp,trivial⟩
 | cons t r ih =>
   rw[dT]
   by_cases h:t.k=13
   ·rw[if_pos h];obtain⟨sp,h1,h2,h3⟩:=ih;refine⟨t:: sp, ?_, ?_,h3⟩
    ·rw[aaQ,←h1]
    ·intro x hx;rcases IS.1 hx with rfl|hx
     ·exact h
     ·exact h2 x hx
   ·rw[if_neg h];exact⟨[],rfl,by simp,h⟩
def index_le:∀(s p:ao),-1≤Lib.index s p∧Lib.index s p≤s.length:=by
 intro s p;induction s with
 | nil=>unfold Lib.index;split<;>simp
 | cons b s ih =>
   unfold Lib.index;split
   ·simp;omega
   ·split
    ·simp;omega
    ·simp;omega
def oU(l:List Tok):Prop:=l.length≤2^16∧∀t∈l,(-10^15≤t.n∧t.n≤10^15)∧t.t.length≤2^20∧t.u.length≤2^20
def oU.sub(h:oU l)(hs:m.Sublist l):oU m:=⟨aat hs.length_le h.1,fun t ht=>h.2 t (hs.subset ht)⟩
def qp(l:List Tok):(dT l).Sublist l:=by
 obtain⟨sp,h,_⟩:=Cg l;have:=List.sublist_append_right sp (dT l);rw[←h]at this;exact this
def jX{kd:Int}(h:nD kd l=some (t,l')):l=t:: l'∧t.k=kd:=by
 cases l with
 | nil=>cases h
 | cons x r =>
   rw[nD]at h;split at h
   ·cases h;exact⟨rfl,by assumption⟩
   ·cases h
def uL(l:List Tok):(jD l).2.Sublist l:=by
 cases l with
 | nil=>exact List.Sublist.refl _
 | cons t r =>
   rw[jD];split
   ·exact List.sublist_cons_self ..
   ·split
    ·exact List.sublist_cons_self ..
    ·exact List.Sublist.refl _
def MR(l:List Tok):(jD l).1=0∨(jD l).1=1∨(jD l).1=-1:=by
 cases l with
 | nil=>exact .inl rfl
 | cons t r =>
   rw[jD];split
   ·exact .inr (.inl rfl)
   ·split
    ·exact .inr (.inr rfl)
    ·exact .inl rfl
def mD(l:List Tok):(dm l).2.Sublist l:=by
 unfold dm;cases h:nD 10 l with
 | none=>exact List.Sublist.refl _
 | some x =>
   obtain⟨t,r⟩:=x;rw[(jX h).1];exact List.sublist_cons_self ..
def Bm(h:-10^15≤n∧n≤10^15):-10^12≤n.tdiv 1000∧n.tdiv 1000≤10^12:=by
 have h1:=Int.tdiv_mul_le n (b:=1000) (by decide);rcases Int.le_total 0 n with k|k
 ·rw[Int.tdiv_eq_ediv_of_nonneg k];omega
 ·have:n=-(-n):=by omega
  rw[this,Int.neg_tdiv,Int.tdiv_eq_ediv_of_nonneg (by omega)];omega
def Qb(h:oU l):-10^12≤(dm l).1.1∧(dm l).1.1≤10^12:=by
 unfold dm;cases e:nD 10 l with
 | none=>simp
 | some x =>
   obtain⟨t,r⟩:=x;exact Bm (h.2 t (by rw[(jX e).1];simp)).1
section
variable [Laid]
def se{id:Nat}{K:AV→aa→Prop}(r:Rd id h l)(ex:x=.op id 0)(hn:l.length≤2^20)(k:K (.aw []) (h.set id (lG (dT l)))):
 bA p_ (.fn (.func 289) [] []) [x] h K:=by
 obtain⟨sp,h1,h2,h3⟩:=Cg l;have hl:=congrArg List.length h1;simp at hl;exact Mh (by rw[←h1];exact r) ex h2 h3 (by omega) k
theorem Ay{id:Nat}{kd:Int}{K:AV→aa→Prop}(r:Rd id h l)(ex:x=.op id 0)(hn:l.length≤2^20)
 (k1:∀t l',nD kd l=some (t,l')→∀H,Mr id l' h H→K (.aw [t.av,tt]) H) (k2:nD kd l=none→∀H,Mr id l h H→K (.aw [uS 0 [] 0 [] false,ff]) H) :
 bA p_ (.fn (.func 306) [] []) [x,u8 kd] h K:=by
 cases l with
 | nil=>exact Gv r ex trivial hn (k2 rfl)
 | cons t l =>
   by_cases hk:t.k=kd
   ·exact Pv r ex hk (by simp at hn;omega) (k1 t l (by rw[nD,if_pos hk]))
   ·exact Gv r ex hk hn (k2 (by rw[nD,if_neg hk]))
theorem D6{id:Nat}{K:AV→aa→Prop}(r:Rd id h l)(ex:x=.op id 0)(hl:oU l)(k:∀H,Mr id (dm l).2 h H→K (.aw [i_ (dm l).1.1,b_ (dm l).1.2]) H):
 bA p_ (.fn (.func 305) [] []) [x] h K:=by
 subst ex;refine cu (by kernel_rfl) rfl (K0:=fun v h' => v=.aw [i_ (dm l).1.1,b_ (dm l).1.2]∧Mr id (dm l).2 h h') ?_ (by rintro _ H ⟨rfl,m⟩;exact k H m);refine (Yv _).bR ?_;unfold RZ;have hn:=hl.1;refine Ay r rfl (by omega) (fun t l' e H m1=>?_) (fun e H m1=>?_)
 ·have hb:=hl.2 t (by rw[(jX e).1];simp);have hd:=Bm hb.1;have ew:dm l=((t.n.tdiv 1000,t.f&&decide (t.n.tmod 1000=0)),l'):=by unfold dm;rw[e]
  rw[ew];refine br rfl rfl (br rfl rfl (bq (cs:=[u8 0,.str [],i_ 0,.str [],ff]) (n:=H.length) (h':=H++[cm 0 [] 0 [] false]) rfl (by simp[bw]) rfl rfl (aM (cs:=t.row) (h':=H++[.ak ⟨83,t.row,true⟩]) rfl (b:=⟨83,[u8 0,.str [],i_ 0,.str [],ff],true⟩) (by simp) rfl rfl (by simp) rfl (by simp[bw]) (by rw[Lt _ _ (aS _)];simp) ?_)));have hV:(H++[aY.ak ⟨83,t.row,true⟩])[H.length]?=some (.ak ⟨83,t.row,true⟩):=by simp
  refine zzA (zzU hV rfl (ES (c:=t.n.tdiv 1000) rfl rfl (by decide) (by rw[IntKind.wrap_i64];omega) ?_));have fin:∀b,b=(t.f&&decide (t.n.tmod 1000=0))→∃r' h'',Wk h.length [AV.aw [i_ (t.n.tdiv 1000),b_ b]] (H++[aY.ak ⟨83,t.row,true⟩]) [r'] h''∧r'=.aw [i_ (t.n.tdiv 1000),b_ (t.f&&decide (t.n.tmod 1000=0))]∧Mr id l' h h'':=by
   rintro _ rfl;exact⟨_,_,Wk.refl _ _ _ (by have:=m1.len;simp;omega),rfl,m1.tail _⟩
  refine aK (zzN rfl (zzA (zzU hV rfl (zzR (aK ?_)))));cases hf:t.f with
  | true =>
    rw[hf]at fin;refine zzN rfl (zzA (zzU hV rfl (KC rfl rfl (by decide) rfl (zzG (zzR ?_)))));exact fin _ (by simp)
  | false =>
    rw[hf]at fin;refine zzM rfl (zzQ ?_);exact fin _ rfl
 ·have ew:dm l=((0,false),l):=by unfold dm;rw[e]
  rw[ew];refine br rfl rfl (br rfl rfl (bq (cs:=[u8 0,.str [],i_ 0,.str [],ff]) (n:=H.length) (h':=H++[cm 0 [] 0 [] false]) rfl (by simp[bw]) rfl rfl (aM (cs:=[u8 0,.str [],i_ 0,.str [],ff]) (h':=H++[cm 0 [] 0 [] false]) rfl (b:=⟨83,[u8 0,.str [],i_ 0,.str [],ff],true⟩) (by simp) rfl rfl (by simp) rfl (by simp[bw]) (by rw[Lt _ _ (aS _)];simp) ?_)));have hV:(H++[cm 0 [] 0 [] false])[H.length]?=some (cm 0 [] 0 [] false):=by simp
  refine zzA (zzU hV rfl (ES (c:=0) rfl rfl (by decide) (by decide) (aK (zzM rfl (zzQ (aK (zzM rfl (zzQ ?_))))))));exact⟨_,_,Wk.refl _ _ _ (by have:=m1.len;simp;omega),rfl,m1.tail _⟩
end
variable [bB]
theorem Gr{id:Nat}{K:AV→aa→Prop}(r:Rd id h l)(ex:x=.op id 0)(hl:oU l)(k:∀H,Mr id (jD l).2 h H→K (i_ (jD l).1) H):
 bA p_ (.fn (.func 309) [] []) [x] h K:=by
 cases l with
 | nil=>exact Gs r ex trivial (k h (Mr.refl r))
 | cons t l =>
   by_cases hk:t.k=9
   ·by_cases h1:t.t=[43]
    ·obtain⟨tk,tt',tn,tu,tf⟩:=t;subst hk;subst h1;exact Gu (c:=43) r ex (.inl rfl) (k _ (Mr.set _ _ _))
    by_cases h2:t.t=[45]
    ·obtain⟨tk,tt',tn,tu,tf⟩:=t;subst hk;subst h2;exact Gu (c:=45) r ex (.inr rfl) (k _ (Mr.set _ _ _))
    have e:jD (t:: l)=(0,t:: l):=by rw[jD,if_neg (by simp[h1]),if_neg (by simp[h2])]
    rw[e]at k;subst ex;refine cu (by kernel_rfl) rfl (K0:=fun v h' => v=i_ 0∧h'=h) ?_ (by rintro _ _ ⟨rfl,rfl⟩;exact k _ (Mr.refl r));refine (K7 _).bR ?_;unfold G9;have hd:∀{K:AV→Prop},K (.str t.t)→ca p_ (.op id 0) fun v17=>aN 0 v17 fun v18=>ae false 1 v18 h fun v19=>au 5 v19 (i_ 0) fun v20=>aN 1 v20 fun v21=>ae false 1 v21 h K:=by
     intro K q;refine bD (zzA (zzU r rfl (sG rfl (zzX ?_))));exact zzW q
    refine bD (zzA (zzU r rfl (pA rfl (zzG (aK (zzN (oF (by simp<;>omega)) (bD (zzA (zzU r rfl (sG rfl (zzX (zzW (zzH ?_)))))))))))));refine ar (zzQ (zzK (by simp[hk]) (hd (cu (by kernel_rfl) rfl (zY [45,32,43] t.t (by simp) h) ?_))));rintro _ _ ⟨rfl,rfl⟩;have hi:=index_le [45,32,43] t.t;simp at hi;refine zzf (by unfold aZ;omega) (hd (zzI (aK (zzN (oF h1) (hd (zzI (ar (zzQ (zzK (oF h2) ?_)))))))));exact⟨_,_,Wk.refl _ _ _ (aS _),rfl,rfl⟩
   ·have e:jD (t:: l)=(0,t:: l):=by rw[jD,if_neg (by simp[hk]),if_neg (by simp[hk])]
    rw[e]at k;exact Gs r ex hk (k h (Mr.refl r))
end
section
open Go Go.Aw Go.RowKit
variable [bB]
def EI(sg:Int)(l:List Tok):(Int×Bool)×List Tok:=if sg=0 then dm (dT l) else ((sg*(dm (dT l)).1.1,(dm (dT l)).1.2&&decide (0≤(dm (dT l)).1.1)),(dm (dT l)).2)
omit [bB] in
def vw(l:List Tok):fC [] l=match dT l with|[]=>((0,true),[])|t:: r=>EI (jD (t:: r)).1 (jD (t:: r)).2:=by
 unfold fC Hi;rw[if_neg (by decide),if_neg (by decide),if_neg (by simp)];cases dT l with
 | nil=>rfl
 | cons t r=>rfl
theorem BW{id:Nat}{K:AV→aa→Prop}(r:Rd id h l)(ex:x=.op id 0)(hl:oU l)(hw:w.length≤2^20)(k:∀H,Mr id (fC w l).2 h H→K (.aw [i_ (fC w l).1.1,b_ (fC w l).1.2]) H):
 bA p_ (.fn (.func 308) [] []) [x,.str w] h K:=by
 subst ex;have hid:=r.lt;refine cu (by kernel_rfl) rfl (K0:=fun v h' => v=.aw [i_ (fC w l).1.1,b_ (fC w l).1.2]∧Mr id (fC w l).2 h h') ?_ (by rintro _ H ⟨rfl,m⟩;exact k H m);refine (Yw _ _).bR ?_;unfold R0;refine cL (fun s H=>∃sg l1,s=[i_ sg]∧(sg=0∨sg=1∨sg=-1)∧oU l1∧Mr id l1 h H∧fC w l=EI sg l1) ?_ ?_
 ·rintro _ H ⟨sg,l1,rfl,hsg,ol1,m1,e⟩;rw[e];have r1:=m1.rd r;refine se r1 rfl (by have:=ol1.1;omega) ?_;have o2:oU (dT l1):=ol1.sub (qp l1);have r2:=r1.set (dT l1);refine D6 r2 rfl o2 fun H2 m2=>?_;have hwi:=Qb o2;have m:Mr id (dm (dT l1)).2 h H2:=m1.trans hid ((Mr.set id (dT l1) H).trans (by have:=m1.len;omega) m2);have hH2:=m.len;refine br rfl rfl (br rfl rfl (zzG ?_))
  by_cases hz:sg=0
  ·refine zzL (tO hz) ?_;have e2:EI sg l1=dm (dT l1):=if_pos hz;rw[e2];exact⟨_,_,Wk.refl _ _ _ hH2,rfl,m⟩
  ·refine zzK (oF hz) ?_;have e2:EI sg l1=((sg*(dm (dT l1)).1.1,(dm (dT l1)).1.2&&decide (0≤(dm (dT l1)).1.1)),(dm (dT l1)).2):=if_neg hz;rw[e2];refine Im rfl rfl (by unfold aZ;rcases hsg with rfl|rfl|rfl<;>omega) (aK ?_);have fin:∀b,b=((dm (dT l1)).1.2&&decide (0≤(dm (dT l1)).1.1))→∃r' h'',Wk h.length [AV.aw [i_ (sg*(dm (dT l1)).1.1),b_ b]] H2 [r'] h''∧r'=.aw [i_ (sg*(dm (dT l1)).1.1),b_ ((dm (dT l1)).1.2&&decide (0≤(dm (dT l1)).1.1))]∧Mr id (dm (dT l1)).2 h h'':=by
    rintro _ rfl;exact⟨_,_,Wk.refl _ _ _ hH2,rfl,m⟩
   cases hb:(dm (dT l1)).1.2 with
   | true =>
     rw[hb]at fin;refine zzN rfl (zzF (ar (zzR ?_)));exact fin _ (by simp)
   | false =>
     rw[hb]at fin;refine zzM rfl (ar (zzQ ?_));exact fin _ (by simp)
 ·intro F hF;refine zzI ?_
  by_cases h1:w=[45]
  ·refine zzL (tO h1) (ar ?_);refine hF _ _ ⟨-1,l,rfl,.inr (.inr rfl),hl,Mr.refl r, ?_⟩;unfold fC;rw[if_pos h1];rfl
  refine zzK (oF h1) (zzJ ?_)
  by_cases h2:w=[]
  ·subst h2;refine zzK rfl (se r rfl (by have:=hl.1;omega) ?_);have o2:oU (dT l):=hl.sub (qp l);have r2:=r.set (dT l);rw[vw];rw[vw]at hF;refine bD (zzA (zzU r2 rfl (pA rfl (zzG ?_))));cases hs:dT l with
   | nil =>
     rw[hs]at hF;refine zzL rfl ?_;exact⟨_,_,Wk.refl _ _ _ (by simp),rfl,Mr.set _ _ _⟩
   | cons t q =>
     rw[hs]at hF r2 o2;refine zzK (oF (by simp<;>omega)) ?_;refine Gr r2 rfl o2 fun H m=>?_;refine ar ?_;exact hF _ _ ⟨_,_,rfl,MR _,o2.sub (uL _),(Mr.set id _ h).trans hid m,rfl⟩
  ·refine zzL (by simp[h2]) ?_;have hM:fC w l=(if Lib.hasPrefix w [45]=false∨Lib.trimS (Lib.trimPrefix w [45]) lL≠[] then ((0,false),l) else ((-((min (sU (Lib.trimPrefix w [45])) 1000000000:Nat):Int),true),l)):=by
    unfold fC Hi;rw[if_neg h1,if_neg h1,if_pos h2]
   have hlen:(Lib.trimPrefix w [45]).length≤2^20:=by
    unfold Lib.trimPrefix;split
    ·rw[List.length_drop];omega
    ·exact hw
   refine uCon (uh w [45] (by omega)) ?_;obtain⟨d,hd⟩:∃d,Lib.trimPrefix w [45]=d:=⟨_,rfl⟩;rw[hd]at hM hlen ⊢;refine br rfl rfl (br rfl rfl (zzO (aK ?_)));have bad:fC w l=((0,false),l)→∃r' h'',Wk h.length [AV.aw [i_ 0,ff]] h [r'] h''∧r'=.aw [i_ (fC w l).1.1,b_ (fC w l).1.2]∧Mr id (fC w l).2 h h'':=by
    intro e;rw[e];exact⟨_,_,Wk.refl _ _ _ (aS _),rfl,Mr.refl r⟩
   by_cases h3:Lib.hasPrefix w [45]=false
   ·rw[if_pos (.inl h3)]at hM;refine zzM (by simp[h3]) (ar (bu (by simp[h3]) (zzL rfl ?_)));exact bad hM
   have h3:Lib.hasPrefix w [45]=true:=by simpa using h3
   refine zzN (by simp[h3]) ?_;have hle:(Lib.trimS d lL).length≤d.length:=by
    unfold Lib.trimS Lib.trimLeftS Lib.trimRightS;have e1:=(List.dropWhile_sublist (fun x=>lL.contains x) (l:=(d.reverse.dropWhile (fun x=>lL.contains x)).reverse)).length_le;have e2:=(List.dropWhile_sublist (fun x=>lL.contains x) (l:=d.reverse)).length_le;simp at e1 e2 ⊢;omega
   refine uCon (I4 d lL (by omega) (by decide) (fun b hb=>by simp[lL]at hb;rcases hb with rfl|rfl|rfl|rfl|rfl|rfl|rfl|rfl|rfl|rfl<;>decide) (by omega)) (zzJ (ar (zzQ ?_)))
   by_cases h4:Lib.trimS d lL=[]
   ·refine zzK (by simp[h4]) ?_;rw[if_neg (fun z=>z.elim (fun z=>by rw[h3]at z;cases z) fun z=>z h4)]at hM;have hdg:Sn d:=by
     refine⟨fun e=>?_,M0 h4⟩;subst e;unfold Lib.trimPrefix at hd;rw[if_pos h3]at hd;unfold Lib.hasPrefix at h3;cases w with
     | nil=>exact h2 rfl
     | cons a w =>
       simp[List.isPrefixOf]at h3 hd;subst h3;subst hd;exact h1 rfl
    have fin:∀v:Int,v=((min (sU d) 1000000000:Nat):Int)→sQ (nx [i_ v] 0) fun v29=>∃r' h'',Wk h.length [AV.aw [v29,tt]] h [r'] h''∧r'=.aw [i_ (fC w l).1.1,b_ (fC w l).1.2]∧Mr id (fC w l).2 h h'':=by
     rintro _ rfl;rw[kq,D1,hM];refine⟨by unfold aZ;omega, ?_⟩;exact⟨_,_,Wk.refl _ _ _ (aS _),by rw[Int.zero_sub],Mr.refl r⟩
    have hp:=Fq hdg
    by_cases h5:sU d<2^63
    ·rw[if_pos h5]at hp;refine uCon (DD d _ (by omega) hp) (br rfl rfl (br rfl rfl (aK ?_)));show iH true (some true) _;rw[vM];refine aK (zzN rfl (zzE (ar (zzQ ?_))))
     by_cases h6:(1000000000:Int)<sU d
     ·refine zzL (tO h6) ?_;exact fin _ (by omega)
     ·refine zzK (oF h6) ?_;exact fin _ (by omega)
    ·rw[if_neg h5]at hp;refine uCon (Cr d (by omega) hp) (br rfl rfl (br rfl rfl (aK ?_)));show iH true (some false) _;rw[vM];refine aK (zzM rfl (ar (zzR (zzL rfl ?_))));exact fin _ (by omega)
   ·refine zzL (by simp[h4]) ?_;rw[if_pos (.inr h4)]at hM;exact bad hM
end
end Go.Proofs.YtkfakehconamoaaGreatDoor
end
