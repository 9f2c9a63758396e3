/-
 What functions of the translation ask,held against their code by the kernel. Printed by a program.
 No conditions.
-/
import Derived.Test.YtpcnidmmkknndaaGreatDoorProg
import Derived.KernelRfl
import Derived.Shelf.Strconv.Itoa4
import Derived.Lib.AppendIntMem
import Derived.Lib.ItoaNum
import Derived.Test.YtpcnidmmkknndaaGreatDoorZc
import Derived.Test.YtpcnidmmkknndaaGreatDoorZd
import Derived.Test.YtpcnidmmkknndaaGreatDoorZe
import Derived.Test.YtpcnidmmkknndaaGreatDoorZg
set_option linter.unusedVariables false
set_option linter.unusedSimpArgs false
set_option linter.unusedSectionVars false
set_option linter.defProp false
set_option autoImplicit true
set_option maxRecDepth 1000000
set_option maxHeartbeats 16000000
open Go.Proofs.Tryz renaming prog→p_
noncomputable section
namespace Go.Proofs.YtpcnidmmkknndaaGreatDoor
section
open Go Go.Aw
variable [Laid]
def XW(e:AV)(h:aa)(K:AV→aa→Prop):Prop:=
 aV 70 e h fun b c=>ah true 5 b c fun f=>iC p_ 84 [f] c fun g a=>cr g fun i=>af i (K (.ay [.str [],i_ 8]) a) (ah true 5 b a fun j=>iC p_ 85 [qNs,j] a fun k d=>cP k d fun l=>K (.ay [l,i_ 0]) d)
def V52(a:AV):Body p_ 52 [a] (XW a):=bC Tryz.func52 .nil 10 [.tmp 2,.tmp 3]
def Yn(d9:AV)(h:aa)(K:AV→aa→Prop):Prop:=
 aV 70 d9 h fun a v=>iFL 1 false 1 a v fun e0=>iFL 3 false 1 a v fun e1=>ag .add e0 e1 fun e2=>iC p_ 72 [e2,u8 0] v fun e3 u=>qBe .lss e3 0 fun d=>aG (fun l=>iFL 0 false 1 a u fun c=>aG (fun w=>ag .eql c (u8 1) fun e4=>af e4 (eC [a,ff,ff,ff,ff,d,c] (w [tt] u)) (ag .eql c (u8 2) fun e5=>af e5 (eC [a,ff,ff,ff,ff,d,c] (w [tt] u)) (ag .eql c (u8 3) fun e6=>eC [a,ff,ff,ff,ff,d,c] (w [e6] u)))) fun e7 i=>af (nx e7 0) (aG (fun O=>aM d true (bg 1 a fun P=>ah false 1 P i fun Q=>ag .neq Q (.str []) fun e8=>O [P,Q,e8] i) (O [un,un,un] i)) fun e9 _=>bQ d (nx e9 2) ff fun f0=>eC [a] (l [tt,ff,ff,ff,f0] i)) (ag .eql c (u8 4) fun f1=>af f1 (qJa d [a,tt,ff,ff,tt] i (fun f2=>iFL 1 false 1 a i fun f3=>ag .neq f3 (.str []) fun f4=>f2 f4 i) fun R x=>aG (fun S=>aM R true (iFL 4 false 1 a x fun f5=>eC [a,tt,ff,ff,tt] (S [tt,f5] x)) (eC [a,tt,ff,ff,tt] (S [cd true R,un] x))) fun g y=>aG (fun T=>aM (nx g 1) false (iFL 1 false 1 a y fun f6=>iC p_ 113 [f6] y fun f7 f8=>eC [a,tt,ff,ff,tt,nx g 0] (T [ff,f7] f8)) (eC [a,tt,ff,ff,tt,nx g 0] (T [(cd false (nx g 1)),un] y))) fun m z=>aG (fun U=>aM (nx m 1) true (iFL 1 false 1 a z fun f9=>iC p_ 59 [f9,.str [45,45]] z fun g0 g1=>cr g0 fun g2=>eC [a,tt,ff,ff,tt,nx g 0,nx m 0] (U [tt,g2] g1)) (eC [a,tt,ff,ff,tt,nx g 0,nx m 0] (U [(cd true (nx m 1)),un] z))) fun V W=>aG (fun X=>aM (nx m 0) false (bQ (nx V 0) (nx V 1) ff fun g3=>eC [a,tt,ff,ff,tt,nx g 0] (X [ff,g3] W)) (eC [a,tt,ff,ff,tt,nx g 0] (X [(cd false (nx m 0)),un] W))) fun Y Z=>aG (fun a0=>aM (nx g 0) true (bQ (nx Y 0) tt (nx Y 1) fun g4=>eC [a,tt,ff,ff,tt] (a0 [tt,g4] Z)) (eC [a,tt,ff,ff,tt] (a0 [(cd true (nx g 0)),un] Z))) fun n A=>aG (fun a1=>aM (nx n 1) false (iFL 1 false 1 a A fun g5=>ag .eql g5 (.str [45]) fun g6=>eC [a,tt,ff,ff,tt,nx n 0] (a1 [ff,g6] A)) (eC [a,tt,ff,ff,tt,nx n 0] (a1 [(cd false (nx n 1)),un] A))) fun a2 a3=>qJa (nx n 0) [a,tt,ff,ff,tt] a3 (fun g7=>bQ (nx a2 0) tt (nx a2 1) fun g8=>g7 g8 a3) fun g9 i0=>eC [a] (l [tt,ff,ff,tt,g9] i0)) (aG (fun a4=>ag .eql c (u8 5) fun i1=>af i1 (eC [a,ff,ff,ff,ff,d,c] (a4 [tt] i)) (ag .eql c (u8 7) fun i2=>eC [a,ff,ff,ff,ff,d,c] (a4 [i2] i))) fun i3 k=>af (nx i3 0) (eC [a] (l [tt,ff,ff,ff,d] k)) (ag .eql c (u8 9) fun i4=>af i4 (qJa d [a,tt,ff,ff,ff] k (fun i5=>iFL 1 false 1 a k fun i6=>cZ i6 fun i7=>qBe .eql i7 1 fun i8=>i5 i8 k) fun i9 B=>qJa i9 [a,tt,ff,ff,ff] B (fun j0=>iFL 1 false 1 a B fun j1=>eD j1 (i_ 0) fun j2=>iC p_ 114 [j2] B fun j3 j4=>cr j3 fun j5=>j0 j5 j4) fun j6 C=>qJo j6 [a,tt,ff,ff,ff] C (fun j7=>iFL 1 false 1 a C fun j8=>ag .eql j8 (.str [45]) fun j9=>j7 j9 C) fun k0 D=>qJa k0 [a,tt,ff,ff,ff] D (fun k1=>iFL 1 false 1 a D fun k2=>iC p_ 115 [.str [32,9,10,12,13,34,39,58,59,44,91,93,40,41,123,125],k2] D fun k3 k4=>cr k3 fun k5=>k1 k5 k4) fun k6 k7=>eC [a] (l [tt,ff,ff,ff,k6] k7)) (aG (fun E=>ag .eql c (u8 10) fun k8=>af k8 (eC [a,ff,ff,ff,ff,d] (E [tt] k)) (ag .eql c (u8 11) fun k9=>af k9 (eC [a,ff,ff,ff,ff,d] (E [tt] k)) (ag .eql c (u8 12) fun l0=>eC [a,ff,ff,ff,ff,d] (E [l0] k)))) fun l1 j=>af (nx l1 0) (iFL 0 false 1 a j fun l2=>ag .eql l2 (u8 12) fun e=>iFL 0 false 1 a j fun l3=>ag .neq l3 (u8 11) fun f=>qJa d [a,ff,e,tt,f] j (fun l4=>iFL 2 false 1 a j fun l5=>qBe .geq l5 (-1000000000000) fun l6=>l4 l6 j) fun l7 F=>qJa l7 [a,ff,e,tt,f] F (fun l8=>iFL 2 false 1 a F fun l9=>qBe .leq l9 1000000000000 fun m0=>l8 m0 F) fun a5 G=>aG (fun a6=>aM a5 true (iFL 4 false 1 a G fun m1=>cr m1 fun m2=>eC [a,ff,e,tt,f] (a6 [tt,m2] G)) (eC [a,ff,e,tt,f] (a6 [cd true a5,un] G))) fun o H=>aG (fun a7=>aM (nx o 1) false (iFL 2 false 1 a H fun m3=>qBe .rem m3 1000 fun m4=>qBe .eql m4 0 fun m5=>eC [a,ff,e,tt,f,nx o 0] (a7 [ff,m5] H)) (eC [a,ff,e,tt,f,nx o 0] (a7 [(cd false (nx o 1)),un] H))) fun a8 a9=>qJa (nx o 0) [a,ff,e,tt,f] a9 (fun m6=>bQ (nx a8 0) tt (nx a8 1) fun m7=>m6 m7 a9) fun b0 b1=>aG (fun b2=>aM b0 true (cr e fun m8=>eC [a,ff,e,tt,f] (b2 [tt,m8] b1)) (eC [a,ff,e,tt,f] (b2 [cd true b0,un] b1))) fun p I=>aG (fun b3=>aM (nx p 1) false (iFL 3 false 1 a I fun m9=>ag .neq m9 (.str []) fun n0=>eC [a,ff,e,tt,f,nx p 0] (b3 [ff,n0] I)) (eC [a,ff,e,tt,f,nx p 0] (b3 [(cd false (nx p 1)),un] I))) fun b4 b5=>qJa (nx p 0) [a,ff,e,tt,f] b5 (fun n1=>bQ (nx b4 0) tt (nx b4 1) fun n2=>n1 n2 b5) fun n3 n4=>eC [a] (l [ff,e,tt,f,n3] n4)) (iFL 0 false 1 a j fun n5=>ag .geq n5 (u8 13) fun n6=>qJa n6 [a,ff,ff,ff,ff] j (fun n7=>iFL 0 false 1 a j fun n8=>ag .leq n8 (u8 24) fun n9=>n7 n9 j) fun o0 o1=>eC [a] (l [ff,ff,ff,ff,o0] o1))))))) fun b b6=>aG (fun b7=>aM (nx b 4) true (eC [a,nx b 1,nx b 2,nx b 3] (b7 [tt,nx b 0] b6)) (eC [a,nx b 1,nx b 2,nx b 3] (b7 [(cd true (nx b 4)),un] b6))) fun q J=>aG (fun b8=>aM (nx q 1) false (iFL 1 false 1 a J fun o2=>ag .eql o2 (.str []) fun o3=>eC [a,nx b 1,nx b 2,nx b 3,nx q 0] (b8 [ff,o3] J)) (eC [a,nx b 1,nx b 2,nx b 3,nx q 0] (b8 [(cd false (nx q 1)),un] J))) fun b9 c0=>qJa (nx q 0) [a,nx b 1,nx b 2,nx b 3] c0 (fun o4=>bQ (nx b9 0) tt (nx b9 1) fun o5=>o4 o5 c0) fun c1 c2=>aG (fun c3=>aM c1 true (eC [a,nx b 2,nx b 3] (c3 [tt,nx b 1] c2)) (eC [a,nx b 2,nx b 3] (c3 [cd true c1,un] c2))) fun r L=>aG (fun c4=>aM (nx r 1) false (iFL 3 false 1 a L fun o6=>ag .eql o6 (.str []) fun o7=>eC [a,nx b 2,nx b 3,nx r 0] (c4 [ff,o7] L)) (eC [a,nx b 2,nx b 3,nx r 0] (c4 [(cd false (nx r 1)),un] L))) fun c5 c6=>qJa (nx r 0) [a,nx b 2,nx b 3] c6 (fun o8=>bQ (nx c5 0) tt (nx c5 1) fun o9=>o8 o9 c6) fun c7 c8=>aG (fun c9=>aM c7 true (eC [a,nx b 3] (c9 [tt,nx b 2] c8)) (eC [a,nx b 3] (c9 [cd true c7,un] c8))) fun s M=>aG (fun d0=>aM (nx s 1) false (iFL 2 false 1 a M fun p0=>qBe .eql p0 0 fun p1=>eC [a,nx b 3,nx s 0] (d0 [ff,p1] M)) (eC [a,nx b 3,nx s 0] (d0 [(cd false (nx s 1)),un] M))) fun d1 d2=>qJa (nx s 0) [a,nx b 3] d2 (fun p2=>bQ (nx d1 0) tt (nx d1 1) fun p3=>p2 p3 d2) fun d3 d4=>aG (fun d5=>aM d3 true (eC [a] (d5 [tt,nx b 3] d4)) (eC [a] (d5 [cd true d3,un] d4))) fun t N=>aG (fun d6=>aM (nx t 1) false (iFL 4 false 1 a N fun p4=>cr p4 fun p5=>eC [nx t 0] (d6 [ff,p5] N)) (eC [nx t 0] (d6 [(cd false (nx t 1)),un] N))) fun d7 d8=>qKa (nx t 0) d8 (fun p6=>bQ (nx d7 0) tt (nx d7 1) fun p7=>p6 p7 d8) fun p8 p9=>K p8 p9
def V84(a:AV):Body p_ 84 [a] (Yn a):=bC Tryz.func84 (sn (sn (sn (.join [1] [3,4,5,6,7] (sn (.one (.join [1,3,4,5,6,7,16] [25] .nil (.two (.draw 8 (oR 0 2 (.aA 1 true (fR 2 3) [] [31,32,33]::oR 5 3 [])) [] []) (sn (.two (sn (.aN (oR 0 2 (.aA 1 true (fR 2 3) [1,3,4,5,6] [38,41]::oR 5 2 (.aA 6 true (fR 7 3) [1,3,4,5,6] [43,46]::.aA 9 false (fR 10 4) [1,3,4,5,6,43] [46,50]::.aA 13 true (fR 14 4) [1,3,4,5,6,43,46] [50,54]::.aA 9 false [(18,false)] [1,3,4,5,6,43] [46,55]::.aA 6 true (fR 19 2) [1,3,4,5,6] [43,57]::.aA 20 false (fR 21 3) [1,3,4,5,6,43] [57,60]::.aA 6 true [(24,false)] [1,3,4,5,6] [43,61]::oR 25 2 []))))) (.join [1,3,4,5,6,7,16] [63] .nil (.two .nil (sn (.two (sn (.seq (.aN (oR 0 2 (.aA 1 true (fR 2 4) [1,3,4,5,6] [69,73]::oR 6 2 (.aA 7 true (fR 8 5) [1,3,4,5,6] [75,80]::oR 13 2 (.aA 14 false (fR 15 3) [1,3,4,5,6] [82,85]::oR 18 2 []))))) (.aN (oR 0 2 (.aA 1 true (fR 2 4) [1,3,4,5,6] [88,92]::oR 6 2 []))))) (.join [1,3,4,5,6,7] [94] .nil (.two (.seq (.draw 9 (oR 0 9 []) [] []) (.aN (oR 0 2 (.aA 1 true (fR 2 3) [1,3,4,5,6] [105,108]::oR 5 2 (.aA 6 true (fR 7 3) [1,3,4,5,6] [110,113]::oR 10 2 (.aA 11 true (fR 12 4) [1,3,4,5,6] [115,119]::.aA 15 false (fR 16 4) [1,3,4,5,6,115] [119,123]::.aA 11 true [(20,false)] [1,3,4,5,6] [115,124]::oR 21 2 (.aA 22 true (fR 23 3) [1,3,4,5,6] [126,129]::.aA 25 false (fR 26 3) [1,3,4,5,6,126] [129,132]::.aA 22 true [(29,false)] [1,3,4,5,6] [126,133]::oR 30 2 []))))))) (.aN (oR 0 4 (.aA 3 true (fR 4 3) [1,3,4,5,6] [20,23]::oR 7 2 []))))))))))))))) (.seq (.aN (oR 0 2 (.aA 1 true (fR 2 2) [1,4,5,6] [136,138]::.aA 3 false (fR 4 3) [1,4,5,6,136] [138,141]::.aA 1 true [(7,false)] [1,4,5,6] [136,142]::oR 8 2 (.aA 9 true (fR 10 2) [1,5,6] [144,146]::.aA 11 false (fR 12 3) [1,5,6,144] [146,149]::.aA 9 true [(15,false)] [1,5,6] [144,150]::oR 16 2 (.aA 17 true (fR 18 2) [1,6] [152,154]::.aA 19 false (fR 20 3) [1,6,152] [154,157]::.aA 17 true [(23,false)] [1,6] [152,158]::oR 24 2 (.aA 25 true (fR 26 2) [1] [160,162]::.aA 27 false (fR 28 3) [160] [162,165]::.aA 25 true [(31,false)] [] [160,166]::oR 32 2 [])))))) .nil))))) 168 [.tmp 2]
def Yo(c D:AV)(h:aa)(K:AV→aa→Prop):Prop:=
 aV 70 D h fun b a=>iFL 0 false 1 b a fun d=>ag .eql d (u8 1) fun E=>af E (iFL 1 false 1 b a fun F=>iFL 1 false 1 b a fun G=>iQ p_ 117 [G] a fun H=>iC p_ 116 [c,F,H] a fun I J=>K I J) (ag .eql d (u8 2) fun L=>af L (iFL 1 false 1 b a fun M=>iFL 1 false 1 b a fun N=>iQ p_ 117 [N] a fun O=>iQ p_ 116 [c,M,O] a fun P=>bt 1 1 (u8 0) [(0,1,(u8 40))] fun Q=>bR false 5 1 1 P Q a fun R S=>K R S) (ag .eql d (u8 3) fun T=>af T (bt 1 1 (u8 0) [(0,1,(u8 64))] fun U=>iFL 1 false 1 b a fun V=>iFL 1 false 1 b a fun W=>cF (E8 c) (bR false 5 1 1 c U a fun X q=>iQ p_ 117 [W] q fun Y=>iQ p_ 116 [X,V,Y] q fun Z=>K Z q)) (ag .eql d (u8 4) fun a0=>af a0 (aG (fun u=>iFL 4 false 1 b a fun a1=>af a1 (iFL 1 false 1 b a fun a2=>iC p_ 117 [a2] a fun a3 a4=>eC [c,b] (u [a3] a4)) (eC [c,b] (u [i_ 0] a))) fun a5 v=>bt 1 1 (u8 0) [(0,1,(u8 35))] fun a6=>iFL 1 false 1 b v fun a7=>cF (E8 c) (bR false 5 1 1 c a6 v fun a8 a9=>iC p_ 116 [a8,a7,nx a5 0] a9 fun b0 b1=>K b0 b1)) (ag .eql d (u8 5) fun b2=>af b2 (bt 1 1 (u8 0) [(0,1,(u8 34))] fun b3=>bR false 5 1 1 c b3 a fun b4 w=>iFL 1 false 1 b w fun b5=>iO 5 b5 w fun k b6=>bq k fun n=>bN [b4,i_ 0] b6 fun b7 f r =>
 ag .lss (nx f 1) n fun b8=>af b8 (aG (fun x=>aI 1 k (nx f 1) fun b9=>ah false 1 b9 r fun s=>iC p_ 72 [.str [10,12,13,34,92],s] r fun c0 y=>qBe .geq c0 0 fun c1=>af c1 (iC p_ 118 [nx f 0,s] y fun c2 c3=>eC [k,n,nx f 1] (x [c2] c3)) (bt 1 1 (u8 0) [(0,1,s)] fun c4=>bR false 5 1 1 (nx f 0) c4 y fun c5 c6=>eC [k,n,nx f 1] (x [c5] c6))) fun c7 c8=>qBe .add (nx f 1) 1 fun c9=>eC [k,n] (b7 [nx c7 0,c9] c8)) (bt 1 1 (u8 0) [(0,1,(u8 34))] fun d0=>bR false 5 1 1 (nx f 0) d0 r fun d1 d2=>K d1 d2)) (ag .eql d (u8 7) fun d3=>af d3 (mL false 5 1 c (.str [117,114,108,40]) a fun d4 z=>iFL 1 false 1 b z fun d5=>iO 5 d5 z fun j d6=>bq j fun l=>bN [d4,i_ 0] d6 fun d7 e o =>
 ag .lss (nx e 1) l fun d8=>af d8 (aG (fun A=>aI 1 j (nx e 1) fun d9=>ah false 1 d9 o fun m=>ag .leq m (u8 32) fun e0=>qJo e0 [nx e 0,m,j,l,nx e 1] o (fun e1=>iC p_ 72 [.str [34,39,40,41,92,127],m] o fun e2 e3=>qBe .geq e2 0 fun e4=>e1 e4 e3) fun e5 B=>af e5 (iC p_ 118 [nx e 0,m] B fun e6 e7=>eC [j,l,nx e 1] (A [e6] e7)) (bt 1 1 (u8 0) [(0,1,m)] fun e8=>bR false 5 1 1 (nx e 0) e8 B fun e9 f0=>eC [j,l,nx e 1] (A [e9] f0))) fun f1 f2=>qBe .add (nx e 1) 1 fun f3=>eC [j,l] (d7 [nx f1 0,f3] f2)) (bt 1 1 (u8 0) [(0,1,(u8 41))] fun f4=>bR false 5 1 1 (nx e 0) f4 o fun f5 f6=>K f5 f6)) (ag .eql d (u8 9) fun f7=>af f7 (iFL 1 false 1 b a fun f8=>mL false 5 1 c f8 a fun f9 g0=>K f9 g0) (ag .eql d (u8 10) fun g1=>af g1 (iFL 2 false 1 b a fun g2=>iFL 4 false 1 b a fun g3=>cr g3 fun g4=>iC p_ 119 [c,g2,g4] a fun g5 g6=>K g5 g6) (ag .eql d (u8 11) fun g7=>af g7 (iFL 2 false 1 b a fun g8=>iC p_ 119 [c,g8,ff] a fun g9 i0=>bt 1 1 (u8 0) [(0,1,(u8 37))] fun i1=>bR false 5 1 1 g9 i1 i0 fun i2 i3=>K i2 i3) (ag .eql d (u8 12) fun i4=>af i4 (iFL 2 false 1 b a fun i5=>iFL 4 false 1 b a fun i6=>cr i6 fun i7=>iC p_ 119 [c,i5,i7] a fun p t=>iFL 3 false 1 b t fun i=>eD i (i_ 0) fun i8=>ag .or i8 (u8 32) fun i9=>ag .eql i9 (u8 101) fun j0=>qJa j0 [p,b,i] t (fun j1=>eV i (some (i_ 1)) none fun j2=>iC p_ 113 [j2] t j1) fun j3 C=>qJa j3 [p,b,i] C (fun j4=>eV i (some (i_ 1)) none fun j5=>iC p_ 59 [j5,.str [45,45]] C fun j6 j7=>cr j6 fun j8=>j4 j8 j7) fun j9 g=>af j9 (eD i (i_ 0) fun k0=>iQ p_ 118 [p,k0] g fun k1=>eV i (some (i_ 1)) none fun k2=>iQ p_ 116 [k1,k2,i_ 0] g fun k3=>K k3 g) (iFL 3 false 1 b g fun k4=>iFL 3 false 1 b g fun k5=>iQ p_ 117 [k5] g fun k6=>iQ p_ 116 [p,k4,k6] g fun k7=>K k7 g)) (iQ p_ 120 [] a fun k8=>iFL 0 false 1 b a fun k9=>ag .sub k9 (u8 13) fun l0=>mM false 1 12 k8 l0 fun l1=>mL false 5 1 c l1 a fun l2 l3=>K l2 l3))))))))))
def V85(a b:AV):Body p_ 85 [a,b] (Yo a b):=bC Tryz.func85 (sn (.seq (sn (.one (sn (.two (.seq (.draw 6 (oR 0 6 []) [.op 6 true,.op 7 false] []) .nil) (sn (.two (.seq (.draw 8 (oR 0 7 (.op 7 true::[])) (oR 8 2 []) []) .nil) (sn (.two (.seq (.jX [(0,0,false),(1,0,true),(3,0,false),(4,3,false),(5,0,false),(6,3,false),(2,4,false),(7,1,false),(8,1,false),(9,0,false)]) .nil) (sn (.two (sn (.join [0,3] [5] .nil (.seq (.jX [(0,0,false),(1,0,true),(3,0,false),(4,3,false),(5,0,false),(2,4,false),(6,2,true),(7,0,false)]) .nil))) (sn (.two (.seq (.aN (.op 0 false::.op 1 true::oR 2 2 [])) (.seq (sn (.one (.loop [65,66] [0,67] (sn (sn (.join [65,66,67] [0] (.one (sn (sn (.two .nil (.aN (oR 0 2 (.op 2 true::oR 3 2 []))))))) .nil)))))) (.seq (.aN (.op 0 false::.op 1 true::oR 2 2 [])) .nil))) (sn (.two (sn (.seq (sn (.one (.loop [91,92] [0,93] (sn (sn (.join [91,92,93] [0] (.one (sn (.seq (.aN (oR 0 3 (.aA 2 false (fR 3 3) [0,9,91,92,93] [99,102]::.op 6 false::[]))) (.two .nil (.aN (oR 0 2 (.op 2 true::oR 3 2 []))))))) .nil)))))) (.seq (.aN (.op 0 false::.op 1 true::oR 2 2 [])) .nil))) (sn (.two .nil (sn (.two .nil (sn (.two (.seq (.aN (oR 0 4 (.op 4 true::oR 5 2 []))) .nil) (sn (.two (sn (.seq (sn (.seq (.aN (oR 0 5 (.aA 4 true (fR 5 3) [0,3,10] [153,156]::oR 8 2 (.aA 9 true (fR 10 4) [0,3,10] [158,162]::.op 14 false::[])))) (.two (.seq (.draw 8 (oR 0 8 []) [] []) .nil) .nil))) (.seq (.draw 8 (oR 0 8 []) [] []) .nil))) .nil)))))))))))))))))))))) (.seq (.draw 6 (oR 0 6 []) (oR 6 2 []) []) .nil))) 185 [.tmp 4]
def MB(z b c:AV)(h:aa)(K:AV→aa→Prop):Prop:=
 cZ b fun d=>bN [z,i_ 0] h fun A a i =>
 ag .lss (nx a 1) d fun B=>af B (aG (fun j=>eD b (nx a 1) fun e=>iC p_ 114 [e] i fun k l=>aG (fun m=>aM k true (ag .geq (nx a 1) c fun C=>eC [nx a 0,b,c,e,d,nx a 1] (m [tt,C] l)) (eC [nx a 0,b,c,e,d,nx a 1] (m [cd true k,un] l))) fun f n=>aG (fun o=>aM (nx f 1) false (iC p_ 146 [e] n fun D E=>cr D fun F=>eC [nx a 0,b,c,e,d,nx a 1,nx f 0] (o [ff,F] E)) (eC [nx a 0,b,c,e,d,nx a 1,nx f 0] (o [(cd false (nx f 1)),un] n))) fun p q=>qJa (nx f 0) [nx a 0,b,c,e,d,nx a 1] q (fun G=>bQ (nx p 0) tt (nx p 1) fun H=>G H q) fun r s=>aG (fun t=>aM r true (qBe .eql c 0 fun I=>eC [nx a 0,b,c,e,d,nx a 1] (t [tt,I] s)) (eC [nx a 0,b,c,e,d,nx a 1] (t [cd true r,un] s))) fun g u=>aG (fun v=>aM (nx g 1) false (ag .neq b (.str [45]) fun J=>eC [nx a 0,b,c,e,d,nx a 1,nx g 0] (v [ff,J] u)) (eC [nx a 0,b,c,e,d,nx a 1,nx g 0] (v [(cd false (nx g 1)),un] u))) fun w x=>qJa (nx g 0) [nx a 0,b,c,e,d,nx a 1] x (fun L=>bQ (nx w 0) tt (nx w 1) fun M=>L M x) fun N y=>af N (bt 1 1 (u8 0) [(0,1,e)] fun O=>bR false 5 1 1 (nx a 0) O y fun P Q=>eC [b,c,d,nx a 1] (j [P] Q)) (iC p_ 118 [nx a 0,e] y fun R S=>eC [b,c,d,nx a 1] (j [R] S))) fun T U=>qBe .add (nx a 1) 1 fun V=>eC [b,c,d] (A [nx T 0,V] U)) (K (nx a 0) i)
def R2(a b c:AV):Body p_ 116 [a,b,c] (MB a b c):=bC Tryz.func116 (sn (.seq (sn (.one (.loop [1,2,10] [0,11] (sn (sn (.join [1,2,10,11] [0] (.one (sn (sn (.seq (.aN (oR 0 3 (.aA 2 true (fR 3 4) [0,1,2,8,10,11] [19,23]::.aA 6 false (fR 7 3) [0,1,2,8,10,11,19] [23,26]::.aA 2 true [(10,false)] [0,1,2,8,10,11] [19,27]::oR 11 2 (.aA 12 true (fR 13 3) [0,1,2,8,10,11] [29,32]::.aA 15 false (fR 16 2) [0,1,2,8,10,11,29] [32,34]::.aA 12 true [(18,false)] [0,1,2,8,10,11] [29,35]::.op 19 false::[])))) (.two (.aN (oR 0 2 (.op 2 true::oR 3 2 []))) .nil))))) .nil)))))) .nil)) 46 [.tmp 6]
def Sl(b:AV)(h:aa)(K:AV→aa→Prop):Prop:=
 iC p_ 59 [b,.str [45]] h fun c a=>af c (K (i_ 2) a) (K (i_ 1) a)
def YX(a:AV):Body p_ 117 [a] (Sl a):=bC Tryz.func117 .nil 5 [.tmp 2]
def Sn(b a:AV)(h:aa)(K:AV→aa→Prop):Prop:=
 ag .gtr a (u8 32) fun f=>qJa f [b,a] h (fun g=>ag .lss a (u8 127) fun i=>g i h) fun j c=>qJa j [b,a] c (fun k=>iC p_ 146 [a] c fun l m=>cr l fun n=>k n m) fun o d=>qJa o [b,a] d (fun p=>iC p_ 147 [a] d fun q r=>cr q fun s=>p s r) fun t e=>af t (bt 2 1 (u8 0) [(0,1,(u8 92)),(1,1,a)] fun u=>bR false 5 1 1 b u e fun v w=>K v w) (bt 1 1 (u8 0) [(0,1,(u8 92))] fun x=>bR false 5 1 1 b x e fun y z=>cy .u64 a fun A=>iC p_ 148 [y,A,i_ 16] z fun B C=>bt 1 1 (u8 0) [(0,1,(u8 32))] fun D=>bR false 5 1 1 B D C fun E F=>K E F)
def YY(a b:AV):Body p_ 118 [a,b] (Sn a b):=bC Tryz.func118 (sn (.seq (.seq (.aN (oR 0 3 (.aA 2 true (fR 3 2) [0,1] [7,9]::oR 5 2 (.aA 6 true (fR 7 3) [0,1] [11,14]::oR 10 2 (.aA 11 true (fR 12 3) [0,1] [16,19]::.op 15 false::[]))))) (.two (.seq (.aN (oR 0 2 (.op 2 true::oR 3 2 []))) .nil) .nil)) (.seq (.aN (.op 0 false::.op 1 true::oR 2 2 [])) (sn (.seq (.aN (.op 0 false::.op 1 true::oR 2 2 [])) .nil))))) 35 [.tmp 4]
def Sk(a:AV)(h:aa)(K:AV→aa→Prop):Prop:=
 iC p_ 147 [a] h fun f b=>qJo f [a] b (fun g=>iC p_ 146 [a] b g) fun i c=>qJo i [a] c (fun j=>ag .eql a (u8 95) fun k=>j k c) fun l d=>qJo l [a] d (fun m=>ag .eql a (u8 45) fun n=>m n d) fun o e=>qKo o e (fun p=>ag .geq a (u8 128) fun q=>p q e) fun r s=>K r s
def YW(a:AV):Body p_ 114 [a] (Sk a):=bC Tryz.func114 (sn (.seq (.aN (oR 0 3 (.aA 2 false (fR 3 2) [0] [5,7]::oR 5 2 (.aA 6 false (fR 7 2) [0] [9,11]::oR 9 2 (.aA 10 false (fR 11 2) [0] [13,15]::oR 13 2 (.aA 14 false (fR 15 2) [] [17,19]::oR 17 2 [])))))) .nil)) 21 [.tmp 2]
def SD(a:AV)(h:aa)(K:AV→aa→Prop):Prop:=
 ag .leq (u8 48) a fun b=>qKa b h (fun c=>ag .leq a (u8 57) fun d=>c d h) fun e f=>K e f
def Zd(a:AV):Body p_ 146 [a] (SD a):=bC Tryz.func146 (sn (.seq (.aN (oR 0 3 (.aA 2 true (fR 3 2) [] [5,7]::oR 5 2 []))) .nil)) 9 [.tmp 2]
def SE(a:AV)(h:aa)(K:AV→aa→Prop):Prop:=
 ag .or a (u8 32) fun c=>ag .leq (u8 97) c fun d=>qJa d [a] h (fun e=>ag .or a (u8 32) fun f=>ag .leq f (u8 122) fun g=>e g h) fun i b=>qKa i b (fun j=>ag .lss a (u8 128) fun k=>j k b) fun l m=>K l m
def Ze(a:AV):Body p_ 147 [a] (SE a):=bC Tryz.func147 (sn (.seq (.aN (oR 0 4 (.aA 3 true (fR 4 3) [0] [6,9]::oR 7 2 (.aA 8 true (fR 9 2) [] [11,13]::oR 11 2 [])))) .nil)) 15 [.tmp 2]
def SF(a b c:AV)(h:aa)(K:AV→aa→Prop):Prop:=
 iC p_ 179 [a,b,c] h fun d e=>K d e
def Zf(a b c:AV):Body p_ 148 [a,b,c] (SF a b c):=bC Tryz.func148 .nil 11 [.tmp 6]
def SP(b a c:AV)(h:aa)(K:AV→aa→Prop):Prop:=
 qBe .eql c 10 fun j=>af j (ag .lss a (.v (.int .u64 100)) fun k=>af k (cy .i64 a fun l=>iC p_ 151 [l] h fun m n=>mL false 5 1 b m n fun o p=>K o p) (aV 199 (.agg [u8 0,u8 0,u8 0,u8 0,u8 0,u8 0,u8 0,u8 0,u8 0,u8 0,u8 0,u8 0,u8 0,u8 0,u8 0,u8 0,u8 0,u8 0,u8 0,u8 0,u8 0,u8 0,u8 0,u8 0]) h fun d q=>iC p_ 152 [a] q fun e f=>qm 24 1 d none (some e) f fun r=>iC p_ 153 [r,a] f fun y g=>qm 24 1 d none (some e) g fun s=>bR false 5 1 1 b s g fun t u=>K t u)) (iC p_ 154 [b,a,c,ff,tt] h fun i w=>aR 0 i fun x=>aR 1 i fun z=>K x w)
def Zp(a b c:AV):Body p_ 179 [a,b,c] (SP a b c):=bC Tryz.func179 .nil 36 [.tmp 6]
def SG(c i b e d:AV)(h:aa)(K:AV→aa→Prop):Prop:=
 aG (fun H=>qBe .lss b 2 fun I=>qJo I [c,i,b,e,d,qNs,.str []] h (fun J=>qBe .eql b 10 fun L=>J L h) fun M l=>qJo M [c,i,b,e,d,qNs,.str []] l (fun N=>qBe .gtr b 36 fun O=>N O l) fun P Q=>af P (oW 9 (.str [115,116,114,99,111,110,118,58,32,105,108,108,101,103,97,108,32,65,112,112,101,110,100,73,110,116,47,70,111,114,109,97,116,73,110,116,32,98,97,115,101]) fun c6=>False) (eC [c,i,b,e,d,qNs,.str []] (H [] Q))) fun c7 R=>aV 238 (.agg [u8 0,u8 0,u8 0,u8 0,u8 0,u8 0,u8 0,u8 0,u8 0,u8 0,u8 0,u8 0,u8 0,u8 0,u8 0,u8 0,u8 0,u8 0,u8 0,u8 0,u8 0,u8 0,u8 0,u8 0,u8 0,u8 0,u8 0,u8 0,u8 0,u8 0,u8 0,u8 0,u8 0,u8 0,u8 0,u8 0,u8 0,u8 0,u8 0,u8 0,u8 0,u8 0,u8 0,u8 0,u8 0,u8 0,u8 0,u8 0,u8 0,u8 0,u8 0,u8 0,u8 0,u8 0,u8 0,u8 0,u8 0,u8 0,u8 0,u8 0,u8 0,u8 0,u8 0,u8 0,u8 0]) R fun a m=>aG (fun n=>af e (oX i fun S=>eC [c,b,e,d,qNs,.str [],a,i_ 65] (n [S] m)) (eC [c,b,e,d,qNs,.str [],a,i_ 65] (n [i] m))) fun o T=>aG (fun p=>iC p_ 187 [b] T fun U q=>af U (cy .u64 b fun V=>iC p_ 188 [V] q fun W X=>cy .u64 W fun r=>cy .u64 b fun s=>cy .u64 b fun Y=>ag .sub Y (.v (.int .u64 1)) fun t=>bN [nx o 0,i_ 65] X fun Z f u =>
 ag .geq (nx f 0) s fun a0=>af a0 (qBe .sub (nx f 1) 1 fun w=>ag .and (nx f 0) t fun a1=>eD (.str [48,49,50,51,52,53,54,55,56,57,97,98,99,100,101,102,103,104,105,106,107,108,109,110,111,112,113,114,115,116,117,118,119,120,121,122]) a1 fun a2=>eU 65 1 a w fun a3=>ao 1 a3 a2 u fun a4=>ag .shr (nx f 0) r fun a5=>eC [c,e,d,qNs,.str [],a,r,s,t] (Z [a5,w] a4)) (qBe .sub (nx f 1) 1 fun x=>eD (.str [48,49,50,51,52,53,54,55,56,57,97,98,99,100,101,102,103,104,105,106,107,108,109,110,111,112,113,114,115,116,117,118,119,120,121,122]) (nx f 0) fun a6=>eU 65 1 a x fun a7=>ao 1 a7 a6 u fun a8=>eC [c,e,d,qNs,.str [],a] (p [x] a8))) (cy .u64 b fun k=>bN [nx o 0,i_ 65] q fun a9 g y =>
 ag .geq (nx g 0) k fun b0=>af b0 (qBe .sub (nx g 1) 1 fun z=>ag .quo (nx g 0) k fun A=>ag .mul A k fun b1=>ag .sub (nx g 0) b1 fun b2=>eD (.str [48,49,50,51,52,53,54,55,56,57,97,98,99,100,101,102,103,104,105,106,107,108,109,110,111,112,113,114,115,116,117,118,119,120,121,122]) b2 fun b3=>eU 65 1 a z fun b4=>ao 1 b4 b3 y fun b5=>eC [c,e,d,qNs,.str [],a,k] (a9 [A,z] b5)) (qBe .sub (nx g 1) 1 fun B=>eD (.str [48,49,50,51,52,53,54,55,56,57,97,98,99,100,101,102,103,104,105,106,107,108,109,110,111,112,113,114,115,116,117,118,119,120,121,122]) (nx g 0) fun b6=>eU 65 1 a B fun b7=>ao 1 b7 b6 y fun b8=>eC [c,e,d,qNs,.str [],a] (p [B] b8)))) fun C D=>aG (fun E=>af e (qBe .sub (nx C 0) 1 fun F=>eU 65 1 a F fun b9=>ao 1 b9 (u8 45) D fun c0=>eC [c,d,qNs,.str [],a] (E [F] c0)) (eC [c,d,qNs,.str [],a] (E [nx C 0] D))) fun G j=>af d (qm 65 1 a (some (nx G 0)) none j fun c1=>bR false 5 1 1 c c1 j fun c2 c3=>K (.ay [c2,.str []]) c3) (qm 65 1 a (some (nx G 0)) none j fun c4=>cP c4 j fun c5=>K (.ay [qNs,c5]) j)
def Zg(a b c d e:AV):Body p_ 154 [a,b,c,d,e] (SG a b c d e):=bC Tryz.func154 (sn (.join [0,1,2,3,4,10,11] [] (.seq (.aN (oR 0 3 (.aA 2 false (fR 3 2) [0,1,2,3,4,10,11] [21,23]::oR 5 2 (.aA 6 false (fR 7 2) [0,1,2,3,4,10,11] [25,27]::.op 9 false::[])))) .nil) (sn (sn (.join [0,2,3,4,10,11,12,13] [1] .nil (.join [0,3,4,10,11,12] [13] (sn (.two (sn (sn (sn (.seq (.one (.loop [0,3,4,10,11,12,14,15,16] [1,13] .nil)) .nil)))) (sn (.seq (.one (.loop [0,3,4,10,11,12,17] [1,13] .nil)) .nil)))) (.join [0,4,10,11,12] [13] .nil .nil))))))) 102 [.tmp 10,.tmp 11]
def SQ(a:AV)(h:aa)(K:AV→aa→Prop):Prop:=
 qBe .sub a 1 fun b=>ag .and a b fun c=>qBe .eql c 0 fun d=>K d h
def Zq(a:AV):Body p_ 187 [a] (SQ a):=bC Tryz.func187 .nil 8 [.tmp 2]
def SR(a:AV)(h:aa)(K:AV→aa→Prop):Prop:=
 af ff (cy .u32 a fun b=>iC p_ 202 [b] h fun c d=>K c d) (iC p_ 203 [a] h fun e f=>K e f)
def Zr(a:AV):Body p_ 188 [a] (SR a):=bC Tryz.func188 .nil 8 [.tmp 2]
def SW(a:AV)(h:aa)(K:AV→aa→Prop):Prop:=
 ag .eql a (.v (.int .u64 0)) fun b=>af b (K (i_ 64) h) (oX a fun c=>ag .and a c fun d=>ag .mul d (.v (.int .u64 285870213051353865)) fun e=>ag .shr e (.v (.int .u64 58)) fun f=>eU 64 1 (aE [] (.global 3)) f fun g=>ah false 1 g h fun i=>cy .i64 i fun j=>K j h)
def Zv(a:AV):Body p_ 203 [a] (SW a):=bC Tryz.func203 .nil 14 [.tmp 2]
end
section
open Go Go.Aw Go.bo
abbrev eM(l:List UInt8):List (List AV):=l.map fun b=>[bf b]
def ck(b:UInt8):Bool:=decide (48≤(b.toNat:Int))&&decide ((b.toNat:Int)≤57)
def Uu(b:UInt8):Int:=dq .or .u8 (b.toNat:Int) 32
def fq(b:UInt8):Bool:=decide (97≤Uu b)&&decide (Uu b≤122)&&decide ((b.toNat:Int)<128)
def C8(b:UInt8):Bool:=fq b||ck b||decide ((b.toNat:Int)=95)||decide ((b.toNat:Int)=45)||decide (128≤(b.toNat:Int))
def mb:List UInt8:=[48,49,50,51,52,53,54,55,56,57,97,98,99,100,101,102,103,104,105,106,107,108,109,110,111,112,113,114,115,116,117,118,119,120,121,122]
def gA(b:UInt8):List UInt8:=if 16≤b.toNat then [mb.getD (b.toNat/16) 0,mb.getD (b.toNat%16) 0] else [mb.getD b.toNat 0]
def sh(b:UInt8):Bool:=decide (32<(b.toNat:Int))&&decide ((b.toNat:Int)<127)&&!ck b&&!fq b
def cC(b:UInt8):List UInt8:=if sh b then [92,b] else [92]++gA b++[32]
def vk(b:UInt8):(gA b).length≤2:=by unfold gA;split<;>simp
def EA(b:UInt8):(cC b).length≤4:=by unfold cC;have:=vk b;split<;>simp;omega
def Gw(tid m:Nat)(h h':aa):Prop:=∃j,h'=h.set tid (.tok 5 1 m)++j
def Gw.len{tid m:Nat}(g:Gw tid m h h'):h.length≤h'.length:=by obtain⟨j,rfl⟩:=g;simp
def Gw.trans{tid m m':Nat}(ht:tid<h.length)(a:Gw tid m h h')(b:Gw tid m' h' h''):Gw tid m' h h'':=by
 obtain⟨j,rfl⟩:=a;obtain⟨k,rfl⟩:=b;exact⟨j++k,by rw[IN _ _ (by simpa using ht),aa0,To]⟩
def Gw.tok{tid m:Nat}(ht:tid<h.length)(g:Gw tid m h h'):h'[tid]?=some (.tok 5 1 m):=by
 obtain⟨j,rfl⟩:=g;rw[gO (by simpa using ht),iD ht]
def Gw.other{tid m:Nat}(g:Gw tid m h h')(hi:i<h.length)(hne:i≠tid):h'[i]?=h[i]?:=by
 obtain⟨j,rfl⟩:=g;rw[gO (by simpa using hi),iF (Ne.symm hne)]
def Gw.set(tid m:Nat)(h:aa):Gw tid m h (h.set tid (.tok 5 1 m)):=⟨[],by simp⟩
def iW{tid:Nat}{h:aa}{e:aK}(ht:h[tid]?=some e):tid<h.length:=(eQ.1 ht).1
def og{K:AV→Prop}(q:K (.sl 1 [[u8 x]])):bt 1 1 (u8 0) [(0,1,u8 x)] K:=by
 have e:dP (gI 1 (bh (u8 0))) [(0,1,u8 x)]=some [u8 x]:=by simp[dP,gI,bh,bX,bG]
 unfold bt;rw[e];exact q
def Tf{K:AV→Prop}(q:K (.sl 1 [[u8 x],[u8 y]])):bt 2 1 (u8 0) [(0,1,u8 x),(1,1,u8 y)] K:=by
 have e:dP (gI 2 (bh (u8 0))) [(0,1,u8 x),(1,1,u8 y)]=some [u8 x,u8 y]:=by simp[dP,gI,bh,bX,bG]
 unfold bt;rw[e];exact q
def ub{K:AV→Prop}(e:x=.v (.int k' n))(hm:k.wrap n=m)(q:K (.v (.int k m))):cy k x K:=by subst hm;exact⟨k',n,e,q⟩
def ZE{K:AV→Prop}(ex:x=.v (.int k a))(ey:y=.v (.int k b))(q:K (.v (.int k (dq .or k a b)))):ag .or x y K:=by
 subst ex;subst ey;exact⟨rfl,q⟩
def IP{K:AV→Prop}(ex:x=.v (.int k a))(ey:y=.v (.int k b))(hc:dq .and k a b=c)(q:K (.v (.int k c))):ag .and x y K:=by
 subst ex;subst ey;subst hc;exact⟨rfl,q⟩
def O3{K:AV→Prop}(ex:x=.v (.int k a))(ey:y=.v (.int k' b))(h0:0≤b)(hc:a.fdiv (2^(min b.toNat k.bits))=c)(q:K (.v (.int k c))):ag .shr x y K:=by
 subst ex;subst ey;subst hc;exact⟨h0,q⟩
def D8{K:AV→Prop}(hk:k≠.i64)(ex:x=.v (.int k a))(ey:y=.v (.int k b))(hc:k.wrap (a-b)=c)(q:K (.v (.int k c))):ag .sub x y K:=by
 subst ex;subst ey;subst hc;refine⟨rfl, ?_⟩;unfold ql qz;cases k<;>first|exact q|exact absurd rfl hk
def Tg{K:AV→Prop}(hk:k≠.i64)(ex:x=.v (.int k a))(ey:y=.v (.int k b))(hc:k.wrap (a*b)=c)(q:K (.v (.int k c))):ag .mul x y K:=by
 subst ex;subst ey;subst hc;refine⟨rfl, ?_⟩;unfold ql qz;cases k<;>first|exact q|exact absurd rfl hk
def Th{K:AV→Prop}(hk:k≠.i64)(ex:x=.v (.int k a))(hc:k.wrap (0-a)=c)(q:K (.v (.int k c))):oX x K:=by
 subst ex;subst hc;refine⟨k,a,rfl, ?_⟩;unfold qz;cases k<;>first|exact q|exact absurd rfl hk
def D7{n:Nat}{K:AV→Prop}(e:x=.str l)(ei:i=.v (.int k n))(hn:n<l.length)(q:K (bf (l.getD n 0))):eD x i K:=by
 subst e;subst ei;exact⟨⟨by omega,by omega⟩,by rw[Mk];exact q⟩
def BB{len sz id o:Nat}{K:AV→Prop}{n:Nat}(ex:x=.op id o)(ei:i=i_ n)(hn:n<len)(q:K (.op id (o+n*sz))):eU len sz x i K:=by
 subst ex;subst ei;exact⟨⟨by omega,by omega⟩,by rw[Mk];exact q⟩
section
variable [Laid]
def eG{args args':List AV}{K0 K:AV→aa→Prop}(hb:dw P f=true)(e:args=args')(c:bW P f args' h K0)(k:∀r h',K0 r h'→K r h'):bx P (.fn (.func f) [] []) args h K:=by
 subst e;exact⟨hb,by simpa using c.mono k⟩
def u4(b:UInt8):bn p_ 146 [bf b] (b_ (ck b)):=by
 refine (Zd _).bj (by simp[bf]) (by simp) ?_;unfold SD;repeat' (first|(with_reducible apply aF)|((with_reducible apply gZ);rfl;rfl)|((with_reducible apply aL);rfl)|((with_reducible apply aQ);rfl)|((with_reducible apply cD);rfl)|(with_reducible intro _))
 all_goals refine .pure (by simp) ?_
 all_goals simp only[eg,gG,AV.v.injEq,Value.bool.injEq,Value.int.injEq,true_and]at *
 all_goals grind [ck]
def yw(b:UInt8):bn p_ 147 [bf b] (b_ (fq b)):=by
 refine (Ze _).bj (by simp[bf]) (by simp) ?_;unfold SE;repeat' (first|(with_reducible first|apply aF|apply aq)|((with_reducible first|apply cH|apply gZ);rfl;rfl)|((with_reducible apply aL);rfl)|((with_reducible apply aQ);rfl)|((with_reducible apply bz);rfl;first|rfl|assumption)|((with_reducible apply ZE);rfl;rfl)|((with_reducible apply cD);rfl)|(with_reducible intro _))
 all_goals refine .pure (by simp) ?_
 all_goals simp only[eg,gG,AV.v.injEq,Value.bool.injEq,Value.int.injEq,true_and]at *
 all_goals grind [fq,Uu]
def I6(b:UInt8):bn p_ 114 [bf b] (b_ (C8 b)):=by
 refine (YW _).bj (by simp[bf]) (by simp) ?_;unfold Sk;repeat' (first|(with_reducible first|apply aF|apply aq)|((with_reducible first|apply mD|apply bU);rfl;rfl)|((with_reducible apply aL);rfl)|((with_reducible apply aQ);rfl)|((with_reducible apply bz);rfl;first|rfl|assumption)|(refine uCon (yw _) ?_)|(refine uCon (u4 _) ?_)|((with_reducible apply cD);rfl)|(with_reducible intro _))
 all_goals refine .pure (by simp) ?_
 all_goals simp only[eg,gG,AV.v.injEq,Value.bool.injEq,Value.int.injEq,true_and]at *
 all_goals grind [C8]
def Ni:bn p_ 187 [i_ 16] (b_ true):=by
 refine (Zq _).bj (by simp) (by simp) ?_;unfold SQ;refine zze (by unfold aJ;omega) (IP rfl rfl (c:=0) (by decide) (zzG ?_));exact .pure (by simp) rfl
end
variable [bp]
def Nl:bn p_ 203 [.v (.int .u64 16)] (i_ 4):=by
 refine (Zv _).bj (by simp) (by simp) ?_;unfold SW;refine zzG (zzK (by decide) (Th (c:=18446744073709551600) (by decide) rfl (by decide) (IP (c:=16) rfl rfl (by decide) (Tg (c:=4573923408821661840) (by decide) rfl rfl (by decide) (O3 (c:=15) rfl rfl (by decide) (by decide) ?_)))));refine⟨⟨by decide,by decide⟩, ?_⟩;refine zzW (c:=.v (.int .u8 4)) (r:=(PD [0,1,56,2,57,49,28,3,61,58,42,50,38,29,17,4,62,47,59,36,45,43,51,22,53,39,33,30,24,18,12,5,63,55,48,27,60,41,37,16,46,35,44,21,52,32,23,11,54,26,40,15,34,20,31,10,25,14,19,9,13,8,7,6]).drop 16) (ub (m:=4) rfl (by decide) ?_);exact .pure (by simp) rfl
def Tu:bn p_ 188 [.v (.int .u64 16)] (i_ 4):=by
 refine (Zr _).bj (by simp) (by simp) ?_;unfold SR;refine zzK rfl (uCon Nl ?_);exact .pure (by simp) rfl
end
section
open Go Go.Aw Go.bo
def kn:List AV:=List.replicate 65 (u8 0)
def VP(b:UInt8):dq .and .u64 (b.toNat:Int) 15=((b.toNat%16:Nat):Int):=by
 have:∀n:Fin 256,dq .and .u64 ((n.val:Nat):Int) 15=((n.val%16:Nat):Int):=by decide
 exact this ⟨b.toNat,b.toNat_lt⟩
def aaf(b:UInt8):(b.toNat:Int).fdiv (2^(min (4:Int).toNat (IntKind.u64).bits))=((b.toNat/16:Nat):Int):=by
 have:∀n:Fin 256,((n.val:Nat):Int).fdiv (2^(min (4:Int).toNat (IntKind.u64).bits))=((n.val/16:Nat):Int):=by decide
 exact this ⟨b.toNat,b.toNat_lt⟩
def ue(l:List UInt8):(eM l).all (dy 1)=true:=Ch (f:=fun b=>[bf b]) (fun _=>⟨rfl,rfl⟩) l
variable [bp]
def dg(n:Nat):AV:=bf (mb.getD n 0)
theorem Kc{tid:Nat}{rows:List (List AV)}(c:UInt8)(ht:h[tid]?=some (.tok 5 1 rows.length))(hr:rows.length≤2^40):
 bW p_ 154 [.sb tid 1 rows,.v (.int .u64 c.toNat),i_ 16,ff,tt] h fun r h' => r=.ay [.sb tid 1 (rows++eM (gA c)),.str []]∧Gw tid (rows.length+(gA c).length) h h':=by
 have hlt:=iW ht;have hc:c.toNat<256:=c.toNat_lt;refine (Zg _ _ _ _ _).bJ ?_;unfold SG;refine aF (zzC (aF (zzN rfl (zzG (aq (zzQ (aF (zzN rfl (zzE (aq (zzQ (sJ rfl (aq ?_)))))))))))));refine bT (h':=h++[.ak ⟨238,kn,true⟩]) (n:=h.length) (cs:=kn) rfl rfl rfl rfl (aF (sJ rfl (aq (aF (uCon Ni (zzL rfl (ub (m:=16) rfl (by decide) (uCon Tu (ub (m:=4) rfl (by decide) (ub (m:=16) rfl (by decide) (ub (m:=16) rfl (by decide) (D8 (c:=15) (by decide) rfl rfl (by decide) ?_))))))))))));have blk1:∀x:jJ,(h++[aK.ak x])[h.length]?=some (.ak x):=fun x=>by simp
 refine aZ (α:=Bool) (fun k=>k=true→16≤c.toNat) (fun k=>if k then [.v (.int .u64 ((c.toNat/16:Nat):Int)),i_ 64] else [.v (.int .u64 c.toNat),i_ 65])
  (fun k=>h++[.ak ⟨238,if k then kn.set 64 (dg (c.toNat%16)) else kn,true⟩]) (fun k=>if k then 0 else 1) false (by simp) (Wk.refl _ _ _ (bY _)) ?_
 have fin:∀(cs:List AV) (o:Nat),cs.length=65→o≤64→cs.drop o=(gA c).map bf→65-o=(gA c).length →
  qm 65 1 (.op h.length 0) (some (i_ o)) none (h++[.ak ⟨238,cs,true⟩]) fun v70=>bR false 5 1 1 (.sb tid 1 rows) v70 (h++[.ak ⟨238,cs,true⟩]) fun v71 g72 =>
   ∃r' h'',Wk h.length [.ay [v71,.str []]] g72 [r'] h''∧r'=.ay [.sb tid 1 (rows++eM (gA c)),.str []]∧Gw tid (rows.length+(gA c).length) h h'':=by
  intro cs o hl ho hd hn;unfold qm;simp only[eX,blk1];refine⟨⟨by omega,by omega,by omega,by decide,by decide⟩, ?_⟩;have e1:(65-(o:Int)).toNat=(gA c).length:=by omega
  have e2:0+(o:Int).toNat*1=o:=by omega
  rw[show ((65:Nat):Int)=65 from rfl,e1,e2];refine A4 (rows:=eM (gA c)) (k:=rows.length) rfl (by rw[gO hlt];exact ht) rfl ?_ (ue _) ⟨by unfold maxLen;have:=vk c;simp;omega,by have:=vk c;simp;omega⟩ rfl ?_
  ·rw[FT (blk1 _) (by simp only;omega)];simp only[hd]
   congr 1
   have:=pD (sz:=1) (eM (gA c)) (ue _);rw[←this]
   congr 1
   ·simp
   ·clear this hd hn;induction gA c with
    | nil=>rfl
    | cons a l ih=>simp[ih]
  ·rw[IN _ _ hlt];exact⟨_,_,Wk.refl _ _ _ (by simp),rfl,⟨_,by rw[show (eM (gA c)).length=(gA c).length by simp]⟩⟩
 intro k hk;cases k with
 | false =>
   by_cases q:16≤c.toNat
   ·refine zzF (zzL (oF (by omega)) (zze (a:=65) (b:=1) (by unfold aJ;omega) (IP rfl rfl (VP c) (D7 rfl rfl (n:=c.toNat%16) (by show _<36;omega) (BB (n:=64) rfl rfl (by omega) (aU (b:=⟨238,kn,true⟩) (cs:=[dg (c.toNat%16)]) (h':=h++[.ak ⟨238,kn.set 64 (dg (c.toNat%16)),true⟩]) rfl (blk1 _) rfl rfl (by simp[kn]) rfl rfl (by simp[bX]) (O3 rfl rfl (by decide) (aaf c) (aq ?_))))))));exact⟨true,fun _=>q,Wk.refl _ _ _ (by simp),by simp⟩
   ·have hx:gA c=[mb.getD c.toNat 0]:=by unfold gA;rw[if_neg q]
    refine zzF (zzK (nO (by omega)) (zze (a:=65) (b:=1) (by unfold aJ;omega) (D7 rfl rfl (n:=c.toNat) (by show _<36;omega) (BB (n:=64) rfl rfl (by omega) (aU (b:=⟨238,kn,true⟩) (cs:=[dg c.toNat]) (h':=h++[.ak ⟨238,kn.set 64 (dg c.toNat),true⟩]) rfl (blk1 _) rfl rfl (by simp[kn]) rfl rfl (by simp[bX]) (aq (aF (sJ rfl (aq (Gc rfl ?_))))))))));exact fin (kn.set 64 (dg c.toNat)) 64 (by simp[kn]) (by omega) (by rw[hx];rfl) (by rw[hx];rfl)
 | true =>
   have q:=hk rfl;have hx:gA c=[mb.getD (c.toNat/16) 0,mb.getD (c.toNat%16) 0]:=by unfold gA;rw[if_pos q]
   refine zzF (zzK (nO (by omega)) (zze (a:=64) (b:=1) (by unfold aJ;omega) (D7 rfl rfl (n:=c.toNat/16) (by show _<36;omega) (BB (n:=63) rfl rfl (by omega) (aU (b:=⟨238,kn.set 64 (dg (c.toNat%16)),true⟩) (cs:=[dg (c.toNat/16)]) (h':=h++[.ak ⟨238,(kn.set 64 (dg (c.toNat%16))).set 63 (dg (c.toNat/16)),true⟩]) rfl (blk1 _) rfl rfl (by simp[kn]) rfl rfl (by simp[bX]) (aq (aF (sJ rfl (aq (Gc rfl ?_))))))))));exact fin ((kn.set 64 (dg (c.toNat%16))).set 63 (dg (c.toNat/16))) 63 (by simp[kn]) (by omega) (by rw[hx];rfl) (by rw[hx];rfl)
def Kb{tid:Nat}{rows:List (List AV)}(c:UInt8)(ht:h[tid]?=some (.tok 5 1 rows.length))(hr:rows.length≤2^40):
 bW p_ 179 [.sb tid 1 rows,.v (.int .u64 c.toNat),i_ 16] h fun r h' => r=.sb tid 1 (rows++eM (gA c))∧Gw tid (rows.length+(gA c).length) h h':=by
 refine (Zp _ _ _).bJ ?_;unfold SP;refine zzG (zzK rfl (eG (by kernel_rfl) rfl (Kc c ht hr) ?_));rintro _ h' ⟨rfl,g⟩;refine zzB rfl (zzB rfl ?_);exact⟨_,_,Wk.refl _ _ _ g.len,rfl,g⟩
def MM{tid:Nat}{rows:List (List AV)}(c:UInt8)(ht:h[tid]?=some (.tok 5 1 rows.length))(hr:rows.length≤2^40):
 bW p_ 148 [.sb tid 1 rows,.v (.int .u64 c.toNat),i_ 16] h fun r h' => r=.sb tid 1 (rows++eM (gA c))∧Gw tid (rows.length+(gA c).length) h h':=by
 refine (Zf _ _ _).bJ ?_;unfold SF;refine eG (by kernel_rfl) rfl (Kb c ht hr) ?_;rintro _ h' ⟨rfl,g⟩;exact⟨_,_,Wk.refl _ _ _ g.len,rfl,g⟩
omit [bp] in
def vh{own:Bool}{tid:Nat}{rows:List (List AV)}(l:List UInt8){K:AV→aa→Prop}(ex:x=.sb tid 1 rows)(ey:y=.sl 1 (eM l))(ht:h[tid]?=some (.tok 5 1 rows.length))(hr:rows.length+l.length≤2^41)
 (q:K (.sb tid 1 (rows++eM l)) (h.set tid (.tok 5 1 (rows.length+l.length)))):bR own 5 1 1 x y h K:=by
 subst ey;refine A4 (rows:=eM l) (k:=rows.length) ex ht rfl gM (ue _) ⟨by unfold maxLen;simp;omega,by simp;omega⟩ rfl ?_;simpa using q
theorem z8{tid:Nat}{rows:List (List AV)}(c:UInt8)(ht:h[tid]?=some (.tok 5 1 rows.length))(hr:rows.length≤2^39):
 bW p_ 118 [.sb tid 1 rows,bf c] h fun r h' => r=.sb tid 1 (rows++eM (cC c))∧Gw tid (rows.length+(cC c).length) h h':=by
 have hlt:=iW ht;refine (YY _ _).bJ ?_;unfold Sn;have yes:∀{K:AV→aa→Prop},sh c=true→K (.sb tid 1 (rows++eM (cC c))) (h.set tid (.tok 5 1 (rows.length+(cC c).length))) →
  bt 2 1 (u8 0) [(0,1,(u8 92)),(1,1,bf c)] fun v21=>bR false 5 1 1 (.sb tid 1 rows) v21 h K:=by
  intro K e q;have e':cC c=[92,c]:=by unfold cC;rw[if_pos e]
  refine Tf (vh [92,c] rfl rfl ht (by simp;omega) ?_);rw[e']at q;exact q
 have no:∀{K:AV→aa→Prop},sh c=false→(∀h',Gw tid (rows.length+(cC c).length) h h'→K (.sb tid 1 (rows++eM (cC c))) h') →
  bt 1 1 (u8 0) [(0,1,(u8 92))] fun v24=>bR false 5 1 1 (.sb tid 1 rows) v24 h fun v25 g26=>cy .u64 (bf c) fun v27=>bx p_ (.fn (.func 148) [] []) [v25,v27,(i_ 16)] g26 fun v28 g29=>bt 1 1 (u8 0) [(0,1,(u8 32))] fun v30=>bR false 5 1 1 v28 v30 g29 K:=by
  intro K e q;have e':cC c=[92]++gA c++[32]:=by unfold cC;rw[e];rfl
  have hx:=vk c;refine og (vh [92] rfl rfl ht (by simp;omega) ?_);have hc:=c.toNat_lt;refine ub (m:=(c.toNat:Int)) rfl (by have:∀n:Fin 256,IntKind.wrap .u64 ((n.val:Nat):Int)=((n.val:Nat):Int):=(by decide);exact this ⟨c.toNat,hc⟩) ?_;refine eG (by kernel_rfl) rfl (MM c (by rw[iD hlt];simp) (by simp;omega)) ?_;rintro _ h' ⟨rfl,g⟩;have g1:Gw tid ((rows++eM [92]).length+(gA c).length) h h':=(Gw.set tid _ h).trans hlt g;refine og (vh [32] rfl rfl (by rw[g1.tok hlt];simp;omega) (by simp;omega) ?_);have:=q (h'.set tid (.tok 5 1 (rows.length+(cC c).length))) (g1.trans hlt (Gw.set tid _ h'));rw[e']at this;simpa[Nat.add_assoc]using this
 repeat' (first|(with_reducible first|apply aF|apply aq|refine And.intro True.intro ?_)|((with_reducible first|apply cH|apply fc);rfl;rfl)|((with_reducible apply dU);rfl)|((with_reducible apply aL);rfl)|((with_reducible apply aQ);rfl)|((with_reducible apply aw);rfl;first|rfl|assumption)|((with_reducible apply bz);rfl;first|rfl|assumption)|((with_reducible apply jl);rfl)|((with_reducible apply fy);rfl)|(refine uCon (u4 _) ?_)|(refine uCon (yw _) ?_)|((with_reducible apply cq);rfl)|((with_reducible apply cD);rfl)|(with_reducible intro _))
 all_goals first
  | refine yes (by grind [sh]) ⟨_,_,Wk.refl _ _ _ (by simp),rfl,Gw.set _ _ _⟩
  | refine no (by grind [sh]) fun h' g=>⟨_,_,Wk.refl _ _ _ g.len,rfl,g⟩
end
section
open Go Go.Aw Go.bo
def kF(s:ae):Nat:=if s.take 1=[45] then 2 else 1
def mn(s:ae)(fr i:Nat)(c:UInt8):Bool:=C8 c&&(decide ((fr:Int)≤(i:Int))||!ck c)&&(decide ((fr:Int)=0)||!decide (s=[45]))
def jL(s:ae)(fr i:Nat)(c:UInt8):ae:=if mn s fr i c then [c] else cC c
def jZ(s:ae)(fr k:Nat):ae:=(List.range k).flatMap fun i=>jL s fr i (s.getD i 0)
def fD(s:ae):ae:=jZ s (kF s) s.length
def QU(s:ae)(fr i:Nat)(c:UInt8):(jL s fr i c).length≤4:=by unfold jL;have:=EA c;split<;>simp;omega
def vz(s:ae)(fr k:Nat):jZ s fr (k+1)=jZ s fr k++jL s fr k (s.getD k 0):=by
 unfold jZ;rw[List.range_succ,List.flatMap_append];simp
theorem B7(s:ae)(fr:Nat):∀k,(jZ s fr k).length≤4*k
 | 0=>by simp[jZ]
 | k+1=>by
   have:=B7 s fr k;have h2:=QU s fr k (s.getD k 0);rw[vz,AT];omega
def Gw.refl{tid m:Nat}(ht:h[tid]?=some (.tok 5 1 m)):Gw tid m h h:=⟨[],by rw[ku ht];simp⟩
variable [bp]
def Nb(l m:ae):bn p_ 94 [.str l,.str m] (b_ (decide (m.length≤l.length)&&decide (l.take m.length=m))):=by
 refine (Xj _ _).bj (by simp) (by simp) ?_;unfold S8
 by_cases h1:m.length≤l.length
 ·simp[h1];refine fun _ _=>.pure (by simp) (by simp)
 ·simp[h1];refine fun _ _=>.pure (by simp) (by simp)
def Aj(s:ae):bn p_ 117 [.str s] (i_ (kF s)):=by
 refine (YX _).bj (by simp) (by simp) ?_;unfold Sl;have pre:bn p_ 59 [.str s,.str [45]] (b_ (decide (s.take 1=[45]))):=by
  refine (Xi _ _).bj (by simp) (by simp) ?_;unfold S7;refine uCon (Nb s [45]) (.pure (by simp) ?_)
  congr 2
  cases s<;>simp
 refine uCon pre ?_;refine cq rfl (fun q=>?_) fun q=>?_
 ·exact .pure (by simp) (by unfold kF;rw[if_pos (by simpa using q)];rfl)
 ·exact .pure (by simp) (by unfold kF;rw[if_neg (by simpa using q)];rfl)
theorem C7{h0 h:aa}{x0:AV}{tid:Nat}{base:List (List AV)}(s:ae)(fr:Nat)(ht:h[tid]?=some (.tok 5 1 base.length))(hb:base.length≤2^38)(hs:s.length≤2^35)
 (w0:Wk h0.length [x0,i_ 0] h0 [.sb tid 1 base,i_ 0] h) {K:AV→aa→Prop} (k:∀H,Gw tid (base.length+(jZ s fr s.length).length) h H→K (.sb tid 1 (base++eM (jZ s fr s.length))) H):MB x0 (.str s) (i_ fr) h0 K:=by
 have hlt:=iW ht;have h0l:h0.length≤h.length:=w0.1;unfold MB;refine zzZ fun _=>?_;refine aZ (α:=Nat×aa) (fun p=>p.1≤s.length∧Gw tid (base.length+(jZ s fr p.1).length) h p.2) (fun p=>[.sb tid 1 (base++eM (jZ s fr p.1)),i_ p.1]) (fun p=>p.2) (fun p=>s.length-p.1) (0,h) ⟨by simp,by simpa[jZ]using Gw.refl ht⟩ (by simpa[jZ]using w0) ?_;rintro⟨i,H⟩ ⟨hi,g⟩;simp only[eC,qJo,qJa,qKo,qKa]at hi g ⊢;have hl:=B7 s fr i
 by_cases q:i<s.length
 ·obtain⟨c,hc⟩:∃c,s[i]?=some c:=⟨s[i],dO q⟩;have hcd:s.getD i 0=c:=by rw[nE,hc];rfl
  refine zzC (zzL (oF (by omega)) (aF (uc rfl rfl hc ?_)));have htok:=g.tok hlt;have leaf:∀{H':aa} {x:List (List AV)},x=base++eM (jZ s fr i)++eM (jL s fr i c)→Gw tid (base.length+(jZ s fr i).length+(jL s fr i c).length) h H' →
   ∃y:Nat×aa,(y.1≤s.length∧Gw tid (base.length+(jZ s fr y.1).length) h y.2)∧Wk h0.length [.sb tid 1 x,i_ ((i:Int)+1)] H' [.sb tid 1 (base++eM (jZ s fr y.1)),i_ y.1] y.2∧s.length-y.1<s.length-i:=by
   intro H' x ex g';subst ex;refine⟨(i+1,H'),⟨by omega, ?_⟩, ?_,by omega⟩
   ·simp only[vz,hcd,AT];rw[←Nat.add_assoc];exact g'
   ·simp only[vz,hcd,List.map_append,←To];exact Wk.refl _ _ _ (aa7 h0l g'.len)
  have hin:aJ ((i:Int)+1):=by unfold aJ;omega
  have yes:∀{K:AV→aa→Prop} {x:AV},x=.sb tid 1 (base++eM (jZ s fr i))→mn s fr i c=true→K (.sb tid 1 (base++eM (jZ s fr i)++eM (jL s fr i c))) (H.set tid (.tok 5 1 (base.length+(jZ s fr i).length+(jL s fr i c).length))) →
   bt 1 1 (u8 0) [(0,1,bf c)] fun v38=>bR false 5 1 1 x v38 H K:=by
   intro K x ex e q;subst ex;have e':jL s fr i c=[c]:=by unfold jL;rw[if_pos e]
   refine og (vh [c] rfl rfl (by rw[htok];simp) (by simp;omega) ?_);rw[e']at q;simpa[Nat.add_assoc]using q
  have no:∀{K:AV→aa→Prop} {x:AV},x=.sb tid 1 (base++eM (jZ s fr i))→mn s fr i c=false→(∀H',Gw tid (base.length+(jZ s fr i).length+(jL s fr i c).length) h H'→K (.sb tid 1 (base++eM (jZ s fr i)++eM (jL s fr i c))) H') →
   bx p_ (.fn (.func 118) [] []) [x,bf c] H K:=by
   intro K x ex e q;subst ex;have e':jL s fr i c=cC c:=by unfold jL;rw[e];rfl
   refine eG (by kernel_rfl) rfl (z8 c (by rw[htok];simp) (by simp;omega)) ?_;rintro _ H' ⟨rfl,g'⟩;rw[←e']at g' ⊢;exact q H' (g.trans hlt (by simpa using g'))
  repeat' (first|(with_reducible first|apply aF|refine And.intro True.intro ?_)|((with_reducible first|apply mD|apply bU);rfl;rfl)|((with_reducible apply jT);rfl;rfl)|((with_reducible apply dU);rfl)|((with_reducible apply aL);rfl)|((with_reducible apply aQ);rfl)|((with_reducible apply au);rfl;first|rfl|assumption)|((with_reducible apply aw);rfl;first|rfl|assumption)|((with_reducible apply bw);rfl;first|rfl|assumption)|((with_reducible apply bz);rfl;first|rfl|assumption)|((with_reducible apply dG);rfl)|((with_reducible apply jl);rfl)|((with_reducible apply fy);rfl)|(refine uCon (I6 _) ?_)|(refine uCon (u4 _) ?_)|((with_reducible apply cq);rfl)|((with_reducible apply cD);rfl)|(with_reducible intro _))
  all_goals first
   | refine yes rfl (by grind [mn]) ?_
     refine And.intro True.intro (zzP hin (And.intro True.intro ?_));exact leaf rfl (g.trans hlt (Gw.set _ _ _))
   | refine no rfl (by grind [mn]) fun H' g' => ?_
     refine And.intro True.intro (zzP hin (And.intro True.intro ?_));exact leaf rfl g'
 ·obtain rfl:i=s.length:=by omega
  refine zzC (zzK (nO (by omega)) ?_);exact k H g
def MQ{tid:Nat}{base:List (List AV)}(s:ae)(fr:Nat)(ht:h[tid]?=some (.tok 5 1 base.length))(hb:base.length≤2^38)(hs:s.length≤2^35):
 bW p_ 116 [.sb tid 1 base,.str s,i_ fr] h fun r h' => r=.sb tid 1 (base++eM (jZ s fr s.length))∧Gw tid (base.length+(jZ s fr s.length).length) h h':=by
 refine (R2 _ _ _).bJ ?_;refine C7 s fr ht hb hs (Wk.refl _ _ _ (bY _)) fun H g=>?_;exact⟨_,_,Wk.refl _ _ _ g.len,rfl,g⟩
def Kd{h:aa}(s:ae)(fr:Nat)(hs:s.length≤2^35):
 bW p_ 116 [.v (.slice none 0 0),.str s,i_ fr] h fun r h' => r=.sb h.length 1 (eM (jZ s fr s.length))∧∃j,h'=h++j:=by
 refine (R2 _ _ _).bJ ?_;refine C7 (h:=h++[.tok 5 1 0]) (tid:=h.length) (base:=[]) s fr (by simp) (by simp) hs ?_ fun H g=>?_
 ·exact (Wk.nil (bY _) 0 rfl).trans (Wk.tok (bY _) 0 5 1 rfl)
 ·obtain⟨j,rfl⟩:=g;refine⟨_,_,Wk.refl _ _ _ (by simp),by simp, ?_⟩;rw[IF _ _ (bY _),To];exact⟨_,rfl⟩
end
section
open Go Go.Aw Go.bo
def FA(c:UInt8):Bool:=decide (0≤Lib.indexByte [10,12,13,34,92] c)
def iG(c:UInt8):ae:=if FA c then cC c else [c]
def uB(s:ae):ae:=[34]++s.flatMap iG++[34]
def vW(k:Int)(s:ae)(f:Bool):AV:=.agg [u8 k,.str s,i_ 0,.str [],b_ f]
def Ra(c:UInt8):(iG c).length≤4:=by unfold iG;have:=EA c;split<;>simp;omega
theorem Cd:∀(s:ae),(s.flatMap iG).length≤4*s.length
 | []=>by simp
 | c:: s=>by
   have:=Cd s;have h2:=Ra c;simp only[List.flatMap_cons,AT,aaP];omega
def FB{s:ae}{i:Nat}{c:UInt8}(hc:s[i]?=some c):(s.take (i+1)).flatMap iG=(s.take i).flatMap iG++iG c:=by
 rw[By,hc,List.flatMap_append];simp
variable [bp]
def Dv(s:ae)(b:UInt8):bn p_ 72 [.str s,bf b] (i_ (Lib.indexByte s b)):=by
 refine iy (v:=.int .i64 (Lib.indexByte s b)) (by simp[bf]) (by simp) (by simp) (fun w=>by simp) ?_;intro ι S w vs h1 _
 match vs,h1 with
 | [],h1=>simp at h1
 | [v],h1=>simp at h1
 | v:: u:: x:: vs,h1=>simp at h1
 | [v,u],h1 =>
   simp only[bf,bP,dt,and_true,eF,cz]at h1;obtain⟨⟨rfl,_⟩,rfl⟩:=h1;refine (Any.strings_IndexByte lays137 ⟨s.toArray⟩ (b.toNat:Int) w).mono ?_;rintro e w' ⟨rfl,rfl⟩;exact⟨by simp,Go.RowKit.Below.refl _ _⟩
omit [bp] in
def O0{K:AV→Prop}(ex:x=.str a)(ey:y=.str b)(hc:a++b=c)(hl:c.length≤maxLen)(q:K (.str c)):ag .add x y K:=by
 subst ex;subst ey;subst hc;exact⟨by simpa using hl,q⟩
def zza{K:AV→Prop}(hc:a++b=c)(hl:c.length≤maxLen)(q:K (.str c)):ag .add (.str a) (.str b) K:=O0 rfl rfl hc hl q
def Bs(k:Int)(s:ae)(f:Bool):Prop:=(k=1∧f=false∧s≠[])∨(k=4∧f=true∧s≠[])∨(k=5∧f=false)
def Na(k:Int)(s:ae)(f:Bool)(ok:Bs k s f)(hz:gF s=true)(hs:s.length≤2^35):bn p_ 84 [vW k s f] (b_ true):=by
 have hi:Lib.indexByte s 0<0:=by
  have:=ox s;rw[hz]at this;simpa using this
 refine (V84 _).bj (by simp[vW]) (by simp) ?_;unfold Yn vW;refine bT (h':=[.ak ⟨70,[u8 k,.str s,i_ 0,.str [],b_ f],true⟩]) (n:=0) (cs:=[u8 k,.str s,i_ 0,.str [],b_ f]) rfl rfl rfl rfl (zzA (zzU rfl rfl (zzA (zzU rfl rfl (zza (aaZ s) (by unfold maxLen;omega) (uCon (ug s) (oJ true rfl rfl (oF hi) ?_)))))));rcases ok with⟨rfl,rfl,hn⟩|⟨rfl,rfl,hn⟩|⟨rfl,rfl⟩
 ·obtain⟨c,l,rfl⟩:=List.exists_cons_of_ne_nil hn;repeat' (first|(with_reducible first|apply aF|apply aq)|((with_reducible apply bU);rfl;rfl)|((with_reducible first|apply gQ|apply jT);rfl;rfl)|((with_reducible apply dU);rfl)|((with_reducible apply aL);rfl)|((with_reducible apply aQ);rfl)|((with_reducible apply au);rfl;first|rfl|assumption)|((with_reducible apply bw);rfl;first|rfl|assumption)|((with_reducible apply bz);rfl;first|rfl|assumption)|((with_reducible apply aH);rfl)|((with_reducible apply aD);rfl;rfl;rfl))
  all_goals exact .pure (by simp) rfl
 ·obtain⟨c,l,rfl⟩:=List.exists_cons_of_ne_nil hn;repeat' (first|(with_reducible first|apply aF|apply aq)|((with_reducible apply bU);rfl;rfl)|((with_reducible first|apply gQ|apply jT);rfl;rfl)|((with_reducible apply aL);rfl)|((with_reducible apply aQ);rfl)|((with_reducible apply au);rfl;first|rfl|assumption)|((with_reducible apply aw);rfl;first|rfl|assumption)|((with_reducible apply bw);rfl;first|rfl|assumption)|((with_reducible apply bz);rfl;first|rfl|assumption)|((with_reducible apply dG);rfl)|((with_reducible apply aH);rfl)|((with_reducible apply aD);rfl;rfl;rfl))
  all_goals exact .pure (by simp) rfl
 ·repeat' (first|(with_reducible first|apply aF|apply aq)|((with_reducible apply bU);rfl;rfl)|((with_reducible apply gQ);rfl;rfl)|((with_reducible apply dU);rfl)|((with_reducible apply aL);rfl)|((with_reducible apply aQ);rfl)|((with_reducible apply au);rfl;first|rfl|assumption)|((with_reducible apply aw);rfl;first|rfl|assumption)|((with_reducible apply bw);rfl;first|rfl|assumption)|((with_reducible apply bz);rfl;first|rfl|assumption)|((with_reducible apply aH);rfl)|((with_reducible apply aD);rfl;rfl;rfl))
  all_goals exact .pure (by simp) rfl
omit [bp] in
def EF(l:List UInt8){K:AV→aa→Prop}(ex:x=.v (.slice none 0 0))(ey:y=.sl 1 (eM l))(hr:l.length≤2^41)(q:K (.sb h.length 1 (eM l)) (h++[.tok 5 1 l.length])):bR false 5 1 1 x y h K:=by
 subst ex;subst ey;unfold bR eI;rw[gM];exact⟨ue l,⟨by unfold maxLen;simp;omega,by simp;omega⟩,by simpa using q⟩
def jz(k:Int)(s:ae):ae:=if k=5 then uB s else (if k=4 then [35] else [])++fD s
def MS{h:aa}(k:Int)(s:ae)(f:Bool)(ok:Bs k s f)(hs:s.length≤2^35):
 bW p_ 85 [.v (.slice none 0 0),vW k s f] h fun r h' => h.length≤h'.length∧∃id,r=.sb id 1 (eM (jz k s)):=by
 refine (V85 _ _).bJ ?_;unfold Yo vW;have ak:∀(x:jJ) (j:aa),(h++aK.ak x:: j)[h.length]?=some (.ak x):=fun x j=>by simp
 refine bT (h':=h++[.ak ⟨70,[u8 k,.str s,i_ 0,.str [],b_ f],true⟩]) (n:=h.length) (cs:=[u8 k,.str s,i_ 0,.str [],b_ f]) rfl rfl rfl rfl (zzA (zzU (ak _ _) rfl ?_));rcases ok with⟨rfl,rfl,hn⟩|⟨rfl,rfl,hn⟩|⟨rfl,rfl⟩
 ·refine zzG (zzL rfl (zzA (zzU (ak _ _) rfl (zzA (zzU (ak _ _) rfl (zzT (by kernel_rfl) (Aj s) (eG (by kernel_rfl) rfl (Kd s (kF s) hs) ?_)))))));rintro _ h' ⟨rfl,j,rfl⟩;exact⟨_,_,Wk.refl _ _ _ (by simp),by simp,_,rfl⟩
 ·refine zzG (zzK rfl (zzG (zzK rfl (zzG (zzK rfl (zzG (zzL rfl (aF (zzA (zzU (ak _ _) rfl (zzL rfl (zzA (zzU (ak _ _) rfl ?_)))))))))))));refine uCon (Aj s) (aq (og (zzA (zzU (ak _ _) rfl (EF [35] rfl rfl (by simp) (eG (by kernel_rfl) rfl (MQ s (kF s) (by simp) (by simp) hs) ?_))))));rintro _ h' ⟨rfl,g⟩;have:=g.len;simp at this;exact⟨_,_,Wk.refl _ _ _ (by omega),by omega,_,rfl⟩
 ·refine zzG (zzK rfl (zzG (zzK rfl (zzG (zzK rfl (zzG (zzK rfl (zzG (zzL rfl (og (EF [34] rfl rfl (by simp) ?_)))))))))));rw[show (h++[aK.ak ⟨70,[u8 5,.str s,i_ 0,.str [],b_ false],true⟩]).length=h.length+1 by simp];refine zzA (zzU (by rw[To];exact ak _ _) rfl ?_);rw[vm,ur];intro _;rw[show (h++[aK.ak ⟨70,[u8 5,.str s,i_ 0,.str [],b_ false],true⟩]++[aK.tok 5 1 ([34]:ae).length]).length=h.length+2 by simp];have hT:∀e:aK,(h++[aK.ak ⟨70,[u8 5,.str s,i_ 0,.str [],b_ false],true⟩]++[aK.tok 5 1 ([34]:ae).length]++[e])[h.length+1]?=some (.tok 5 1 1):=fun e=>by
   rw[To,To,gT (by omega)];simp
  have hB:∀e:aK,(h++[aK.ak ⟨70,[u8 5,.str s,i_ 0,.str [],b_ false],true⟩]++[aK.tok 5 1 ([34]:ae).length]++[e])[h.length+2]?=some e:=fun e=>by
   rw[To,To,gT (by omega)];simp
  have hT0:=hT (.ak ⟨5,s.map bf,true⟩);have hB0:=hB (.ak ⟨5,s.map bf,true⟩);generalize (h++[aK.ak ⟨70,[u8 5,.str s,i_ 0,.str [],b_ false],true⟩]++[aK.tok 5 1 ([34]:ae).length]++[aK.ak ⟨5,s.map bf,true⟩])=H0 at hT0 hB0 ⊢;have hlt:=iW hT0;have hlb:=iW hB0;have hl0:h.length≤H0.length:=by omega
  refine aZ (α:=Nat×aa) (fun p=>p.1≤s.length∧Gw (h.length+1) (1+((s.take p.1).flatMap iG).length) H0 p.2) (fun p=>[.sb (h.length+1) 1 (eM ([34]++(s.take p.1).flatMap iG)),i_ p.1]) (fun p=>p.2) (fun p=>s.length-p.1) (0,H0) ⟨by simp,by simpa using Gw.refl hT0⟩ (by simpa using Wk.refl _ _ _ (bY _)) ?_;rintro⟨i,H⟩ ⟨hi,g⟩;simp only[eC,qJo,qJa,qKo,qKa]at hi g ⊢;have hl:((s.take i).flatMap iG).length≤4*i:=by have:=Cd (s.take i);rw[aaW]at this;omega
  have htok:=g.tok hlt;have hlen:(eM ([34]++(s.take i).flatMap iG)).length=1+((s.take i).flatMap iG).length:=by
   simp only[AT,aaQ,aaP,abr]
  by_cases q:i<s.length
  ·obtain⟨c,hc⟩:∃c,s[i]?=some c:=⟨s[i],dO q⟩;refine zzC (zzL (oF (by omega)) (aF (jm (n:=i) rfl rfl q (zzU (b:=⟨5,s.map bf,true⟩) (c:=bf c) (by rw[g.other hlb (by omega)];exact hB0) (by simp[hc]) (uCon (Dv [10,12,13,34,92] c) (zzF ?_))))));have hin:aJ ((i:Int)+1):=by unfold aJ;omega
   have leaf:∀{H':aa} {x:List (List AV)},x=eM ([34]++(s.take i).flatMap iG)++eM (iG c)→Gw (h.length+1) (1+((s.take i).flatMap iG).length+(iG c).length) H0 H' →
    ∃y:Nat×aa,(y.1≤s.length∧Gw (h.length+1) (1+((s.take y.1).flatMap iG).length) H0 y.2)∧Wk H0.length [.sb (h.length+1) 1 x,i_ ((i:Int)+1)] H' [.sb (h.length+1) 1 (eM ([34]++(s.take y.1).flatMap iG)),i_ y.1] y.2∧s.length-y.1<s.length-i:=by
    intro H' x ex g';subst ex;refine⟨(i+1,H'),⟨by omega, ?_⟩, ?_,by omega⟩
    ·simp only[FB hc,AT];rw[←Nat.add_assoc];exact g'
    ·simp only[FB hc,List.map_append,←To];exact Wk.refl _ _ _ g'.len
   refine cq rfl (fun e=>?_) fun e=>?_
   ·have e':iG c=cC c:=by unfold iG;rw[if_pos (by exact e)]
    refine eG (by kernel_rfl) rfl (z8 c (by rw[htok,hlen]) (by rw[hlen];omega)) ?_;rintro _ H' ⟨rfl,g'⟩;refine And.intro True.intro (zzP hin (And.intro True.intro ?_));refine leaf (by rw[e']) (g.trans hlt ?_);rw[e',←hlen];exact g'
   ·have e':iG c=[c]:=by unfold iG;rw[if_neg (by simpa[FA]using e)]
    refine og (vh [c] rfl rfl (by rw[htok,hlen]) (by rw[hlen];show _+1≤_;omega) (And.intro True.intro (zzP hin (And.intro True.intro ?_))));refine leaf (by rw[e']) (g.trans hlt ?_);rw[e',←hlen];exact Gw.set _ _ H
  ·obtain rfl:i=s.length:=by omega
   refine zzC (zzK (nO (by omega)) (og (vh [34] rfl rfl (by rw[htok,hlen]) (by rw[hlen];show _+1≤_;omega) ?_)));refine⟨_,_,Wk.refl _ _ _ (by have:=g.len;rw[aa1];omega),by have:=g.len;rw[aa1];omega,h.length+1, ?_⟩;simp[jz,uB]
def P1(k:Int)(s:ae)(f:Bool)(ok:Bs k s f)(hz:gF s=true)(hs:s.length≤2^35):bn p_ 52 [vW k s f] (.ay [.str (jz k s),i_ 0]):=by
 refine (V52 _).bj (by simp[vW]) (by simp) ?_;unfold XW;refine bT (h':=[.ak ⟨70,[u8 k,.str s,i_ 0,.str [],b_ f],true⟩]) (n:=0) (cs:=[u8 k,.str s,i_ 0,.str [],b_ f]) rfl rfl rfl rfl (zzV rfl (bY _) (uCon (Na k s f ok hz hs) (zzO (zzK rfl (zzV rfl (bY _) (eG (by kernel_rfl) rfl (MS k s f ok hs) ?_))))));rintro _ h' ⟨_,id,rfl⟩;have e:((jA h' 1 (.sb id 1 (eM (jz k s)))).bind fun p=>wF p.flatten)=some (jz k s):=by
  rw[L0,Option.bind_some];have:∀l:ae,(eM l).flatten=l.map bf:=fun l=>by induction l with
   | nil=>rfl
   | cons a l ih=>simp[ih]
  rw[this,nV]
 unfold cP;rw[e];exact .pure (by simp) rfl
end
section
open Go Go.Aw Go.bo
def A8:List ae:=[[],[61],[126,61],[124,61],[94,61],[36,61],[42,61]]
def qB:List ae:=[[],[32],[32,62,32],[32,43,32],[32,126,32]]
def sR(n:ae)(o:Int)(v:ae)(f:Bool):ae:=[91]++fD n++(if o=0 then [] else A8.getD o.toNat []++uB v)++(if f then [32,105] else [])++[93]
def kq(k a b:Int)(w:Bool):Bool:=eO k&&!w&&decide (a=0)&&decide (b=1)
def HQ(n:Nat):(A8.getD n []).length≤2:=by
 match n with
 | 0|1|2|3|4|5|6=>decide
 | n+7=>simp[A8]
def B1(n:Nat):(qB.getD n []).length≤3:=by
 match n with
 | 0|1|2|3|4=>decide
 | n+5=>simp[qB]
def HZ(s:ae):(uB s).length≤4*s.length+2:=by
 have:=Cd s;unfold uB;simp only[AT,aaP,abr];omega
def uy(s:ae):(fD s).length≤4*s.length:=B7 s (kF s) s.length
def PQ(n:ae)(o:Int)(v:ae)(f:Bool):(sR n o v f).length≤4*n.length+4*v.length+8:=by
 have h1:=uy n;have h2:=HZ v;have h3:=HQ o.toNat;unfold sR;simp only[AT,aaP,abr];split<;>split<;>simp only[AT,aaP,abr]<;>omega
end
section
open Go Go.Aw
variable [Laid]
def XX(n:AV)(h:aa)(K:AV→aa→Prop):Prop:=
 aV 44 n h fun a j=>ah true 2 a j fun o=>iC p_ 86 [o] j fun k f=>qBe .neq k 0 fun p=>af p (K (.ay [.str [],k]) f) (iFL 1 false 1 a f fun q=>iC p_ 87 [q,i_ 10] f fun b d=>iFL 0 false 1 a d fun r=>qBe .eql r 0 fun s=>af s (K (.ay [b,i_ 0]) d) (iFL 0 false 1 a d fun t=>iC p_ 87 [t,i_ 10] d fun g e=>aG (fun l=>iFL 0 false 1 a e fun u=>qBe .eql u 1 fun v=>qJo v [a,b,g] e (fun w=>iFL 0 false 1 a e fun x=>qBe .eql x (-1) fun y=>w y e) fun z m=>af z (iC p_ 88 [g,.str [49]] m fun A B=>eC [a,b] (l [A] B)) (eC [a,b] (l [g] m))) fun C c=>ag .add (nx C 0) (.str [110]) fun i=>iFL 1 false 1 a c fun D=>qBe .gtr D 0 fun E=>af E (ag .add (.str [43]) b fun F=>ag .add i F fun G=>K (.ay [G,i_ 0]) c) (iFL 1 false 1 a c fun H=>qBe .lss H 0 fun I=>af I (ag .add i b fun J=>K (.ay [J,i_ 0]) c) (K (.ay [i,i_ 0]) c))))
def V54(a:AV):Body p_ 54 [a] (XX a):=bC Tryz.func54 (sn (sn (sn (sn (sn (.join [1,5] [6] (.seq (.aN (oR 0 4 (.aA 3 false (fR 4 3) [1,5,6] [25,28]::.op 7 false::[]))) .nil) .nil)))))) 50 [.tmp 2,.tmp 3]
def Yq(a b:AV)(h:aa)(K:AV→aa→Prop):Prop:=
 iC p_ 123 [a,b] h fun c d=>K c d
def V88(a b:AV):Body p_ 88 [a,b] (Yq a b):=bC Tryz.func88 .nil 8 [.tmp 4]
def Sp(a b:AV)(h:aa)(K:AV→aa→Prop):Prop:=
 iC p_ 155 [a,b] h fun d c=>af d (cZ a fun e=>cZ b fun f=>ag .sub e f fun g=>eV a none (some g) fun i=>K i c) (K a c)
def Y0(a b:AV):Body p_ 123 [a,b] (Sp a b):=bC Tryz.func123 .nil 16 [.tmp 4]
def SH(a b:AV)(h:aa)(K:AV→aa→Prop):Prop:=
 cZ a fun c=>cZ b fun d=>ag .geq c d fun e=>qKa e h (fun f=>cZ a fun g=>cZ b fun i=>ag .sub g i fun j=>eV a (some j) none fun k=>ag .eql k b fun l=>f l h) fun m n=>K m n
def Zh(a b:AV):Body p_ 155 [a,b] (SH a b):=bC Tryz.func155 (sn (.seq (.aN (oR 0 6 (.aA 5 true (fR 6 9) [] [10,19]::oR 15 2 []))) .nil)) 21 [.tmp 4]
end
section
open Go.Shelf
theorem uSo2{α:Type}{a b:α}(h:a=b:=by kernel_rfl):some a=some b:=congrArg some h
def laysM173_ren:Go.Shelf.Ren:=⟨fun|173=>87|246=>122|283=>151|284=>152|285=>153|286=>154|129=>185|317=>184|318=>186|319=>187|320=>188|337=>202|338=>203|n=>n,fun|2=>2|3=>3|9=>9|4=>4|171=>199|0=>0|53=>196|37=>35|5=>5|173=>202|212=>237|51=>150|20=>20|213=>238|46=>188|232=>283|233=>284|n=>n,fun|17=>1|18=>2|19=>3|n=>n⟩
theorem laysM173:Go.Proofs.LaysM.n173 p_ laysM173_ren:={
 mixed:=by kernel_rfl
 f129:=Tryz.func185.trans uSo2
 f173:=Tryz.func87.trans uSo2
 f246:=Tryz.func122.trans uSo2
 f283:=Tryz.func151.trans uSo2
 f284:=Tryz.func152.trans uSo2
 f285:=Tryz.func153.trans uSo2
 f286:=Tryz.func154.trans uSo2
 f317:=Tryz.func184.trans uSo2
 f318:=Tryz.func186.trans uSo2
 f319:=Tryz.func187.trans uSo2
 f320:=Tryz.func188.trans uSo2
 f337:=Tryz.func202.trans uSo2
 f338:=Tryz.func203.trans uSo2
 t0:=Tryz.underlying0
 a0:=Tryz.isAgg0
 z0:=Tryz.sizeOf0
 v0:=Tryz.zeroValue0
 t2:=Tryz.underlying2
 a2:=Tryz.isAgg2
 z2:=Tryz.sizeOf2
 v2:=Tryz.zeroValue2
 t3:=Tryz.underlying3
 a3:=Tryz.isAgg3
 z3:=Tryz.sizeOf3
 v3:=Tryz.zeroValue3
 t4:=Tryz.underlying4
 a4:=Tryz.isAgg4
 z4:=Tryz.sizeOf4
 v4:=Tryz.zeroValue4
 t5:=Tryz.underlying5
 a5:=Tryz.isAgg5
 z5:=Tryz.sizeOf5
 v5:=Tryz.zeroValue5
 t9:=Tryz.underlying9
 a9:=Tryz.isAgg9
 z9:=Tryz.sizeOf9
 v9:=Tryz.zeroValue9
 t20:=Tryz.underlying20
 a20:=Tryz.isAgg20
 z20:=Tryz.sizeOf20
 v20:=Tryz.zeroValue20
 t37:=Tryz.underlying35
 a37:=Tryz.isAgg35
 z37:=Tryz.sizeOf35
 v37:=Tryz.zeroValue35
 t46:=Tryz.underlying188
 a46:=Tryz.isAgg188
 z46:=Tryz.sizeOf188
 v46:=Tryz.zeroValue188
 t51:=Tryz.underlying150
 a51:=Tryz.isAgg150
 z51:=Tryz.sizeOf150
 v51:=Tryz.zeroValue150
 t53:=Tryz.underlying196
 a53:=Tryz.isAgg196
 z53:=Tryz.sizeOf196
 v53:=Tryz.zeroValue196
 t171:=Tryz.underlying199
 a171:=Tryz.isAgg199
 z171:=Tryz.sizeOf199
 v171:=Tryz.zeroValue199
 t173:=Tryz.underlying202
 a173:=Tryz.isAgg202
 z173:=Tryz.sizeOf202
 v173:=Tryz.zeroValue202
 t212:=Tryz.underlying237
 a212:=Tryz.isAgg237
 z212:=Tryz.sizeOf237
 v212:=Tryz.zeroValue237
 t213:=Tryz.underlying238
 a213:=Tryz.isAgg238
 z213:=Tryz.sizeOf238
 t232:=Tryz.underlying283
 a232:=Tryz.isAgg283
 z232:=Tryz.sizeOf283
 v232:=Tryz.zeroValue283
 t233:=Tryz.underlying284
 a233:=Tryz.isAgg284
 z233:=Tryz.sizeOf284
 v233:=Tryz.zeroValue284
 g17:=by kernel_rfl
 g18:=by kernel_rfl
 g19:=by kernel_rfl
 i0:=by kernel_rfl
 i2:=by kernel_rfl
 i3:=by kernel_rfl
 i4:=by kernel_rfl
 i5:=by kernel_rfl
 i9:=by kernel_rfl
 i20:=by kernel_rfl
 i37:=by kernel_rfl
 i46:=by kernel_rfl
 i51:=by kernel_rfl
 i53:=by kernel_rfl
 i171:=by kernel_rfl
 i173:=by kernel_rfl
 i212:=by kernel_rfl
 i232:=by kernel_rfl
 i233:=by kernel_rfl
 m17:=by kernel_rfl
 m18:=by kernel_rfl
 m19:=by kernel_rfl }
open Go.RowKit Go.Sort Go.Lib in
theorem BJ(n:Int)(h0:-9223372036854775808≤n)(h1:n≤9223372036854775807)(w:World)(htab:Lib.TabIs p_ w "internal/strconv.uint64pow10" .u64 Lib.pow10Tab):
 Calls p_ 87 #[.int .i64 n,.int .i64 10] w fun e w' => e=.returned (.string ⟨(Lib.itoa n).toArray⟩)∧∃k os,w'=grow (w.drewN k) os:=Any.strconv_FormatInt_10 laysM173 n h0 h1 w htab
end
section
open Go Go.Aw Go.bo Go.RowKit
def MT(A B:Int):AV:=.agg [i_ A,i_ B]
def oO(n:Int):Bool:=decide (-1000000000≤n)&&decide (n≤1000000000)
def A7(n:Int):oO n=gu n:=by
 unfold oO gu;rw[Bool.eq_iff_iff];simp
def UC:List Int:=[1,10,100,1000,10000,100000,1000000,10000000,100000000,1000000000,10000000000,100000000000,1000000000000,10000000000000,100000000000000,1000000000000000,10000000000000000,100000000000000000,1000000000000000000,10000000000000000000]
def UB:List AV:=UC.map fun z=>.v (.int .u64 z)
def Vm{name:String}{zs:List Int}(hn:P.globalNamed name=some g)(h:bE [] S W (zs.map fun z=>.v (.int k z)) g 0)(hs:∃ty,W.shape? g=some (ty,zs.length)):Lib.TabIs P W name k zs:=by
 obtain⟨ty,hs⟩:=hs;unfold Lib.TabIs World.var?;rw[hn,Option.bind_some];unfold World.shape? at hs;split at hs
 ·rename_i c t f hh;simp only[On,aaY]at hs;obtain⟨_,hz⟩:=hs;rw[hh];simp only[On];refine Array.ext (by simpa using hz) fun i h1 h2=>?_;have hi:i<zs.length:=by simpa using h2
  obtain⟨u,hu,_,ru⟩:=h.get i (.v (.int k zs[i])) (by rw[iN,dO hi];rfl);rw[cz]at ru;subst ru;rw[aa4,gb hh]at hu;rw[UP h1]at hu;simpa using hu
 ·cases hs
variable [bp]
def GY(n:Int)(h:aJ n):bn p_ 87 [i_ n,i_ 10] (.str (Lib.itoa n)):=by
 have hlen:(Lib.itoa n).length≤21:=by
  unfold aJ at h;unfold Lib.itoa;have key:∀u:Nat,u≤9223372036854775808→(Lib.decDigits u).length≤20:=fun u hu=>by
   rw[Lib.decDigits_length]
   by_cases h0:u=0
   ·subst h0;rw[Lib.nDigits_small (by omega)];omega
   ·have:=Lib.numDigits_eq u (by omega) (by omega);split at this<;>omega
  split
  ·have:=key n.natAbs (by omega);simp;omega
  ·have:=key n.toNat (by omega);omega
 refine iy (v:=.string ⟨(Lib.itoa n).toArray⟩) (by simp[aO]) (by simp) (by simp) (fun w=>by simp[maxLen];omega) ?_;intro ι S w vs h1 hg
 match vs,h1 with
 | [],h1=>simp at h1
 | [v],h1=>simp at h1
 | v:: u:: x:: vs,h1=>simp at h1
 | [v,u],h1 =>
   simp only[bP,dt,and_true,cz]at h1;obtain⟨rfl,rfl⟩:=h1;have ht:Lib.TabIs p_ w "internal/strconv.uint64pow10" .u64 Lib.pow10Tab:=by
    have e:Lib.pow10Tab=UC:=by decide
    rw[e];obtain⟨hc,hs⟩:=hg 1 UB (by rfl);exact Vm (g:=1) (by kernel_rfl) hc (by simpa[UB]using hs)
   refine (BJ n h.1 h.2 w ht).mono ?_;rintro e w' ⟨rfl,k,os,rfl⟩;exact⟨rfl,Lib.below_grow _ _ (bY _) _ _⟩
/-! ### The reference's digits -/
omit [bp] in
def vo(n:Int)(h:oO n=true):(Lib.itoa n).length≤21:=by
 simp only[oO,NO,Of]at h;unfold Lib.itoa;have key:∀u:Nat,u≤1000000000→(Lib.decDigits u).length≤20:=fun u hu=>by
  rw[Lib.decDigits_length]
  by_cases h0:u=0
  ·subst h0;rw[Lib.nDigits_small (by omega)];omega
  ·have:=Lib.numDigits_eq u (by omega) (by omega);split at this<;>omega
 split
 ·have:=key n.natAbs (by omega);simp;omega
 ·have:=key n.toNat (by omega);omega
def mU(A B:Int):List UInt8:=
 if A=0 then Lib.itoa B else
  (if A=1 then [] else if A=-1 then [45] else Lib.itoa A)++[110]++(if 0<B then 43:: Lib.itoa B else if B<0 then Lib.itoa B else [])
def Du(s:List UInt8)(h:s=[49]∨s=[45,49]):bn p_ 155 [.str s,.str [49]] (b_ true):=by
 refine (Zh _ _).bj (by simp) (by simp) ?_;unfold SH;rcases h with rfl|rfl<;>simp[maxLen,aJ]<;>exact .pure (by simp) rfl
def Kt(s:List UInt8)(h:s=[49]∨s=[45,49]):bn p_ 123 [.str s,.str [49]] (.str (s.dropLast)):=by
 refine (Y0 _ _).bj (by simp) (by simp) ?_;unfold Sp;refine zzS (by kernel_rfl) (Du s h) ?_;rcases h with rfl|rfl<;>simp[maxLen,aJ]<;>exact .pure (by simp) rfl
def Et(s:List UInt8)(h:s=[49]∨s=[45,49]):bn p_ 88 [.str s,.str [49]] (.str (s.dropLast)):=by
 refine (V88 _ _).bj (by simp) (by simp) ?_;unfold Yq;refine zzS (by kernel_rfl) (Kt s h) ?_;exact .pure (by simp) rfl
omit [bp] in
def EP:Lib.itoa 1=[49]:=by rw[Lib.itoa,if_neg (by omega),Lib.decDigits,dif_pos (by decide)];rfl
omit [bp] in
def itoa_neg:Lib.itoa (-1)=[45,49]:=by rw[Lib.itoa,if_pos (by omega),Lib.decDigits,dif_pos (by decide)];rfl
def Nk(A B:Int)(hA:oO A=true)(hB:oO B=true):bn p_ 54 [MT A B] (.ay [.str (mU A B),i_ 0]):=by
 refine (V54 _).bj (by simp[MT]) (by simp) ?_;unfold XX;simp[MT,-AH];have hc:bn p_ 86 [.agg [i_ A,i_ B]] (i_ 0):=by
  have:=ot A B;rw[←A7,←A7,hA,hB]at this;exact this
 refine uCon hc ?_;have lA:=vo A hA;have lB:=vo B hB;have iA:aJ A:=by simp only[oO,NO,Of]at hA;unfold aJ;omega
 have iB:aJ B:=by simp only[oO,NO,Of]at hB;unfold aJ;omega
 simp[-AH];refine zzS (by kernel_rfl) (GY B iB) ?_
 by_cases h0:A=0
 ·simp[h0,-AH];exact .pure (by simp) (by simp[mU])
 simp[h0,-AH];refine zzS (by kernel_rfl) (GY A iA) ?_;refine Gd [.str (if A=1 then [] else if A=-1 then [45] else Lib.itoa A)] [.ak ⟨44,[i_ A,i_ B],true⟩] ?_ (fun F hF=>by
  by_cases h1:A=1
  ·subst h1;simp;refine zzS (by kernel_rfl) (Et _ (.inl EP)) ?_;simpa[EP]using hF
  ·by_cases h2:A=-1
   ·subst h2;simp;refine zzS (by kernel_rfl) (Et _ (.inr itoa_neg)) ?_;simpa[itoa_neg]using hF
   ·simpa[h1,h2]using hF)
 have hl:(if A=1 then [] else if A=-1 then [45] else Lib.itoa A).length≤21:=by
  (repeat' split)<;>first|exact lA|simp
 generalize hs:(if A=1 then [] else if A=-1 then [45] else Lib.itoa A)=s at hl;have out:mU A B=s++[110]++(if 0<B then 43:: Lib.itoa B else if B<0 then Lib.itoa B else []):=by rw[mU,if_neg h0,hs]
 rw[out];have e1:s.length+1≤maxLen:=by unfold maxLen;omega
 have e2:1+(Lib.itoa B).length≤maxLen:=by unfold maxLen;omega
 have e3:s.length+1+((Lib.itoa B).length+1)≤maxLen:=by unfold maxLen;omega
 have e4:s.length+1+(Lib.itoa B).length≤maxLen:=by unfold maxLen;omega
 simp[e1,e2,e3,e4];refine⟨fun hp=>.pure (by simp) (by simp[hp]),fun hp=>⟨fun hn=>.pure (by simp) ?_,fun hn=>.pure (by simp) ?_⟩⟩
 ·rw[if_neg (by omega),if_pos hn]
 ·rw[if_neg (by omega),if_neg (by omega)]
end
section
open Go Go.Aw Go.bo
def fj(sep:Nat→ae)(ts:List ae)(k:Nat):ae:=(List.range k).flatMap fun i=>sep i++ts.getD i []
def gm(sep:Nat→ae)(ts:List ae):ae:=fj sep ts ts.length
def ga(k:Nat):ae:=if k=0 then [] else [44,32]
def gW(cs:List Int)(k:Nat):ae:=if k=0 then [] else qB.getD (cs.getD (k-1) 0).toNat []
def wz:List ae:=[[58,108,105,110,107],[58,118,105,115,105,116,101,100],[58,97,110,121,45,108,105,110,107],[58,114,111,111,116],[58,101,109,112,116,121],[58,110,116,104,45,99,104,105,108,100,40],[58,110,116,104,45,108,97,115,116,45,99,104,105,108,100,40],[58,105,115,40],[58,119,104,101,114,101,40],[58,110,111,116,40],[58,104,97,115,40]]
def CQ:List ae:=[[58,102,105,114,115,116,45,99,104,105,108,100],[58,108,97,115,116,45,99,104,105,108,100]]
def se(k a b:Int)(w:Bool):ae:=if eO k&&oO a&&oO b then mU a b++(if w then [32,111,102,32] else []) else []
mutual
def qe:Cx→ae
 | .mk l ps cs=>(if 1<l then (qB.getD l.toNat []).drop 1 else [])++gm (gW cs) (dS ps)
def dS:List Cp→List ae
 | []=>[]
 | p:: l=>sA p:: dS l
def sA:Cp→ae
 | .mk t ss=>(if t=[42] then [42] else fD t)++(gJ ss).flatten
def gJ:List Sm→List ae
 | []=>[]
 | s:: l=>jD s:: gJ l
def jD:Sm→ae
 | .mk k n o v f a b w l=>if k=1 then [35]++fD n else if k=2 then [46]++fD n else if k=3 then sR n o v f else if kq k a b w then CQ.getD (k-9).toNat [] else
  if k≤8 then wz.getD (k-4).toNat [] else wz.getD (k-4).toNat []++se k a b w++gm ga (dC l)++[41]
def dC:List Cx→List ae
 | []=>[]
 | x:: l=>qe x:: dC l
end
def fg(l:List Cx):ae:=gm ga (dC l)
mutual
def gX:Cx→Bool
 | .mk _ ps _=>tj ps
def tj:List Cp→Bool
 | []=>true
 | p:: l=>gP p&&tj l
def gP:Cp→Bool
 | .mk _ ss=>uo ss
def uo:List Sm→Bool
 | []=>true
 | s:: l=>gS s&&uo l
def gS:Sm→Bool
 | .mk _ _ o _ _ _ _ _ l=>decide (0≤o)&&jK l
def jK:List Cx→Bool
 | []=>true
 | x:: l=>gX x&&jK l
end
theorem xG:∀l,tj l=l.all gP
 | []=>by simp[tj]
 | p:: l=>by simp[tj,xG l]
theorem xH:∀l,uo l=l.all gS
 | []=>by simp[uo]
 | p:: l=>by simp[uo,xH l]
theorem xI:∀l,jK l=l.all gX
 | []=>by simp[jK]
 | p:: l=>by simp[jK,xI l]
theorem pv:∀l,dS l=l.map sA
 | []=>by simp[dS]
 | p:: l=>by simp[dS,pv l]
theorem sB:∀l,gJ l=l.map jD
 | []=>by simp[gJ]
 | p:: l=>by simp[gJ,sB l]
theorem sE:∀l,dC l=l.map qe
 | []=>by simp[dC]
 | p:: l=>by simp[dC,sE l]
def qO(sep:Nat→ae)(ts:List ae)(k:Nat):fj sep ts (k+1)=fj sep ts k++(sep k++ts.getD k []):=by
 unfold fj;rw[List.range_succ,List.flatMap_append];simp
def mf(ts:List ae):Nat:=(ts.map fun t=>t.length+3).sum
theorem tw{sep:Nat→ae}(hs:∀i,(sep i).length≤3)(ts:List ae):∀k,k≤ts.length→(fj sep ts k).length≤mf (ts.take k)
 | 0,_=>by simp[fj]
 | k+1,hk=>by
   have ih:=tw hs ts k (by omega);have e:ts[k]?=some (ts[k]'(by omega)):=dO (by omega);have h2:=hs k;rw[qO,By,e];have e2:ts.getD k []=ts[k]'(by omega):=by rw[nE,e];rfl
   unfold mf at ih ⊢;rw[e2,List.map_append,List.sum_append];simp only[AT,Option.toList_some,GO,List.map_nil,List.sum_cons,List.sum_nil];omega
def wZ{sep:Nat→ae}(hs:∀i,(sep i).length≤3)(ts:List ae):(gm sep ts).length≤mf ts:=by
 have:=tw hs ts ts.length (bY _)
 rwa [BY]at this
def vI(i:Nat):(ga i).length≤3:=by unfold ga;split<;>simp
def zH(cs:List Int)(i:Nat):(gW cs i).length≤3:=by
 unfold gW;split
 ·simp
 ·exact B1 _
def kp(ts:List ae):ts.flatten.length≤mf ts:=by
 induction ts with
 | nil=>simp
 | cons t l ih=>unfold mf at *;simp only[abq,AT,GO,List.sum_cons];omega
def QI(n:Nat):(wz.getD n []).length≤16:=by
 match n with
 | 0|1|2|3|4|5|6|7|8|9|10=>decide
 | n+11=>simp[wz]
def Hg(n:Nat):(CQ.getD n []).length≤16:=by
 match n with
 | 0|1=>decide
 | n+2=>simp[CQ]
def Ea(a b:Int)(ha:oO a=true)(hb:oO b=true):(mU a b).length≤50:=by
 have h1:=vo a ha;have h2:=vo b hb;unfold mU;split
 ·omega
 ·(repeat' split)<;>simp<;>omega
def N8(k a b:Int)(w:Bool):(se k a b w).length≤54:=by
 unfold se;split
 ·rename_i h;simp only[NO]at h;have:=Ea a b h.1.2 h.2;rw[AT];split<;>simp<;>omega
 ·simp
mutual
theorem Ry:∀x,(qe x).length+3≤100*zX x
 | .mk l ps cs=>by
   have h:=wa ps;have h2:=wZ (zH cs) (dS ps);have h3:=B1 l.toNat;rw[qe,zX,AT];split
   ·rw[List.length_drop];omega
   ·simp only[abr];omega
theorem wa:∀l,mf (dS l)≤100*gh l
 | []=>by simp[dS,mf]
 | p:: l=>by
   have h1:=Rw p;have h2:=wa l;rw[dS,gh];unfold mf at *;simp only[GO,List.sum_cons];omega
theorem Rw:∀p,(sA p).length+3≤100*zP p
 | .mk t ss=>by
   have h1:=wb ss;have h2:=kp (gJ ss);have h3:=uy t;rw[sA,zP,AT];split
   ·simp only[aaP,abr];omega
   ·omega
theorem wb:∀l,mf (gJ l)≤100*gL l
 | []=>by simp[gJ,mf]
 | p:: l=>by
   have h1:=Iz p;have h2:=wb l;rw[gJ,gL];unfold mf at *;simp only[GO,List.sum_cons];omega
theorem Iz:∀s,(jD s).length+3≤100*zS s
 | .mk k n o v f a b w l=>by
   have h1:=sD l;have h2:=wZ vI (dC l);have h3:=uy n;have h4:=PQ n o v f;have h5:=QI (k-4).toNat;have h6:=Hg (k-9).toNat;have h7:=N8 k a b w;rw[jD,zS]
   (repeat' split)
   all_goals first|omega|(simp only[AT,aaP,abr];omega)
theorem sD:∀l,mf (dC l)≤100*cQ l
 | []=>by simp[dC,mf]
 | p:: l=>by
   have h1:=Ry p;have h2:=sD l;rw[dC,cQ];unfold mf at *;simp only[GO,List.sum_cons];omega
end
def RL(l:List Cx):(fg l).length≤100*cQ l:=aa7 (wZ vI _) (sD l)
end
section
open Go Go.Aw Go.dD Go.RowKit
open Go.bo hiding u1 ae
def Tq(s:ae)(a:Nat)(l:List Tok)(b:Nat):Prop:=a≤b∧b≤s.length∧kR s (Rt.fZ s a)=l++kR s (Rt.fZ s b)
def Tq.refl(h:a≤s.length):Tq s a [] a:=⟨bY _,h,rfl⟩
def Tq.trans(x:Tq s a l b)(y:Tq s b m c):Tq s a (l++m) c:=⟨aa7 x.1 y.1,y.2.1,by rw[x.2.2,y.2.2,To]⟩
def zz(h:Rt.ax s b≠47):Rt.fZ s b=b:=by
 rw[Rt.fZ,dif_neg];rintro⟨h1,h2⟩;unfold Rt.hasB at h2;have h2:=oN h2;have h3:((s.drop b).take 2)[0]?=some 47:=by rw[show (s.drop b).take 2=[47,42] from h2];rfl
 rw[ON,if_pos (by decide),aaU,Nat.add_zero]at h3;apply h;unfold Rt.ax;rw[nE,h3];rfl
def Tq.one(h:a<s.length)(e:iR s a=(t,b))(hp:Rt.ax s a≠47):Tq s a [t] b:=by
 have h1:=xW h;rw[e]at h1;refine⟨by omega,h1.2, ?_⟩;rw[zz hp,kR,dif_pos h,e];rfl
def mE(h:s.drop a=y)(i:Nat):Rt.ax s (a+i)=y.getD i 0:=by
 subst h;unfold Rt.ax;rw[nE,nE,aaU]
def cO(h:s.drop a=y):Rt.ax s a=y.getD 0 0:=mE h 0
def ig{s y:ae}{a:Nat}(h:s.drop a=y)(i:Nat):s[a+i]?=y[i]?:=by
 subst h;rw[aaU]
def cJ{s x r:ae}{a:Nat}(h:s.drop a=x++r):s.drop (a+x.length)=r:=by
 rw[←List.drop_drop,h,List.drop_left]
def eE{s r:ae}{c:UInt8}{a:Nat}(h:s.drop a=c:: r):a<s.length:=by
 have:=congrArg List.length h;simp at this;omega
def Jr{s x r:ae}{a:Nat}(ha:a≤s.length)(h:s.drop a=x++r):a+x.length≤s.length:=by
 have:=congrArg List.length h;simp at this;omega
/-! ### Escapes -/
def wS(h:n<16):Rt.iY (mb.getD n 0)=n∧mb.getD n 0≠10:=by
 have:∀k:Fin 16,Rt.iY (mb.getD k.val 0)=(k.val:Int)∧mb.getD k.val 0≠10:=by decide
 exact this ⟨n,h⟩
def IE(h0:c≠0)(h:c.toNat<128):Rt.sH c.toNat=[c]:=by
 have h1:c.toNat≠0:=fun e=>h0 (UInt8.toNat_inj.1 (by simpa using e));unfold Rt.sH;rw[if_neg (by omega),if_pos h];simp
def CT(h:s[i]?=some c)(hc:Rt.iY c<0):Rt.kH s (k+1) i n=(n,i):=by
 rw[Rt.kH,h];dsimp only;rw[if_neg (by omega)]
def BN{i k n m:Nat}(h:s[i]?=some c)(hc:Rt.iY c=m):Rt.kH s (k+1) i n=Rt.kH s k (i+1) (16*n+m):=by
 rw[Rt.kH,h];dsimp only;rw[if_pos (by omega),hc];rfl
def AA{s r:ae}{a:Nat}{c:UInt8}(h:s.drop a=cC c++r)(h0:c≠0)(h128:c.toNat<128):Rt.cC s a=true∧Rt.cW s a=([c],a+(cC c).length):=by
 unfold cC at h ⊢
 by_cases hp:sh c=true
 ·rw[if_pos hp]at h ⊢;have e1:=ig h 1;have e0:=cO h;have e2:=mE h 1;simp at e1 e0 e2;have hx:Rt.iY c<0∧c≠10:=by
   have key:∀k:Fin 128,sh (UInt8.ofNat k.val)=true→Rt.iY (UInt8.ofNat k.val)<0∧UInt8.ofNat k.val≠10:=by decide +kernel
   have:=key ⟨c.toNat,h128⟩;simpa using this (by simpa using hp)
  refine⟨?_, ?_⟩
  ·unfold Rt.cC;rw[e0,e2];simp[hx.2]
  ·unfold Rt.cW;rw[e1];dsimp only;rw[if_pos hx.1];rfl
 ·rw[if_neg hp]at h ⊢;have e0:Rt.ax s a=92:=by rw[cO h];rfl
  have h32:Rt.iY 32<0:=by decide
  by_cases h16:16≤c.toNat
  ·have hh:gA c=[mb.getD (c.toNat/16) 0,mb.getD (c.toNat%16) 0]:=by unfold gA;rw[if_pos h16]
   obtain⟨x1,y1⟩:=wS (n:=c.toNat/16) (by omega);obtain⟨x2,y2⟩:=wS (n:=c.toNat%16) (by omega);rw[hh]at h ⊢;generalize mb.getD (c.toNat/16) 0=d1 at h x1 y1;generalize mb.getD (c.toNat%16) 0=d2 at h x2 y2;have g1:s[a+1]?=some d1:=by rw[ig h 1];rfl
   have g2:s[a+2]?=some d2:=by rw[ig h 2];rfl
   have g3:s[a+3]?=some 32:=by rw[ig h 3];rfl
   have a1:Rt.ax s (a+1)=d1:=by rw[mE h 1];rfl
   have a3:Rt.ax s (a+3)=32:=by rw[mE h 3];rfl
   refine⟨by unfold Rt.cC;rw[e0,a1];simp[y1], ?_⟩;unfold Rt.cW;rw[g1];dsimp only;rw[if_neg (by omega),BN g1 x1,BN (i:=a+1+1) g2 x2,CT (i:=a+1+1+1) g3 h32];dsimp only;rw[show Rt.ax s (a+1+1+1)=32 from a3,if_pos (by decide),show 16*(16*0+c.toNat/16)+c.toNat%16=c.toNat by omega,IE h0 h128];rfl
  ·have hh:gA c=[mb.getD c.toNat 0]:=by unfold gA;rw[if_neg h16]
   obtain⟨x1,y1⟩:=wS (n:=c.toNat) (by omega);rw[hh]at h ⊢;generalize mb.getD c.toNat 0=d1 at h x1 y1;have g1:s[a+1]?=some d1:=by rw[ig h 1];rfl
   have g2:s[a+2]?=some 32:=by rw[ig h 2];rfl
   have a1:Rt.ax s (a+1)=d1:=by rw[mE h 1];rfl
   have a2:Rt.ax s (a+2)=32:=by rw[mE h 2];rfl
   refine⟨by unfold Rt.cC;rw[e0,a1];simp[y1], ?_⟩;unfold Rt.cW;rw[g1];dsimp only;rw[if_neg (by omega),BN g1 x1,CT (i:=a+1+1) g2 h32];dsimp only;rw[show Rt.ax s (a+1+1)=32 from a2,if_pos (by decide),show 16*0+c.toNat=c.toNat by omega,IE h0 h128];rfl
def eR{P:UInt8→Prop}(h:∀k:Fin 256,P (UInt8.ofNat k.val))(c:UInt8):P c:=by
 have:=h ⟨c.toNat,c.toNat_lt⟩;simpa using this
def HK:∀c:UInt8,C8 c=Rt.fq c:=eR (by decide +kernel)
def Ev:∀c:UInt8,ck c=Rt.ck c:=eR (by decide +kernel)
def PT:∀c:UInt8,128≤c.toNat→C8 c=true∧ck c=false:=eR (P:=fun c=>128≤c.toNat→C8 c=true∧ck c=false) (by decide +kernel)
def zW(r:ae):Prop:=∀c,r.head?=some c→Rt.fq c=false∧c≠92
def Fg(h:s.drop a=r)(hr:zW r):Rt.dk s a=([],a):=by
 rw[Rt.dk];split
 ·rename_i hi;have e:s.drop a=s[a]:: s.drop (a+1):=abo hi;have hc:=hr s[a] (by rw[←h,e];rfl);have h92:Rt.ax s a=s[a]:=by unfold Rt.ax;rw[nE,dO hi];rfl
  rw[if_neg (by rw[hc.1];decide),if_neg];unfold Rt.cC;rw[h92];simp[hc.2]
 ·rfl
def Fh(h:s.drop a=c:: r)(hc:Rt.fq c=true):Rt.dk s a=(c:: (Rt.dk s (a+1)).1,(Rt.dk s (a+1)).2):=by
 have hi:=eE h;have e:s[a]=c:=by
  have:=ig h 0;simp at this;exact (eQ.1 this).2
 rw[Rt.dk,dif_pos hi];rw[if_pos (by rw[e];exact hc),e]
def N6(h:s.drop a=cC c++r)(h0:c≠0)(h128:c.toNat<128):Rt.dk s a=(c:: (Rt.dk s (a+(cC c).length)).1,(Rt.dk s (a+(cC c).length)).2):=by
 obtain⟨h1,h2⟩:=AA h h0 h128;have hne:∃y,cC c=92:: y:=by unfold cC;split<;>exact⟨_,rfl⟩
 obtain⟨y,hy⟩:=hne;have hi:a<s.length:=eE (c:=92) (r:=y++r) (by rw[h,hy];rfl);have e:s[a]=92:=by
  have:=ig h 0;rw[hy]at this;simp at this;exact (eQ.1 this).2
 rw[Rt.dk,dif_pos hi,if_neg (by rw[e];decide),if_pos h1,h2];rfl
def qC(n:ae)(fr i k:Nat):ae:=(List.range' i k).flatMap fun j=>jL n fr j (n.getD j 0)
def DH(n:ae)(fr:Nat):qC n fr 0 n.length=jZ n fr n.length:=by unfold qC jZ;rw[List.range_eq_range']
def sa(n:ae)(fr i k:Nat):qC n fr i (k+1)=jL n fr i (n.getD i 0)++qC n fr (i+1) k:=by unfold qC;rw[List.range'_succ];rfl
def Ce{fr i:Nat}(hc:n.getD i 0=c)(hi:i<n.length)(h:mn n fr i c=false):c.toNat<128:=by
 rcases uP c.toNat 128 with k|k
 ·exact k
 ·exfalso;obtain⟨h1,h2⟩:=PT c k;unfold mn at h;rw[h1,h2]at h;simp at h;obtain⟨_,rfl⟩:=h;simp at hi;subst hi;simp at hc;subst hc;simp at k
theorem zu(n:ae)(fr:Nat)(hz:∀c∈n,c≠0):∀(k i:Nat),i+k=n.length→∀(s r:ae) (a:Nat),s.drop a=qC n fr i k++r→zW r→Rt.dk s a=(n.drop i,a+(qC n fr i k).length)
 | 0,i,hk,s,r,a,h,hr=>by
   rw[show qC n fr i 0=[] from rfl,List.nil_append]at h;rw[Fg h hr,List.drop_of_length_le (by omega)];rfl
 | k+1,i,hk,s,r,a,h,hr=>by
   have hi:i<n.length:=by omega
   obtain⟨c,hc⟩:∃c,n.getD i 0=c:=⟨_,rfl⟩;have hci:n[i]=c:=by rw[←hc,nE,dO hi];rfl
   have hd:n.drop i=c:: n.drop (i+1):=by rw[abo hi,hci]
   have hc0:c≠0:=hz c (by rw[←hci];exact aba hi);rw[sa,hc]at h ⊢;unfold jL at h ⊢;cases hw:mn n fr i c with
   | true =>
     rw[hw,if_pos rfl,To]at h;rw[if_pos rfl];have hl:Rt.fq c=true:=by
      unfold mn at hw;simp only[NO]at hw;rw[←HK];exact hw.1.1
     have ih:=zu n fr hz k (i+1) (by omega) s r (a+1) (cJ (x:=[c]) h) hr;rw[Fh (by simpa using h) hl,ih,hd];simp;omega
   | false =>
     rw[hw,if_neg (by decide),To]at h;rw[if_neg (by decide)];have h128:=Ce hc hi hw;have ih:=zu n fr hz k (i+1) (by omega) s r (a+(cC c).length) (cJ h) hr;rw[N6 h hc0 h128,ih,hd];simp;omega
def Fi(hz:∀c∈n,c≠0)(h:s.drop a=fD n++r)(hr:zW r):Rt.dk s a=(n,a+(fD n).length):=by
 have:=zu n (kF n) hz n.length 0 (by omega) s r a (by rw[DH];exact h) hr;rw[DH,List.drop_zero]at this;exact this
def vA(n:ae)(fr j:Nat)(c:UInt8):∃b y,jL n fr j c=b:: y∧((mn n fr j c=true∧b=c∧Rt.fq b=true)∨(mn n fr j c=false∧b=92)):=by
 unfold jL;cases h:mn n fr j c with
 | true =>
   refine⟨c,[],by rw[if_pos rfl],.inl ⟨rfl,rfl, ?_⟩⟩;unfold mn at h;simp only[NO]at h;rw[←HK];exact h.1.1
 | false =>
   rw[if_neg (by decide)];unfold cC;split
   ·exact⟨92,_,rfl,.inr ⟨rfl,rfl⟩⟩
   ·exact⟨92,_,rfl,.inr ⟨rfl,rfl⟩⟩
structure D0(s:ae)(a:Nat):Prop where
 Uh:Rt.gq s a=true
 num:Rt.jP s a=false
 cdc:Rt.hasB s a [45,45,62]=false
 b:Rt.fq (Rt.ax s a)=true∨Rt.ax s a=92
 d:Rt.ck (Rt.ax s a)=false
def C1:∀c:UInt8,Rt.fq c=true→Rt.ck c=false→c≠45→Rt.tX c=true:=eR (P:=fun c=>Rt.fq c=true→Rt.ck c=false→c≠45→Rt.tX c=true) (by decide +kernel)
def Ve:∀c:UInt8,Rt.tX c=true→c≠43∧c≠45∧c≠46∧Rt.ck c=false:=eR (P:=fun c=>Rt.tX c=true→c≠43∧c≠45∧c≠46∧Rt.ck c=false) (by decide +kernel)
def Jn(h:Rt.hasB s a [x,y,z]=true):s[a]?=some x∧s[a+1]?=some y∧s[a+2]?=some z:=by
 unfold Rt.hasB at h;have h:=oN h;have q:∀i,i<3→s[a+i]?=([x,y,z]:ae)[i]?:=fun i hi=>by
  rw[←h,ON,if_pos (by simpa using hi),aaU]
 exact⟨q 0 (by decide),q 1 (by decide),q 2 (by decide)⟩
def xb(h:Rt.ax s a=b)(h1:b≠43)(h2:b≠45)(h3:b≠46)(h4:Rt.ck b=false):Rt.jP s a=false:=by
 have e:(if Rt.ax s a=43∨Rt.ax s a=45 then a+1 else a)=a:=if_neg (fun z=>z.elim (fun z=>h1 (by rw[←h];exact z)) fun z=>h2 (by rw[←h];exact z));unfold Rt.jP;simp only[e];rw[if_neg (by rw[h];exact h3),h];exact h4
def Lg(h:Rt.ax s a=45)(h1:Rt.ax s (a+1)=b)(h3:b≠46)(h4:Rt.ck b=false):Rt.jP s a=false:=by
 have e:(if Rt.ax s a=43∨Rt.ax s a=45 then a+1 else a)=a+1:=if_pos (.inr h);unfold Rt.jP;simp only[e];rw[if_neg (by rw[h1];exact h3),h1];exact h4
def Ae(hz:∀c∈n,c≠0)(hn:n≠[])(h:s.drop a=fD n++r)(hr:r.head?≠some 62):D0 s a:=by
 cases n with
 | nil=>exact absurd rfl hn
 | cons c0 m =>
   have e0:fD (c0:: m)=jL (c0:: m) (kF (c0:: m)) 0 c0++qC (c0:: m) (kF (c0:: m)) 1 m.length:=by
    show jZ _ _ _=_;rw[←DH,aaP,sa];rfl
   rw[e0]at h;obtain⟨b,y,hb,hcase⟩:=vA (c0:: m) (kF (c0:: m)) 0 c0;rw[hb,abv,abv]at h;have ha0:Rt.ax s a=b:=by rw[cO h];rfl
   rcases hcase with⟨hraw,rfl,hl⟩|⟨hraw,rfl⟩
   ·-- it stands for itself
    have hraw2:=hraw;unfold mn at hraw;simp only[NO,abl,abm,Of,decide_eq_false_iff_not]at hraw;have hfr:1≤kF (b:: m):=by unfold kF;split<;>decide
    have hd:Rt.ck b=false:=by
     rw[←Ev];rcases hraw.1.2 with z|z
     ·omega
     ·exact z
    have hy:y=[]:=by
     unfold jL at hb;rw[if_pos hraw2]at hb;simpa using hb.symm
    subst hy
    by_cases h45:b=45
    ·subst h45;have hfr2:kF (45:: m)=2:=by unfold kF;rw[if_pos (by simp)]
     rw[hfr2]at h hraw;cases m with
     | nil =>
       exfalso;rcases hraw.2 with z|z
       ·omega
       ·exact z rfl
     | cons c1 m =>
       have e1:qC (45:: c1:: m) 2 1 (c1:: m).length=jL (45:: c1:: m) 2 1 c1++qC (45:: c1:: m) 2 2 m.length:=by rw[aaP,sa];rfl
       rw[e1]at h;obtain⟨b1,y1,hb1,hcase1⟩:=vA (45:: c1:: m) 2 1 c1;have hP1:=hb1;rw[hb1]at h;have ha1:Rt.ax s (a+1)=b1:=by rw[mE h 1];rfl
       have hd1:Rt.ck b1=false∧b1≠46:=by
        rcases hcase1 with⟨q1,rfl,q3⟩|⟨_,rfl⟩
        ·unfold mn at q1;simp only[NO,abl,abm,Of]at q1;refine⟨?_,fun e=>by subst e;exact absurd q3 (by decide)⟩;rw[←Ev];rcases q1.1.2 with z|z
         ·omega
         ·exact z
        ·exact⟨by decide,by decide⟩
       refine⟨?_, ?_, ?_,.inl (by rw[ha0];exact hl),by rw[ha0];exact hd⟩
       ·unfold Rt.gq;rw[ha0,if_pos rfl,ha1];rcases hcase1 with⟨q1,rfl,q3⟩|⟨q1,rfl⟩
        ·by_cases z:b1=45
         ·simp[z]
         ·rw[C1 _ q3 hd1.1 z];rfl
        ·have hc1:c1.toNat<128:=Ce (n:=45:: c1:: m) (i:=1) rfl (by simp) q1;have hesc:s.drop (a+1)=cC c1++(qC (45:: c1:: m) 2 2 m.length++r):=by
          unfold jL at hP1;rw[if_neg (by rw[q1];decide)]at hP1;have:=cJ (x:=[45]) (r:=(92:: y1)++qC (45:: c1:: m) 2 2 m.length++r) (a:=a) (by simpa using h);rw[hP1,←To];exact this
         rw[(AA hesc (hz c1 (by simp)) hc1).1];simp
       ·exact Lg ha0 ha1 hd1.2 hd1.1
       ·cases hh:Rt.hasB s a [45,45,62] with
        | false=>rfl
        | true =>
          exfalso;obtain⟨_,g1,g2⟩:=Jn hh;rw[ig h 1]at g1;rw[ig h 2]at g2;have hb45:b1=45:=by simpa using g1
          subst hb45;rcases hcase1 with⟨q1,_,q3⟩|⟨_,q⟩
          ·have hy1:y1=[]:=by
            unfold jL at hP1;rw[if_pos q1]at hP1;have:=(List.cons.inj hP1).2;exact this.symm
           subst hy1;cases m with
           | nil =>
             have e2:qC (45:: c1:: []) 2 2 ([]:List UInt8).length=[]:=rfl;rw[e2]at g2;simp at g2;cases r with
             | nil=>simp at g2
             | cons z r=>simp at g2;subst g2;exact hr rfl
           | cons c2 m =>
             rw[aaP,sa]at g2;obtain⟨b2,y2,hb2,hcase2⟩:=vA (45:: c1:: c2:: m) 2 2 ((45:: c1:: c2:: m).getD 2 0);rw[hb2]at g2;simp at g2;subst g2;rcases hcase2 with⟨_,_,z⟩|⟨_,z⟩
             ·exact absurd z (by decide)
             ·exact absurd z (by decide)
          ·exact absurd q (by decide)
    ·have hst:=C1 b hl hd h45;obtain⟨n1,n2,n3,n4⟩:=Ve b hst;refine⟨?_, ?_, ?_,.inl (by rw[ha0];exact hl),by rw[ha0];exact hd⟩
     ·unfold Rt.gq;rw[ha0,if_neg h45,hst];rfl
     ·exact xb ha0 n1 n2 n3 n4
     ·cases hh:Rt.hasB s a [45,45,62] with
      | false=>rfl
      | true =>
        exfalso;obtain⟨g0,_,_⟩:=Jn hh;have:Rt.ax s a=45:=by unfold Rt.ax;rw[nE,g0];rfl
        rw[ha0]at this;exact h45 this
   ·have hc0:c0.toNat<128:=Ce (n:=c0:: m) (i:=0) rfl (by simp) hraw;have hesc:s.drop a=cC c0++(qC (c0:: m) (kF (c0:: m)) 1 m.length++r):=by
     have hb2:=hb;unfold jL at hb2;rw[if_neg (by rw[hraw];decide)]at hb2;rw[h,hb2];simp
    refine⟨?_, ?_, ?_,.inr ha0,by rw[ha0];decide⟩
    ·unfold Rt.gq;rw[ha0,if_neg (by decide),(AA hesc (hz c0 (by simp)) hc0).1];simp
    ·exact xb ha0 (by decide) (by decide) (by decide) (by decide)
    ·cases hh:Rt.hasB s a [45,45,62] with
     | false=>rfl
     | true =>
       exfalso;obtain⟨g0,_,_⟩:=Jn hh;have:Rt.ax s a=45:=by unfold Rt.ax;rw[nE,g0];rfl
       rw[ha0]at this;exact absurd this (by decide)
def ZQ(h:Rt.hasB s a (x:: y)=true):Rt.ax s a=x:=by
 unfold Rt.hasB at h;have h:=oN h;have q:s[a+0]?=(x:: y)[0]?:=by
  rw[←h,ON,if_pos (by simp),aaU]
 unfold Rt.ax;rw[nE];simp at q;rw[q];rfl
def AG(h:Rt.ax s a≠x):Rt.hasB s a (x:: y)=false:=by
 cases e:Rt.hasB s a (x:: y) with
 | false=>rfl
 | true=>exact absurd (ZQ e) h
def E1:∀c:UInt8,(Rt.fq c=true∨c=92)→Rt.fv c=false∧c≠34∧c≠39∧c≠35∧c≠60∧c≠64∧c≠47:=eR (P:=fun c=>(Rt.fq c=true∨c=92)→Rt.fv c=false∧c≠34∧c≠39∧c≠35∧c≠60∧c≠64∧c≠47) (by decide +kernel)
def Cc(b:D0 s a):iR s a=px s a:=by
 obtain⟨h1,h2,h3,h4,h5,h6,_⟩:=E1 _ b.b;unfold iR;dsimp only;rw[if_neg (by rw[h1];decide),if_neg (fun z=>z.elim h2 h3),if_neg (fun z=>h4 z.1),if_neg (by rw[b.num];decide),if_neg (by rw[b.cdc];decide),if_neg (by rw[AG h5];decide),if_neg (fun z=>h6 z.1),if_pos b.Uh]
structure Nx(r:ae):Prop where
 s:zW r
 g:r.head?≠some 62
def D0.no(b:D0 s a):Rt.ax s a≠47:=by
 obtain⟨_,_,_,_,_,_,h⟩:=E1 _ b.b;exact h
def Ad(h:s.drop a=x++r):Rt.ax s (a+x.length)=r.getD 0 0:=cO (cJ h)
def V0{r:ae}{c:UInt8}(h:r.head?≠some c)(hc:c≠0):r.getD 0 0≠c:=by
 cases r with
 | nil=>simpa using hc.symm
 | cons x r=>simpa using h
def NS{n s r:ae}{a:Nat}(hz:∀c∈n,c≠0)(hn:n≠[])(h:s.drop a=fD n++r)(hr:Nx r)(h40:r.head?≠some 40):Tq s a [⟨1,n,0,[],false⟩] (a+(fD n).length):=by
 have hb:=Ae hz hn h hr.g;have hnam:=Fi hz h hr.s;have hlt:a<s.length:=by
  rcases uP a s.length with k|k
  ·exact k
  ·exfalso;have e:=hb.b;have:Rt.ax s a=0:=by unfold Rt.ax;rw[nE,iS k];rfl
   rw[this]at e;rcases e with e|e<;>exact absurd e (by decide)
 refine Tq.one hlt ?_ hb.no;rw[Cc hb];unfold px;dsimp only;rw[hnam];dsimp only;rw[if_pos (by rw[Ad h];exact V0 h40 (by decide))]
def Qs(hz:∀c∈n,c≠0)(hn:n≠[])(hu:n.map bo.dX≠Rt.xr)(h:s.drop a=fD n++40:: r):Tq s a [⟨2,n,0,[],false⟩] (a+(fD n).length+1):=by
 have hS:zW (40:: r):=fun c hc=>by cases hc;exact⟨by decide,by decide⟩
 have hb:=Ae hz hn h (by simp);have hnam:=Fi hz h hS;have hend:=Ad h;have hd:=cJ h;have hlt:a<s.length:=by have:=eE hd;omega
 refine Tq.one hlt ?_ hb.no;rw[Cc hb];unfold px;dsimp only;rw[hnam];dsimp only;rw[if_neg (by rw[hend];exact fun z=>z rfl),if_neg (fun z=>hu z.1)]
def Qv(hz:∀c∈n,c≠0)(hn:n≠[])(h:s.drop a=35:: (fD n++r))(hr:Nx r):Tq s a [⟨4,n,0,[],true⟩] (a+1+(fD n).length):=by
 have h1:s.drop (a+1)=fD n++r:=cJ (x:=[35]) h;have hb:=Ae hz hn h1 hr.g;have hnam:=Fi hz h1 hr.s;have h35:Rt.ax s a=35:=by rw[cO h];rfl
 refine Tq.one (eE h) ?_ (by rw[h35];decide);have hor:Rt.fq (Rt.ax s (a+1))=true∨Rt.cC s (a+1)=true:=by
  rcases hb.b with z|z
  ·exact .inl z
  ·right;have:=hb.Uh;unfold Rt.gq at this;rw[z,if_neg (by decide)]at this;simpa[show Rt.tX 92=false by decide]using this
 unfold iR;dsimp only;rw[h35,if_neg (by decide),if_neg (by decide),if_pos ⟨rfl,hor⟩,hnam,hb.Uh]
def sw(c:UInt8):Bool:=!Rt.fv c&&!decide (c=34)&&!decide (c=39)&&!decide (c=35)&&!decide (c=45)&&!decide (c=60)&&!decide (c=64)&&!Rt.tX c&&!decide (c=92)&&!Rt.ck c
def FQ(h:Rt.ax s a=c)(hc:sw c=true)(hn:Rt.jP s a=false):iR s a=(if 0≤Lib.indexByte Rt.lL c then (⟨16+Lib.indexByte Rt.lL c,[],0,[],false⟩,a+1) else (⟨9,[c],0,[],false⟩,a+1)):=by
 unfold sw at hc;simp only[NO,abm,decide_eq_false_iff_not]at hc;obtain⟨⟨⟨⟨⟨⟨⟨⟨⟨h1,h2⟩,h3⟩,h4⟩,h5⟩,h6⟩,h7⟩,h8⟩,h9⟩,_⟩:=hc;have hnam:Rt.gq s a=false:=by
  unfold Rt.gq;rw[h,if_neg h5,h8];unfold Rt.cC;rw[h];simp[h9]
 unfold iR;dsimp only;rw[h,if_neg (by rw[h1];decide),if_neg (fun z=>z.elim h2 h3),if_neg (fun z=>h4 z.1),if_neg (by rw[hn];decide),if_neg (by rw[AG (by rw[h];exact h5)];decide),if_neg (by rw[AG (by rw[h];exact h6)];decide),if_neg (fun z=>h7 z.1),if_neg (by rw[hnam];decide)]
def QO{a k:Nat}(h:s.drop a=c:: r)(hc:sw c=true)(hk:Lib.indexByte Rt.lL c=k)(h43:c≠43)(h46:c≠46)(h47:c≠47):Tq s a [⟨16+(k:Int),[],0,[],false⟩] (a+1):=by
 have hat:Rt.ax s a=c:=by rw[cO h];rfl
 have hsolo:=hc;unfold sw at hc;simp only[NO,abm,decide_eq_false_iff_not]at hc;refine Tq.one (eE h) ?_ (by rw[hat];exact h47);rw[FQ hat hsolo (xb hat h43 hc.1.1.1.1.1.2 h46 hc.2),hk,if_pos (by omega)]
def yP(h:s.drop a=c:: r)(hc:sw c=true)(hk:Lib.indexByte Rt.lL c=-1)(hn:Rt.jP s a=false)(h47:c≠47):Tq s a [⟨9,[c],0,[],false⟩] (a+1):=by
 have hat:Rt.ax s a=c:=by rw[cO h];rfl
 refine Tq.one (eE h) ?_ (by rw[hat];exact h47);rw[FQ hat hc hn,hk,if_neg (by decide)]
def OA(h:s.drop a=32:: r)(hs:∀c,r.head?=some c→Rt.fv c=false):Tq s a [⟨13,[],0,[],false⟩] (a+1):=by
 have hat:Rt.ax s a=32:=by rw[cO h];rfl
 refine Tq.one (eE h) ?_ (by rw[hat];decide);have he:Rt.fe s a=a+1:=by
  unfold Rt.fe;rw[h,List.takeWhile_cons,if_pos (by decide)];cases r with
  | nil=>rfl
  | cons x r=>rw[List.takeWhile_cons,if_neg (by rw[hs x rfl];decide)];rfl
 unfold iR;dsimp only;rw[hat,if_pos (by decide),he]
/-! ### In quotes -/
theorem LH:∀(v s r:ae) (a:Nat),(∀c∈v,c≠0)→s.drop a=v.flatMap iG++34:: r→Rt.il 34 s a=(some v,a+(v.flatMap iG).length+1)
 | [],s,r,a,_,h=>by
   have hlt:=eE h;have e:s[a]=34:=by have:=ig h 0;simp at this;exact (eQ.1 this).2
   rw[Rt.il,dif_pos hlt,if_pos e];rfl
 | c:: v,s,r,a,hz,h=>by
   rw[List.flatMap_cons,To]at h;have hz2:∀x∈v,x≠0:=fun x hx=>hz x (by simp[hx]);have ih:=LH v s r (a+(iG c).length) hz2 (cJ h);unfold iG at h ih
   by_cases hq:FA c=true
   ·rw[if_pos hq]at h ih;have h128:c.toNat<128:=by
     have:∀c:UInt8,FA c=true→c.toNat<128:=eR (P:=fun c=>FA c=true→c.toNat<128) (by decide +kernel);exact this c hq
    obtain⟨e1,e2⟩:=AA h (hz c (by simp)) h128;obtain⟨y,hy⟩:∃y,cC c=92:: y:=by unfold cC;split<;>exact⟨_,rfl⟩
    have hlt:a<s.length:=eE (c:=92) (r:=y++(v.flatMap iG++34:: r)) (by rw[h,hy];rfl);have e:s[a]=92:=by have:=ig h 0;rw[hy]at this;simp at this;exact (eQ.1 this).2
    have h10:Rt.ax s (a+1)≠10:=by
     unfold Rt.cC at e1;simp at e1;exact e1.2
    have hl1:a+1≠s.length:=by
     have:=Jr (x:=cC c) (by omega) h;have h2:1<(cC c).length:=by unfold cC;split<;>simp
     omega
    rw[Rt.il,dif_pos hlt,if_neg (by rw[e];decide),if_neg (by rw[e];decide),if_pos e,if_neg hl1,if_neg h10,e2];dsimp only;rw[ih];show (some ([c]++v),_)=_;rw[List.flatMap_cons];unfold iG;rw[if_pos hq];simp;omega
   ·rw[if_neg hq]at h ih;have hne:c≠34∧c≠10∧c≠92:=by
     have:∀c:UInt8,FA c≠true→c≠34∧c≠10∧c≠92:=eR (P:=fun c=>FA c≠true→c≠34∧c≠10∧c≠92) (by decide +kernel);exact this c hq
    have hlt:a<s.length:=eE (c:=c) (r:=v.flatMap iG++34:: r) (by rw[h];rfl);have e:s[a]=c:=by have:=ig h 0;simp at this;exact (eQ.1 this).2
    rw[Rt.il,dif_pos hlt,if_neg (by rw[e];exact hne.1),if_neg (by rw[e];exact hne.2.1),if_neg (by rw[e];exact hne.2.2),e];have ih:Rt.il 34 s (a+1)=_:=ih;rw[ih];show (some ([c]++v),_)=_;rw[List.flatMap_cons];unfold iG;rw[if_neg hq];simp;omega
def Oe(hz:∀c∈v,c≠0)(h:s.drop a=uB v++r):Tq s a [⟨5,v,0,[],false⟩] (a+(uB v).length):=by
 unfold uB at h ⊢;have h':s.drop a=34:: (v.flatMap iG++34:: r):=by rw[h];simp
 have hat:Rt.ax s a=34:=by rw[cO h'];rfl
 have hq:=LH v s r (a+1) hz (cJ (x:=[34]) h');have he:a+([34]++v.flatMap iG++[34]).length=a+1+(v.flatMap iG).length+1:=by simp;omega
 rw[he];refine Tq.one (eE h') ?_ (by rw[hat];decide);unfold iR;dsimp only;rw[hat,if_neg (by decide),if_pos (.inl rfl),hq];rfl
/-! ### Digits -/
def DA(r:Nat)(h:r<10):(UInt8.ofNat (48+r)).toNat=48+r:=by
 have:∀n:Fin 10,(UInt8.ofNat (48+n.val)).toNat=48+n.val:=by decide
 exact this ⟨r,h⟩
def Kx:∀k:Nat,qk (Lib.decDigits k)∧im (Lib.decDigits k)=k∧(∀n,k<10^(n+1)→(Lib.decDigits k).length≤n+1):=by
 intro k;induction k using Nat.strongRecOn with
 | _ k ih =>
   rw[Lib.decDigits]
   by_cases h:k<10
   ·rw[dif_pos h];refine⟨⟨by simp,fun b hb=>?_⟩, ?_,fun n _=>by simp⟩
    ·obtain rfl:b=UInt8.ofNat (48+k):=by simpa using hb
     rw[DA k h];omega
    ·show 10*0+oM _=k;unfold oM;rw[DA k h];omega
   ·rw[dif_neg h];obtain⟨⟨i1,i2⟩,i3,i4⟩:=ih (k/10) (by omega);refine⟨⟨by simp,fun b hb=>?_⟩, ?_,fun n hn=>?_⟩
    ·rcases Is.1 hb with hb|hb
     ·exact i2 b hb
     ·obtain rfl:b=UInt8.ofNat (48+k%10):=by simpa using hb
      rw[DA _ (by omega)];omega
    ·rw[Mc,i3];unfold oM;rw[DA _ (by omega)];omega
    ·cases n with
     | zero=>omega
     | succ n =>
       have:=i4 n (by rw[Nat.pow_succ]at hn;omega);rw[AT];simpa using this
def oU(k:Nat):qk (Lib.decDigits k):=(Kx k).1
def uh(k:Nat):im (Lib.decDigits k)=k:=(Kx k).2.1
def ng(n:Int):ae:=if n<0 then [45] else []
def qN(n:Int):Lib.itoa n=ng n++Lib.decDigits n.natAbs:=by
 unfold Lib.itoa ng;split
 ·rfl
 ·rw[List.nil_append];congr 1;omega
def pU(h:qk d):∀b∈d,Rt.ck b=true:=fun b hb=>by
 have:=h.2 b hb;unfold Rt.ck;simp;omega
def Ax:∀c:UInt8,Rt.ck c=true→([43,45]:ae).contains c=false∧([101,69]:ae).contains c=false∧c≠46∧c≠45∧c≠43∧sY c=oM c:=eR (P:=fun c=>Rt.ck c=true→([43,45]:ae).contains c=false∧([101,69]:ae).contains c=false∧c≠46∧c≠45∧c≠43∧sY c=oM c) (by decide +kernel)
def QC(h:∀b∈d,b≠c):Lib.index d [c]=-1:=by
 induction d with
 | nil=>unfold Lib.index;rfl
 | cons b d ih =>
   unfold Lib.index;rw[if_neg,ih fun x hx=>h x (by simp[hx])]
   ·rfl
   ·have:b≠c:=h b (by simp);simp[List.isPrefixOf];exact fun e=>this e.symm
def ML(hd:∀b∈d,Rt.ck b=true)(hv:im d≤ji):jM ji d=im d:=by
 unfold jM im at *;have key:∀(d:ae) (a:Nat),(∀b∈d,Rt.ck b=true)→d.foldl (fun n b=>10*n+oM b) a≤ji→d.foldl (fun n c=>min (10*n+sY c) ji) a=d.foldl (fun n b=>10*n+oM b) a:=by
  intro d;induction d with
  | nil=>intro a _ _;rfl
  | cons b d ih =>
    intro a hd hv;rw[List.foldl_cons]at hv ⊢;rw[List.foldl_cons];have hg:=EE d (10*a+oM b);rw[(Ax b (hd b (by simp))).2.2.2.2.2,Nat.min_eq_left (by omega)];exact ih _ (fun x hx=>hd x (by simp[hx])) hv
 exact key d 0 hd hv
def K5(h:qk d)(hv:im d≤1000000000):vr d=1000*im d:=by
 have hd:=pU h;have he:Lib.indexAny d [101,69]=-1:=Gu fun b hb=>(Ax b (hd b hb)).2.1;have hm:pZ d=d:=by unfold pZ;rw[he,if_neg (by decide)]
 have hx:qy d=0:=by unfold qy;rw[he,if_neg (by decide)]
 have hc:Lib.cut d [46]=(d,[],false):=by unfold Lib.cut;rw[QC fun b hb=>(Ax b (hd b hb)).2.2.1,if_neg (by decide)]
 have hp:oB d=3:=by unfold oB;rw[hx,hm,hc];rfl
 have hg:u6 d=d:=by unfold u6;rw[hm,hc];simp
 have hcp:ov d=d:=by unfold ov;rw[hp,if_neg (by decide),hg]
 unfold vr;rw[hp,hcp,ML hd (by unfold ji;omega)];obtain⟨v,hv2⟩:∃v,im d=v:=⟨_,rfl⟩;rw[hv2]at hv ⊢;show Rt.tI ji 3 v=_;have step:∀p n,n<ji→10*n≤ji→Rt.tI ji (p+1) n=Rt.tI ji p (10*n):=fun p n h1 h2=>by
  rw[Rt.tI]
  by_cases z:0<n
  ·rw[if_pos ⟨z,h1⟩,Nat.min_eq_right h2]
  ·obtain rfl:n=0:=by omega
   rw[if_neg (by omega)];cases p with
   | zero=>rfl
   | succ p=>rw[Rt.tI,if_neg (by omega)]
 have hm:ji=1000000000000:=rfl;rw[step 2 v (by omega) (by omega),step 1 (10*v) (by omega) (by omega),step 0 (10*(10*v)) (by omega) (by omega)];show 10*(10*(10*v))=_;omega
def De(g:ae):Int:=if g=[45] then -1 else 1
def Iy(hg:g=[]∨g=[43]∨g=[45])(h:qk d)(hv:im d≤1000000000):nh (g++d)=De g*(1000*im d):=by
 obtain⟨c,r,rfl⟩:∃c r,d=c:: r:=by
  cases d with
  | nil=>exact absurd rfl h.1
  | cons c r=>exact⟨c,r,rfl⟩
 have hc:=Ax c (pU h c (by simp));have ht:∀g:ae,(g=[]∨g=[43]∨g=[45])→Lib.trimLeftS (g++c:: r) [43,45]=c:: r:=by
  intro g hg;unfold Lib.trimLeftS;rcases hg with rfl|rfl|rfl
  ·rw[List.nil_append,List.dropWhile_cons,if_neg (by rw[hc.1];decide)]
  ·rw[abv,List.nil_append,List.dropWhile_cons,if_pos (by decide),List.dropWhile_cons,if_neg (by rw[hc.1];decide)]
  ·rw[abv,List.nil_append,List.dropWhile_cons,if_pos (by decide),List.dropWhile_cons,if_neg (by rw[hc.1];decide)]
 unfold nh;rw[ht g hg,K5 h hv];unfold De;rcases hg with rfl|rfl|rfl
 ·rw[if_neg (show ¬Rt.ax ([]++c:: r) 0=45 from hc.2.2.2.1),if_neg (by decide)];omega
 ·rw[if_neg (show ¬Rt.ax ([43]++c:: r) 0=45 from (by decide:¬(43:UInt8)=45)),if_neg (by decide)];omega
 ·rw[if_pos (show Rt.ax ([45]++c:: r) 0=45 from rfl),if_pos rfl];omega
structure GJ(r:ae):Prop where
 d:Rt.ck (r.getD 0 0)=false
 p:r.getD 0 0≠46
 e:r.getD 0 0≠101
 f:r.getD 0 0≠69
def Ca(hg:g=[]∨g=[43]∨g=[45])(hd:qk d)(h:s.drop a=g++(d++r))(hr:GJ r):Rt.jP s a=true∧Rt.gU s a=(a+g.length+d.length,true)∧(s.take (a+g.length+d.length)).drop a=g++d:=by
 obtain⟨c,q,rfl⟩:∃c q,d=c:: q:=by
  cases d with
  | nil=>exact absurd rfl hd.1
  | cons c r=>exact⟨c,r,rfl⟩
 have hB:=pU hd;have hc:=hB c (by simp);have hcn:=Ax c hc;have h1:s.drop (a+g.length)=(c:: q)++r:=cJ h;have hat1:Rt.ax s (a+g.length)=c:=by rw[cO h1];rfl
 have hsg:(if Rt.ax s a=43∨Rt.ax s a=45 then a+1 else a)=a+g.length:=by
  rcases hg with rfl|rfl|rfl
  ·have:Rt.ax s a=c:=hat1;rw[this,if_neg (fun z=>z.elim hcn.2.2.2.2.1 hcn.2.2.2.1)];rfl
  ·have:Rt.ax s a=43:=by rw[cO h];rfl
   rw[this];rfl
  ·have:Rt.ax s a=45:=by rw[cO h];rfl
   rw[this];rfl
 have hdig:Rt.fT s (a+g.length)=a+g.length+(c:: q).length:=by
  unfold Rt.fT;rw[h1];have:((c:: q)++r).takeWhile Rt.ck=c:: q:=by
   rw[List.takeWhile_append_of_pos hB];have:r.takeWhile Rt.ck=[]:=by
    cases r with
    | nil=>rfl
    | cons x r=>rw[List.takeWhile_cons,if_neg (by have:=hr.d;simp at this;rw[this];decide)]
   rw[this,aaZ]
  rw[this]
 have hat2:Rt.ax s (a+g.length+(c:: q).length)=r.getD 0 0:=Ad h1;refine⟨?_, ?_, ?_⟩
 ·unfold Rt.jP;simp only[hsg];rw[hat1,if_neg hcn.2.2.1,hat1];exact hc
 ·unfold Rt.gU;simp only[hsg,hdig];have e1:(if Rt.ax s (a+g.length+(c:: q).length)=46∧Rt.ck (Rt.ax s (a+g.length+(c:: q).length+1))=true then (Rt.fT s (a+g.length+(c:: q).length+1),false) else (a+g.length+(c:: q).length,true))=(a+g.length+(c:: q).length,true):=if_neg fun z=>hr.p (by rw[←hat2];exact z.1);rw[e1];dsimp only;rw[hat2,if_neg (fun z=>z.elim hr.e hr.f)]
 ·rw[List.drop_take,h];have e:a+g.length+(c:: q).length-a=(g++(c:: q)).length:=by simp;omega
  rw[e,←To,List.take_left]
def Ro:∀c:UInt8,(Rt.ck c=true∨c=43∨c=45)→Rt.fv c=false∧c≠34∧c≠39∧c≠35∧c≠47:=eR (P:=fun c=>(Rt.ck c=true∨c=43∨c=45)→Rt.fv c=false∧c≠34∧c≠39∧c≠35∧c≠47) (by decide +kernel)
def one_num(hg:g=[]∨g=[43]∨g=[45])(hd:qk d)(h:s.drop a=g++(d++r))(hr:GJ r):a<s.length∧Rt.ax s a≠47∧iR s a=jO s a:=by
 obtain⟨h1,h2,h3⟩:=Ca hg hd h hr;obtain⟨c,q,rfl⟩:∃c q,d=c:: q:=by
  cases d with
  | nil=>exact absurd rfl hd.1
  | cons c r=>exact⟨c,r,rfl⟩
 have hc:=pU hd c (by simp);have hat:Rt.ck (Rt.ax s a)=true∨Rt.ax s a=43∨Rt.ax s a=45:=by
  rcases hg with rfl|rfl|rfl
  ·left;rw[cO h];exact hc
  ·right;left;rw[cO h];rfl
  ·right;right;rw[cO h];rfl
 obtain⟨x1,x2,x3,x4,x5⟩:=Ro _ hat;have hlt:a<s.length:=by
  rcases hg with rfl|rfl|rfl
  ·exact eE h
  ·exact eE h
  ·exact eE h
 refine⟨hlt,x5, ?_⟩;unfold iR;dsimp only;rw[if_neg (by rw[x1];decide),if_neg (fun z=>z.elim x2 x3),if_neg (fun z=>x4 z.1),if_pos h1]
def Lh(hg:g=[]∨g=[43]∨g=[45])(hd:qk d)(hv:im d≤1000000000)(h:s.drop a=g++(d++r))(hr:GJ r)(hn:Rt.gq s (a+g.length+d.length)=false)(h37:r.getD 0 0≠37):Tq s a [⟨10,[],De g*(1000*im d),[],true⟩] (a+g.length+d.length):=by
 obtain⟨h1,h2,h3⟩:=Ca hg hd h hr;obtain⟨hlt,hn47,hone⟩:=one_num hg hd h hr;have hd1:s.drop (a+g.length+d.length)=r:=cJ (cJ h);have hat:=cO hd1;refine Tq.one hlt ?_ hn47;rw[hone];unfold jO gr;dsimp only;rw[h2];dsimp only;rw[if_neg (by rw[hn];decide),if_neg (by rw[hat];exact h37),h3,Iy hg hd hv]
def Tz(hg:g=[]∨g=[43]∨g=[45])(hd:qk d)(hv:im d≤1000000000)(h:s.drop a=g++(d++(u++r)))(hr:GJ (u++r))(hn:Rt.gq s (a+g.length+d.length)=true)(hu:Rt.dk s (a+g.length+d.length)=(u,a+g.length+d.length+u.length)):Tq s a [⟨12,[],De g*(1000*im d),u,true⟩] (a+g.length+d.length+u.length):=by
 obtain⟨h1,h2,h3⟩:=Ca hg hd h hr;obtain⟨hlt,hn47,hone⟩:=one_num hg hd h hr;have hd1:s.drop (a+g.length+d.length+u.length)=r:=cJ (cJ (cJ h));have hat:=cO hd1;refine Tq.one hlt ?_ hn47;rw[hone];unfold jO gr;dsimp only;rw[h2];dsimp only;rw[if_pos hn,hu,h3,Iy hg hd hv]
def lM(B:Int):Tok:=⟨10,[],1000*B,[],true⟩
def eJ(B:Int):ae:=if B<0 then Lib.itoa B else []
def jC(B:Int):List Tok:=if 0<B then [lM B] else []
def oS(A B:Int):List Tok:=if A=0 then [lM B] else
 (if A=1 then ⟨1,[110]++eJ B,0,[],false⟩ else if A=-1 then ⟨1,[45,110]++eJ B,0,[],false⟩ else ⟨12,[],1000*A,[110]++eJ B,true⟩):: jC B
def vu(h:B<0):Lib.itoa B=45:: Lib.decDigits B.natAbs:=by rw[qN];unfold ng;rw[if_pos h];rfl
def Fu(h:¬B<0):Lib.itoa B=Lib.decDigits B.natAbs:=by rw[qN];unfold ng;rw[if_neg h];rfl
def LU(B:Int):De (ng B)*(1000*((B.natAbs:Nat):Int))=1000*B:=by
 unfold De ng
 by_cases h:B<0
 ·rw[if_pos h,if_pos rfl];omega
 ·rw[if_neg h,if_neg (by decide)];omega
def QM:∀c:UInt8,Rt.ck c=true→bo.dX c=c:=eR (P:=fun c=>Rt.ck c=true→bo.dX c=c) (by decide +kernel)
def E5(B:Int):cg (eJ B)=eJ B:=by
 unfold eJ;split
 ·rename_i h;rw[vu h];unfold cg;rw[GO]
  congr 1
  have hd:=pU (oU B.natAbs);generalize Lib.decDigits B.natAbs=d at hd;induction d with
  | nil=>rfl
  | cons c d ih=>rw[GO,QM c (hd c (by simp)),ih fun x hx=>hd x (by simp[hx])]
 ·rfl
def BZ(a b:ae):cg (a++b)=cg a++cg b:=by unfold cg;rw[List.map_append]
def JO(hd:qk d):Lib.trimS d jN=[]:=by
 have key:∀b∈d,jN.contains b=true:=fun b hb=>by
  have:∀c:UInt8,Rt.ck c=true→jN.contains c=true:=eR (P:=fun c=>Rt.ck c=true→jN.contains c=true) (by decide +kernel);exact this b (pU hd b hb)
 have drop:∀l:ae,(∀b∈l,jN.contains b=true)→l.dropWhile (fun x=>jN.contains x)=[]:=fun l=>by
  induction l with
  | nil=>intro _;rfl
  | cons b l ih=>intro h;rw[List.dropWhile_cons,if_pos (h b (by simp))];exact ih fun x hx=>h x (by simp[hx])
 unfold Lib.trimS Lib.trimRightS Lib.trimLeftS;rw[drop d.reverse fun b hb=>key b (by simpa using hb)];rfl
def Gf(B:Int)(r:List Tok):cY (lM B:: r)=((B,true),r):=by
 unfold cY lM;rw[lg,if_pos rfl];dsimp only;rw[Int.mul_comm,Int.mul_tdiv_cancel _ (by decide),Int.mul_comm,Int.mul_tmod_right];rfl
def Tp(B:Int)(hB:kr B=true)(sp:List Tok)(hs:∀t∈sp,t.k=13):∃q,fS (eJ B) (jC B++sp)=((B,true),q)∧dK q=[]:=by
 have hsk:∀sp:List Tok,(∀t∈sp,t.k=13)→dK sp=[]:=fun sp=>by
  induction sp with
  | nil=>intro _;rfl
  | cons t r ih=>intro h;rw[dK,if_pos (h t (by simp))];exact ih fun x hx=>h x (by simp[hx])
 unfold kr at hB;simp only[NO,Of]at hB;rcases Int.lt_trichotomy B 0 with h|h|h
 ·have hd:=oU B.natAbs;have hne:Lib.decDigits B.natAbs≠[]:=hd.1;have e1:eJ B=45:: Lib.decDigits B.natAbs:=by unfold eJ;rw[if_pos h,vu h]
  have e2:jC B=[]:=by unfold jC;rw[if_neg (by omega)]
  have hp:Lib.hasPrefix (45:: Lib.decDigits B.natAbs) [45]=true:=by unfold Lib.hasPrefix;simp[List.isPrefixOf]
  have ht:Lib.trimPrefix (45:: Lib.decDigits B.natAbs) [45]=Lib.decDigits B.natAbs:=by unfold Lib.trimPrefix;rw[if_pos hp];rfl
  refine⟨sp, ?_,hsk sp hs⟩;rw[e1,e2,List.nil_append];unfold fS Ed;rw[if_neg (by simp[hne]),if_neg (by simp[hne]),if_pos (by simp),if_neg,ht,uh]
  ·have:(-((min B.natAbs 1000000000:Nat):Int))=B:=by omega
   rw[this]
  ·rw[ht,JO hd,hp];simp
 ·subst h;have e1:eJ 0=[]:=by unfold eJ;rw[if_neg (by decide)]
  have e2:jC 0=[]:=by unfold jC;rw[if_neg (by decide)]
  refine⟨[], ?_,rfl⟩;rw[e1,e2,List.nil_append,pR,hsk sp hs]
 ·have e1:eJ B=[]:=by unfold eJ;rw[if_neg (by omega)]
  have e2:jC B=[lM B]:=by unfold jC;rw[if_pos h]
  refine⟨sp, ?_,hsk sp hs⟩;have hk:dK (lM B:: sp)=lM B:: sp:=by rw[dK,if_neg (by show ¬(10:Int)=13;decide)]
  have hg:iH (lM B:: sp)=(0,lM B:: sp):=by rw[iH,if_neg (by show ¬((10:Int)=9∧_);simp),if_neg (by show ¬((10:Int)=9∧_);simp)]
  rw[e1,e2,abv,List.nil_append,pR,hk];dsimp only;rw[hg];unfold Df;dsimp only;rw[if_pos rfl,hk,Gf]
def vR(h:t.k≠13):dK (t:: l)=t:: l:=by rw[dK,if_neg h]
def uG(h:t.k≠k):lg k (t:: l)=none:=by rw[lg,if_neg h]
def zJ(h:t.k=k):lg k (t:: l)=some (t,l):=by rw[lg,if_pos h]
def xZ(x:ae):Lib.hasPrefix ([110]++x) [110]=true∧Lib.trimPrefix ([110]++x) [110]=x:=by
 have h:Lib.hasPrefix ([110]++x) [110]=true:=by unfold Lib.hasPrefix;simp[List.isPrefixOf]
 exact⟨h,by unfold Lib.trimPrefix;rw[if_pos h];rfl⟩
def VO(A B:Int)(hA:kr A=true)(hB:kr B=true)(sp:List Tok)(hs:∀t∈sp,t.k=13):wm (oS A B++sp)=some (A,B):=by
 have hsk:∀sp:List Tok,(∀t∈sp,t.k=13)→dK sp=[]:=fun sp=>by
  induction sp with
  | nil=>intro _;rfl
  | cons t r ih=>intro h;rw[dK,if_pos (h t (by simp))];exact ih fun x hx=>h x (by simp[hx])
 have fin:∀l q,dK l=l→gV l=(((A,B),true),q)→dK q=[]→wm l=some (A,B):=fun l q h1 h2 h3=>by
  unfold wm;rw[h1,h2];dsimp only;rw[if_pos ⟨rfl,h3,hA,hB⟩]
 obtain⟨q,hq1,hq2⟩:=Tp B hB sp hs;unfold oS
 by_cases h0:A=0
 ·subst h0;rw[if_pos rfl];refine fin _ sp (vR (by show (10:Int)≠13;decide)) ?_ (hsk sp hs);unfold gV;rw[abv,List.nil_append,Gf];rfl
 rw[if_neg h0]
 by_cases h1:A=1
 ·subst h1;rw[if_pos rfl];refine fin _ q (vR (by show (1:Int)≠13;decide)) ?_ hq2;have hw:cY (⟨1,[110]++eJ B,0,[],false⟩:: (jC B++sp))=((0,false),⟨1,[110]++eJ B,0,[],false⟩:: (jC B++sp)):=by unfold cY;rw[uG (by show (1:Int)≠10;decide)]
  have hg:iH (⟨1,[110]++eJ B,0,[],false⟩:: (jC B++sp))=(0,⟨1,[110]++eJ B,0,[],false⟩:: (jC B++sp)):=by rw[iH,if_neg (by simp),if_neg (by simp)]
  have hl:cg ([110]++eJ B)=[110]++eJ B:=by rw[BZ,E5];rfl
  unfold gV;rw[abv,hw];dsimp only;rw[if_neg (by decide),uG (by show (1:Int)≠12;decide)];dsimp only;rw[hg];dsimp only;rw[zJ (k:=1) (t:=⟨1,[110]++eJ B,0,[],false⟩) rfl];dsimp only;rw[if_neg (by decide),hl,if_neg (by simp),if_neg (by simp)];have hn:Lib.hasPrefix ([110]++eJ B) [45]=false:=by unfold Lib.hasPrefix;simp[List.isPrefixOf]
  rw[hn];simp only[Bool.and_false,aaX,if_false];rw[(xZ _).1,if_pos rfl,(xZ _).2,hq1]
 rw[if_neg h1]
 by_cases h2:A=-1
 ·subst h2;rw[if_pos rfl];refine fin _ q (vR (by show (1:Int)≠13;decide)) ?_ hq2;have hw:cY (⟨1,[45,110]++eJ B,0,[],false⟩:: (jC B++sp))=((0,false),⟨1,[45,110]++eJ B,0,[],false⟩:: (jC B++sp)):=by unfold cY;rw[uG (by show (1:Int)≠10;decide)]
  have hg:iH (⟨1,[45,110]++eJ B,0,[],false⟩:: (jC B++sp))=(0,⟨1,[45,110]++eJ B,0,[],false⟩:: (jC B++sp)):=by rw[iH,if_neg (by simp),if_neg (by simp)]
  have hl:cg ([45,110]++eJ B)=[45,110]++eJ B:=by rw[BZ,E5];rfl
  unfold gV;rw[abv,hw];dsimp only;rw[if_neg (by decide),uG (by show (1:Int)≠12;decide)];dsimp only;rw[hg];dsimp only;rw[zJ (k:=1) (t:=⟨1,[45,110]++eJ B,0,[],false⟩) rfl];dsimp only;rw[if_neg (by decide),hl,if_neg (by simp),if_neg (by simp)];have hn:Lib.hasPrefix ([45,110]++eJ B) [45]=true:=by unfold Lib.hasPrefix;simp[List.isPrefixOf]
  have ht:Lib.trimPrefix ([45,110]++eJ B) [45]=[110]++eJ B:=by unfold Lib.trimPrefix;rw[if_pos hn];rfl
  rw[hn];simp only[decide_true,Bool.and_self,if_true];rw[ht,(xZ _).1,if_pos rfl,(xZ _).2,hq1]
 rw[if_neg h2];refine fin _ q (vR (by show (12:Int)≠13;decide)) ?_ hq2;have hw:cY (⟨12,[],1000*A,[110]++eJ B,true⟩:: (jC B++sp))=((0,false),⟨12,[],1000*A,[110]++eJ B,true⟩:: (jC B++sp)):=by unfold cY;rw[uG (by show (12:Int)≠10;decide)]
 have hl:cg ([110]++eJ B)=[110]++eJ B:=by rw[BZ,E5];rfl
 unfold gV;rw[abv,hw];dsimp only;rw[if_neg (by decide),zJ (k:=12) (t:=⟨12,[],1000*A,[110]++eJ B,true⟩) rfl];dsimp only;rw[hl,if_pos ⟨(xZ _).1,rfl,by rw[Int.mul_tmod_right]⟩,(xZ _).2,hq1,Int.mul_comm,Int.mul_tdiv_cancel _ (by decide)]
theorem Cf:∀(x s r:ae) (a:Nat),(∀c∈x,Rt.fq c=true)→s.drop a=x++r→zW r→Rt.dk s a=(x,a+x.length)
 | [],s,r,a,_,h,hr=>Fg h hr
 | c:: x,s,r,a,hx,h,hr=>by
   have ih:=Cf x s r (a+1) (fun y hy=>hx y (by simp[hy])) (cJ (x:=[c]) h) hr;rw[Fh h (hx c (by simp)),ih];simp;omega
def LJ(hx:∀c∈x,Rt.fq c=true)(hb:D0 s a)(hne:x≠[])(h:s.drop a=x++r)(hr:zW r)(h40:r.getD 0 0≠40):Tq s a [⟨1,x,0,[],false⟩] (a+x.length):=by
 have hlt:a<s.length:=by
  cases x with
  | nil=>exact absurd rfl hne
  | cons c x=>exact eE h
 refine Tq.one hlt ?_ hb.no;rw[Cc hb];unfold px;dsimp only;rw[Cf x s r a hx h hr];dsimp only;rw[if_pos (by rw[Ad h];exact h40)]
def yo(r:ae):Prop:=∃q,r=41:: q∨r=32:: q
def yo.nm(h:yo r):zW r:=by
 obtain⟨q,rfl|rfl⟩:=h
 ·intro c hc;cases hc;exact⟨by decide,by decide⟩
 ·intro c hc;cases hc;exact⟨by decide,by decide⟩
def yo.nu(h:yo r):GJ r∧r.getD 0 0≠37∧r.getD 0 0≠47∧r.getD 0 0≠40∧r.head?≠some 47:=by
 obtain⟨q,rfl|rfl⟩:=h
 ·exact⟨⟨(by decide:Rt.ck 41=false),(by decide:(41:UInt8)≠46),(by decide:(41:UInt8)≠101),(by decide:(41:UInt8)≠69)⟩,(by decide:(41:UInt8)≠37),(by decide:(41:UInt8)≠47),(by decide:(41:UInt8)≠40),by simp⟩
 ·exact⟨⟨(by decide:Rt.ck 32=false),(by decide:(32:UInt8)≠46),(by decide:(32:UInt8)≠101),(by decide:(32:UInt8)≠69)⟩,(by decide:(32:UInt8)≠37),(by decide:(32:UInt8)≠47),(by decide:(32:UInt8)≠40),by simp⟩
def yo.no(h:yo r)(hd:s.drop a=r):Rt.gq s a=false:=by
 have hat:=cO hd;have e:Rt.ax s a=41∨Rt.ax s a=32:=by
  obtain⟨q,rfl|rfl⟩:=h
  ·exact .inl hat
  ·exact .inr hat
 unfold Rt.gq;unfold Rt.cC;rcases e with e|e<;>rw[e]<;>rfl
def HN(hB:kr B=true)(hg:g=ng B∨(g=[43]∧0<B))(h:s.drop a=g++(Lib.decDigits B.natAbs++r))(hr:yo r):Tq s a [lM B] (a+g.length+(Lib.decDigits B.natAbs).length):=by
 unfold kr at hB;simp only[NO,Of]at hB;obtain⟨n1,n2,n3,n4,n5⟩:=hr.nu;have hgs:g=[]∨g=[43]∨g=[45]:=by
  rcases hg with rfl|⟨rfl,_⟩
  ·unfold ng;split<;>simp
  ·simp
 have hv:De g*(1000*((B.natAbs:Nat):Int))=1000*B:=by
  rcases hg with rfl|⟨rfl,hp⟩
  ·exact LU B
  ·unfold De;rw[if_neg (by decide)];omega
 have hend:s.drop (a+g.length+(Lib.decDigits B.natAbs).length)=r:=cJ (cJ h);have:=Lh (a:=a) hgs (oU B.natAbs) (by rw[uh];omega) h n1 (hr.no hend) n2;rw[uh,hv]at this;exact this
def Qo:∀c:UInt8,Rt.ck c=true→Rt.fq c=true:=eR (P:=fun c=>Rt.ck c=true→Rt.fq c=true) (by decide +kernel)
def F5(B:Int):∀c∈eJ B,Rt.fq c=true:=by
 unfold eJ;split
 ·rename_i h;rw[vu h];intro c hc;rcases ID.1 hc with rfl|hc
  ·decide
  ·exact Qo c (pU (oU B.natAbs) c hc)
 ·intro c hc;cases hc
def Tm(hA:kr A=true)(hB:kr B=true)(h:s.drop a=mU A B++r)(hr:yo r):Tq s a (oS A B) (a+(mU A B).length):=by
 obtain⟨n1,n2,n3,n4,n5⟩:=hr.nu;unfold mU at h ⊢;unfold oS
 by_cases h0:A=0
 ·rw[if_pos h0]at h ⊢;rw[if_pos h0];rw[qN]at h ⊢;have:=HN (g:=ng B) hB (.inl rfl) (by rw[←To];exact h) hr;rw[AT,←Nat.add_assoc];exact this
 rw[if_neg h0]at h ⊢;rw[if_neg h0]
 -- behind the letter
 obtain⟨q,hq⟩:∃q,(if 0<B then 43:: Lib.itoa B else if B<0 then Lib.itoa B else [])=q:=⟨_,rfl⟩;obtain⟨m,hm⟩:∃m,q=eJ B++m:=by
  rw[←hq];unfold eJ
  by_cases hp:0<B
  ·exact⟨43:: Lib.itoa B,by rw[if_pos hp,if_neg (by omega)];rfl⟩
  ·by_cases hn:B<0
   ·exact⟨[],by rw[if_neg hp,if_pos hn];simp⟩
   ·exact⟨[],by rw[if_neg hp,if_neg hn];rfl⟩
 have hmm:(m=[]∧jC B=[])∨(0<B∧m=43:: Lib.decDigits B.natAbs):=by
  rw[←hq]at hm;unfold eJ at hm;unfold jC
  by_cases hp:0<B
  ·rw[if_pos hp,if_neg (by omega)]at hm;right;refine⟨hp, ?_⟩;rw[Fu (by omega)]at hm;exact hm.symm
  ·left;rw[if_neg hp]at hm;refine⟨?_,if_neg hp⟩
   by_cases hn:B<0
   ·rw[if_pos hn]at hm;have:=congrArg List.length hm;simp at this;exact this
   ·rw[if_neg hn]at hm;simpa using hm.symm
 have hmr:zW (m++r)∧(m++r).getD 0 0≠40∧(m++r).getD 0 0≠47∧(m++r).head?≠some 47:=by
  rcases hmm with⟨rfl,_⟩|⟨_,rfl⟩
  ·exact⟨hr.nm,n4,n3,n5⟩
  ·refine⟨fun c hc=>?_,(by decide:(43:UInt8)≠40),(by decide:(43:UInt8)≠47),by simp⟩;cases hc;exact⟨by decide,by decide⟩
 have tail:∀b,s.drop b=m++r→Tq s b (jC B) (b+m.length):=by
  intro b hb;have hlen:b≤s.length:=by
   rcases uP s.length b with k|k
   ·exfalso;rw[List.drop_of_length_le (by omega)]at hb;have:=congrArg List.length hb;obtain⟨q,rfl|rfl⟩:=hr<;>simp at this
   ·exact k
  rcases hmm with⟨rfl,e⟩|⟨hp,rfl⟩
  ·rw[e];exact Tq.refl hlen
  ·have:jC B=[lM B]:=by unfold jC;rw[if_pos hp]
   rw[this];have:=HN (g:=[43]) hB (.inr ⟨rfl,hp⟩) (by simpa using hb) hr;rw[show b+(43:: Lib.decDigits B.natAbs).length=b+([43]:ae).length+(Lib.decDigits B.natAbs).length by simp;omega];exact this
 rw[hq,hm]at h ⊢
 by_cases h1:A=1
 ·rw[if_pos h1]at h ⊢;rw[if_pos h1];have hx:s.drop a=([110]++eJ B)++(m++r):=by rw[h];simp
  have hat:Rt.ax s a=110:=by rw[cO hx];rfl
  have hb:D0 s a:=⟨by unfold Rt.gq;rw[hat];rfl,xb hat (by decide) (by decide) (by decide) (by decide),AG (by rw[hat];decide),.inl (by rw[hat];decide),by rw[hat];decide⟩;have t1:=LJ (x:=[110]++eJ B) (fun c hc=>by
   rcases Is.1 hc with hc|hc
   ·simp at hc;subst hc;decide
   ·exact F5 B c hc) hb (by simp) hx hmr.1 hmr.2.1
  have t2:=tail _ (cJ hx);have:=t1.trans t2;rw[show a+(([]++[110]++(eJ B++m):ae)).length=a+([110]++eJ B).length+m.length by simp;omega];exact this
 rw[if_neg h1]at h ⊢;rw[if_neg h1]
 by_cases h2:A=-1
 ·rw[if_pos h2]at h ⊢;rw[if_pos h2];have hx:s.drop a=([45,110]++eJ B)++(m++r):=by rw[h];simp
  have hat:Rt.ax s a=45:=by rw[cO hx];rfl
  have hat1:Rt.ax s (a+1)=110:=by rw[mE hx 1];rfl
  have hb:D0 s a:=⟨by unfold Rt.gq;rw[hat,if_pos rfl,hat1];rfl,Lg hat hat1 (by decide) (by decide),by
   cases e:Rt.hasB s a [45,45,62] with
   | false=>rfl
   | true =>
     obtain⟨_,g1,_⟩:=Jn e;have:Rt.ax s (a+1)=45:=by unfold Rt.ax;rw[nE,g1];rfl
     rw[hat1]at this;exact absurd this (by decide),.inl (by rw[hat];decide),by rw[hat];decide⟩
  have t1:=LJ (x:=[45,110]++eJ B) (fun c hc=>by
   rcases Is.1 hc with hc|hc
   ·simp at hc;rcases hc with rfl|rfl<;>decide
   ·exact F5 B c hc) hb (by simp) hx hmr.1 hmr.2.1
  have t2:=tail _ (cJ hx);have:=t1.trans t2;rw[show a+(([45]++[110]++(eJ B++m):ae)).length=a+([45,110]++eJ B).length+m.length by simp;omega];exact this
 rw[if_neg h2]at h ⊢;rw[if_neg h2,qN A]at *;have hA2:=hA;unfold kr at hA2;simp only[NO,Of]at hA2;have hx:s.drop a=ng A++(Lib.decDigits A.natAbs++(([110]++eJ B)++(m++r))):=by rw[h];simp
 have hgs:ng A=[]∨ng A=[43]∨ng A=[45]:=by unfold ng;split<;>simp
 have hd3:s.drop (a+(ng A).length+(Lib.decDigits A.natAbs).length)=([110]++eJ B)++(m++r):=cJ (cJ hx);have hat3:=cO hd3;have t1:=Tz (a:=a) (u:=[110]++eJ B) (r:=m++r) hgs (oU A.natAbs) (by rw[uh];omega) hx
  ⟨by show Rt.ck 110=false;decide,(by decide:(110:UInt8)≠46),(by decide:(110:UInt8)≠101),(by decide:(110:UInt8)≠69)⟩
  (by unfold Rt.gq;rw[hat3];rfl)
  (Cf ([110]++eJ B) s (m++r) _ (fun c hc=>by
   rcases Is.1 hc with hc|hc
   ·simp at hc;subst hc;decide
   ·exact F5 B c hc) hd3 hmr.1)
 rw[uh,LU]at t1;have t2:=tail _ (cJ hd3);have:=t1.trans t2;rw[show a+((ng A++Lib.decDigits A.natAbs++[110]++(eJ B++m):ae)).length=a+(ng A).length+(Lib.decDigits A.natAbs).length+([110]++eJ B).length+m.length by simp;omega];exact this
def TX(x:ae)(l:List Tok)(N:ae→Prop):Prop:=∀(s r:ae) (a:Nat),a≤s.length→s.drop a=x++r→N r→Tq s a l (a+x.length)
def TX.nil(N:ae→Prop):TX [] [] N:=fun _ _ _ ha _ _=>Tq.refl ha
def TX.cat{N1 N:ae→Prop}(h1:TX x l N1)(h2:TX y m N)(hn:∀r,N r→N1 (y++r)):TX (x++y) (l++m) N:=by
 intro s r a ha h hr;rw[To]at h;have t1:=h1 s (y++r) a ha h (hn r hr);have t2:=h2 s r (a+x.length) t1.2.1 (cJ h) hr;rw[AT,←Nat.add_assoc];exact t1.trans t2
def TX.mono{N N':ae→Prop}(h:TX x l N)(hn:∀r,N' r→N r):TX x l N':=fun s r a ha hd hr=>h s r a ha hd (hn r hr)
def TX.of{N:ae→Prop}(h:TX x l N)(e1:x=y)(e2:l=m):TX y m N:=by subst e1;subst e2;exact h
def pN(c:UInt8):Bool:=!Rt.fq c&&!decide (c=92)&&!decide (c=62)&&!decide (c=40)
def NX(r:ae):Prop:=∀c,r.head?=some c→pN c=true
abbrev Any(_:ae):Prop:=True
def NX.nx(h:NX r):Nx r∧r.head?≠some 40:=by
 have key:∀c,r.head?=some c→Rt.fq c=false∧c≠92∧c≠62∧c≠40:=fun c hc=>by
  have:=h c hc;unfold pN at this;simp only[NO,abm,decide_eq_false_iff_not]at this;exact⟨this.1.1.1,this.1.1.2,this.1.2,this.2⟩
 exact⟨⟨fun c hc=>⟨(key c hc).1,(key c hc).2.1⟩,fun e=>(key 62 e).2.2.1 rfl⟩,fun e=>(key 40 e).2.2.2 rfl⟩
def NX.cons(r:ae)(h:pN c=true):NX (c:: r):=fun x hx=>by cases hx;exact h
def NX.nil:NX []:=fun x hx=>by cases hx
def my(hz:∀c∈n,c≠0)(hn:n≠[]):TX (fD n) [⟨1,n,0,[],false⟩] NX:=fun _ _ _ _ h hr=>NS hz hn h hr.nx.1 hr.nx.2
def rA(hz:∀c∈n,c≠0)(hn:n≠[])(hu:n.map bo.dX≠Rt.xr):TX (fD n++[40]) [⟨2,n,0,[],false⟩] Any:=fun s r a _ h _=>by
 rw[AT,←Nat.add_assoc];exact Qs (r:=r) hz hn hu (by rw[h];simp)
def RB(hz:∀c∈n,c≠0)(hn:n≠[]):TX (35:: fD n) [⟨4,n,0,[],true⟩] NX:=fun s r a _ h hr=>by
 rw[show a+(35:: fD n).length=a+1+(fD n).length by simp;omega];exact Qv hz hn h hr.nx.1
def lK{k:Nat}(hc:sw c=true)(hk:Lib.indexByte Rt.lL c=k)(h43:c≠43)(h46:c≠46)(h47:c≠47):TX [c] [⟨16+(k:Int),[],0,[],false⟩] Any:=fun _ _ _ _ h _=>QO h hc hk h43 h46 h47
def sF(hc:sw c=true)(hk:Lib.indexByte Rt.lL c=-1)(h43:c≠43)(h45:c≠45)(h46:c≠46)(h47:c≠47):TX [c] [⟨9,[c],0,[],false⟩] Any:=fun s r a _ h _=>by
 have hat:Rt.ax s a=c:=by rw[cO h];rfl
 have hd:Rt.ck c=false:=by
  have:=hc;unfold sw at this;simp only[NO,abm]at this;exact this.2
 exact yP h hc hk (xb hat h43 h45 h46 hd) h47
def RD:TX [43] [⟨9,[43],0,[],false⟩] (fun r=>∃q,r=32:: q):=fun s r a _ h hr=>by
 obtain⟨q,rfl⟩:=hr;have hat:Rt.ax s a=43:=by rw[cO h];rfl
 have hat1:Rt.ax s (a+1)=32:=by rw[mE h 1];rfl
 refine yP h (by decide) (by decide) ?_ (by decide);have e:(if Rt.ax s a=43∨Rt.ax s a=45 then a+1 else a)=a+1:=if_pos (.inl hat);unfold Rt.jP;simp only[e];rw[if_neg (by rw[hat1];decide),hat1];decide
def N7(hz:∀c∈n,c≠0)(hn:n≠[])(r:ae)(hr:r.head?≠some 62):Rt.ck ((fD n++r).getD 0 0)=false:=by
 have h:=(Ae (s:=fD n++r) (a:=0) hz hn (by rw[List.drop_zero]) hr).d;exact h
def OJ(hz:∀c∈n,c≠0)(hn:n≠[]):TX (46:: fD n) [⟨9,[46],0,[],false⟩,⟨1,n,0,[],false⟩] NX:=by
 have h46:TX [46] [⟨9,[46],0,[],false⟩] (fun r=>Rt.ck (r.getD 0 0)=false):=fun s r a _ h hr=>by
  have hat:Rt.ax s a=46:=by rw[cO h];rfl
  have hat1:Rt.ax s (a+1)=r.getD 0 0:=cO (cJ (x:=[46]) h);refine yP h (by decide) (by decide) ?_ (by decide);have e:(if Rt.ax s a=43∨Rt.ax s a=45 then a+1 else a)=a:=if_neg (by rw[hat];decide);unfold Rt.jP;simp only[e];rw[if_pos hat,hat1];exact hr
 exact h46.cat (my hz hn) fun r hr=>N7 hz hn r hr.nx.1.g
def F9:TX [32] [⟨13,[],0,[],false⟩] (fun r=>∀c,r.head?=some c→Rt.fv c=false):=fun _ _ _ _ h hr=>OA h hr
def OK(hz:∀c∈v,c≠0):TX (uB v) [⟨5,v,0,[],false⟩] Any:=fun _ _ _ _ h _=>Oe hz h
def Vs(hA:kr A=true)(hB:kr B=true):TX (mU A B) (oS A B) yo:=fun _ _ _ _ h hr=>Tm hA hB h hr
/-! ### Attributes -/
def lf(k:Int)(t:ae)(f:Bool):Vl:=.mk k t 0 [] f []
def Ll(o:Int):List Vl:=(A8.getD o.toNat []).map fun c=>lf 9 [c] false
def yq(n:ae)(o:Int)(v:ae)(f:Bool):List Vl:=lf 1 n false:: ((if o=0 then [] else Ll o++[lf 5 v false])++(if f then [lf 13 [] false,lf 1 [105] false] else []))
def kj(h:cw k=0):iM (lf k t f)=[⟨k,t,0,[],f⟩]:=by unfold lf;rw[iM,if_pos h]
def bD(v:Vl)(l:List Vl):bu (v:: l)=iM v++bu l:=by rw[bu]
def cE:bu []=[]:=by rw[bu]
def WY:∀o:Nat,o≤6→TX (A8.getD o []) (bu (Ll (o:Int))) Any:=by
 have d:∀c:UInt8,sw c=true→Lib.indexByte Rt.lL c=-1→c≠43→c≠45→c≠46→c≠47→TX [c] (iM (lf 9 [c] false)) Any:=fun c h1 h2 h3 h4 h5 h6=>by rw[kj (by decide)];exact sF h1 h2 h3 h4 h5 h6
 have eq:=d 61 (by decide) (by decide) (by decide) (by decide) (by decide) (by decide);have two:∀c:UInt8,sw c=true→Lib.indexByte Rt.lL c=-1→c≠43→c≠45→c≠46→c≠47→TX [c,61] (iM (lf 9 [c] false)++(iM (lf 9 [61] false)++[])) Any:=fun c h1 h2 h3 h4 h5 h6=>by
  rw[aaZ];exact (d c h1 h2 h3 h4 h5 h6).cat eq fun _ _=>trivial
 intro o ho
 match o,ho with
 | 0,_=>exact TX.nil _
 | 1,_ =>
   have:bu (Ll ((1:Nat):Int))=iM (lf 9 [61] false):=by show bu [lf 9 [61] false]=_;rw[bD,cE,aaZ]
   rw[this];exact eq
 | 2,_=>exact (two 126 (by decide) (by decide) (by decide) (by decide) (by decide) (by decide)).of rfl (by show _=bu [lf 9 [126] false,lf 9 [61] false];rw[bD,bD,cE])
 | 3,_=>exact (two 124 (by decide) (by decide) (by decide) (by decide) (by decide) (by decide)).of rfl (by show _=bu [lf 9 [124] false,lf 9 [61] false];rw[bD,bD,cE])
 | 4,_=>exact (two 94 (by decide) (by decide) (by decide) (by decide) (by decide) (by decide)).of rfl (by show _=bu [lf 9 [94] false,lf 9 [61] false];rw[bD,bD,cE])
 | 5,_=>exact (two 36 (by decide) (by decide) (by decide) (by decide) (by decide) (by decide)).of rfl (by show _=bu [lf 9 [36] false,lf 9 [61] false];rw[bD,bD,cE])
 | 6,_=>exact (two 42 (by decide) (by decide) (by decide) (by decide) (by decide) (by decide)).of rfl (by show _=bu [lf 9 [42] false,lf 9 [61] false];rw[bD,bD,cE])
def eZ(a b:List Vl):bu (a++b)=bu a++bu b:=pJ a b
def Q0:∀o:Nat,o≤6→o≠0→∃c y,A8.getD o []=c:: y∧pN c=true:=by
 intro o ho h0
 match o,ho with
 | 0,_=>exact absurd rfl h0
 | 1,_=>exact⟨61,[],rfl,by decide⟩
 | 2,_=>exact⟨126,[61],rfl,by decide⟩
 | 3,_=>exact⟨124,[61],rfl,by decide⟩
 | 4,_=>exact⟨94,[61],rfl,by decide⟩
 | 5,_=>exact⟨36,[61],rfl,by decide⟩
 | 6,_=>exact⟨42,[61],rfl,by decide⟩
def Rz(hz:∀c∈n,c≠0)(hn:n≠[])(h0:0≤o)(h6:o≤6)(hv:∀c∈v,c≠0):TX (sR n o v f) (iM (.mk 19 [] 0 [] false (yq n o v f))) Any:=by
 obtain⟨k,rfl⟩:∃k:Nat,o=k:=⟨o.toNat,by omega⟩;have hX:TX (if (k:Int)=0 then [] else A8.getD (k:Int).toNat []++uB v) (bu (if (k:Int)=0 then [] else Ll k++[lf 5 v false])) Any:=by
  by_cases z:(k:Int)=0
  ·rw[if_pos z,if_pos z,cE];exact TX.nil _
  ·rw[if_neg z,if_neg z,eZ,bD,cE,aaZ,kj (by decide)];exact (WY k (by omega)).cat (OK hv) fun _ _=>trivial
 have hY:TX (if f then [32,105] else []) (bu (if f then [lf 13 [] false,lf 1 [105] false] else [])) NX:=by
  cases f with
  | false=>exact TX.nil _
  | true =>
    have h1:TX (fD [105]) [⟨1,[105],0,[],false⟩] NX:=my (fun c hc=>by simp at hc;subst hc;decide) (by simp);refine (F9.cat (h1.of (by decide) rfl) fun r _=>?_).of rfl ?_
    ·intro c hc;cases hc;decide
    ·show _=bu [lf 13 [] false,lf 1 [105] false];rw[bD,bD,cE,kj (by decide),kj (by decide)];rfl
 have hZ:TX [93] [⟨20,[],0,[],false⟩] Any:=lK (k:=4) (by decide) (by decide) (by decide) (by decide) (by decide);have hA:TX [91] [⟨19,[],0,[],false⟩] Any:=lK (k:=3) (by decide) (by decide) (by decide) (by decide) (by decide);have hN:TX (fD n) [⟨1,n,0,[],false⟩] NX:=my hz hn;have hYZ:=hY.cat hZ fun r _=>NX.cons r (by decide);have hXYZ:=hX.cat hYZ fun _ _=>trivial;have hNX:=hN.cat hXYZ fun r _=>by
  by_cases z:(k:Int)=0
  ·rw[if_pos z,List.nil_append];cases f with
   | false=>exact NX.cons _ (by decide)
   | true=>exact NX.cons _ (by decide)
  ·rw[if_neg z];obtain⟨c,y,hc,hp⟩:=Q0 k (by omega) (by omega);rw[Mk,hc];exact NX.cons _ hp
 refine (hA.cat hNX fun _ _=>trivial).of ?_ ?_
 ·unfold sR;simp
 ·have e:cw 19=20:=by decide
  rw[iM,if_neg (show ¬cw 19=0 by decide),e];unfold yq;rw[bD,kj (by decide),eZ];simp only[abv,List.nil_append,To]
/-! ### What a list is,as_ values -/
def gB(sep:Nat→List Vl)(ts:List (List Vl)):List Vl:=(List.range ts.length).flatMap fun i=>sep i++ts.getD i []
def dW:Vl:=lf 13 [] false
def jW:Vl:=lf 18 [] false
def fG:Vl:=lf 16 [] false
def ju(c:UInt8):Vl:=lf 9 [c] false
def bC_(c:Int):UInt8:=if c=2 then 62 else if c=3 then 43 else 126
def jc(k:Nat):List Vl:=if k=0 then [] else [jW,dW]
def mX(c:Int):List Vl:=if c=1 then [dW] else [dW,ju (bC_ c),dW]
def vJ(cs:List Int)(k:Nat):List Vl:=if k=0 then [] else mX (cs.getD (k-1) 0)
def lX(A B:Int):List Vl:=(oS A B).map fun t=>gD t []
def pb(k a b:Int)(w:Bool):List Vl:=if eO k then lX a b++(if w then [dW,lf 1 [111,102] false,dW] else []) else []
def CR(k:Int):ae:=if k=9 then [102,105,114,115,116,45,99,104,105,108,100] else [108,97,115,116,45,99,104,105,108,100]
mutual
def vX:Cx→List Vl
 | .mk l ps cs=>(if 1<l then [ju (bC_ l),dW] else [])++gB (vJ cs) (nW ps)
def nW:List Cp→List (List Vl)
 | []=>[]
 | p:: l=>vP p:: nW l
def vP:Cp→List Vl
 | .mk t ss=>(if t=[42] then [ju 42] else if t=[] then [] else [lf 1 t false])++nC ss
def nC:List Sm→List Vl
 | []=>[]
 | s:: l=>vS s++nC l
def vS:Sm→List Vl
 | .mk k n o v f a b w l=>if k=1 then [lf 4 n true] else if k=2 then [ju 46,lf 1 n false] else if k=3 then [.mk 19 [] 0 [] false (yq n o v f)]
   else if kq k a b w then [fG,lf 1 (CR k) false]
   else if k≤8 then [fG,lf 1 (dY.getD (k-4).toNat []) false]
   else [fG,.mk 2 (dY.getD (k-4).toNat []) 0 [] false (pb k a b w++gB jc (jE l))]
def jE:List Cx→List (List Vl)
 | []=>[]
 | x:: l=>vX x:: jE l
end
def vL(l:List Cx):List Vl:=gB jc (jE l)
def IB{sep:Nat→ae}{sv:Nat→List Vl}{N:ae→Prop}(ts:List ae)(vs:List (List Vl))(hsep:∀k,k<ts.length→TX (sep k) (bu (sv k)) (fun r=>Rt.fv (r.getD 0 0)=false)):∀(hl:ts.length=vs.length) (ht:∀i,i<ts.length→TX (ts.getD i []) (bu (vs.getD i [])) N),(∀i,0<i→i<ts.length→∀r,N (sep i++r))→(∀i,i<ts.length→∀r,Rt.fv ((ts.getD i []++r).getD 0 0)=false)→TX (gm sep ts) (bu (gB sv vs)) N:=by
 intro hl ht hN hS;have key:∀k,k≤ts.length→TX ((List.range k).flatMap fun i=>sep i++ts.getD i []) (bu ((List.range k).flatMap fun i=>sv i++vs.getD i [])) (fun r=>N r∨k=0):=by
  intro k;induction k with
  | zero=>intro _;exact (TX.nil _).of rfl (by simp[cE])
  | succ k ih =>
    intro hk;rw[List.range_succ,List.flatMap_append,List.flatMap_append,eZ];have e1:([k].flatMap fun i=>sep i++ts.getD i [])=sep k++ts.getD k []:=by simp
    have e2:([k].flatMap fun i=>sv i++vs.getD i [])=sv k++vs.getD k []:=by simp
    rw[e1,e2,eZ];have h1:=(hsep k (by omega)).cat (ht k (by omega)) fun r _=>hS k (by omega) r;refine ((ih (by omega)).cat h1 fun r _=>?_).mono fun r hr=>hr.resolve_right (by omega);rcases Nat.eq_zero_or_pos k with z|z
    ·exact .inr z
    ·left;rw[To];exact hN k z (by omega) _
 have:=key ts.length (bY _);unfold gm fj gB;rw[←hl];exact this.mono fun r hr=>.inl hr
abbrev Ns(r:ae):Prop:=Rt.fv (r.getD 0 0)=false
def Ns.hd(h:Ns r):∀c,r.head?=some c→Rt.fv c=false:=fun c hc=>by
 cases r with
 | nil=>cases hc
 | cons x r=>cases hc;exact h
def JN:iM dW=[⟨13,[],0,[],false⟩]:=kj (by decide)
def WO:iM jW=[⟨18,[],0,[],false⟩]:=kj (by decide)
def WN:iM fG=[⟨16,[],0,[],false⟩]:=kj (by decide)
def JM(c:UInt8):iM (ju c)=[⟨9,[c],0,[],false⟩]:=kj (by decide)
def tH:TX [32] (iM dW) Ns:=by rw[JN];exact F9.mono fun r hr=>hr.hd
def JP:TX [44] (iM jW) Any:=by rw[WO];exact lK (k:=2) (by decide) (by decide) (by decide) (by decide) (by decide)
def qT:TX [58] (iM fG) Any:=by rw[WN];exact lK (k:=0) (by decide) (by decide) (by decide) (by decide) (by decide)
def IC(h2:2≤c)(h4:c≤4):TX ((qB.getD c.toNat []).drop 1) (bu [ju (bC_ c),dW]) Ns:=by
 have hsp:TX [32] (bu [dW]) Ns:=by rw[bD,cE,aaZ];exact tH
 rw[bD,JM];rcases (by omega:c=2∨c=3∨c=4) with rfl|rfl|rfl
 ·exact ((sF (c:=62) (by decide) (by decide) (by decide) (by decide) (by decide) (by decide)).cat hsp fun _ _=>trivial).of rfl rfl
 ·exact (RD.cat hsp fun r _=>⟨r,rfl⟩).of rfl rfl
 ·exact ((sF (c:=126) (by decide) (by decide) (by decide) (by decide) (by decide) (by decide)).cat hsp fun _ _=>trivial).of rfl rfl
def WW(h1:1≤c)(h4:c≤4):TX (qB.getD c.toNat []) (bu (mX c)) Ns:=by
 by_cases h:c=1
 ·subst h;have e:bu (mX 1)=iM dW:=by unfold mX;rw[if_pos rfl,bD,cE,aaZ]
  rw[e];exact tH
 ·have e:bu (mX c)=iM dW++bu [ju (bC_ c),dW]:=by unfold mX;rw[if_neg h,bD]
  have e2:qB.getD c.toNat []=[32]++(qB.getD c.toNat []).drop 1:=by rcases (by omega:c=2∨c=3∨c=4) with rfl|rfl|rfl<;>rfl
  rw[e,e2];refine (tH.cat (IC (by omega) h4) fun r _=>?_);rcases (by omega:c=2∨c=3∨c=4) with rfl|rfl|rfl
  ·exact (by decide:Rt.fv 62=false)
  ·exact (by decide:Rt.fv 43=false)
  ·exact (by decide:Rt.fv 126=false)
def RF{cs:List Int}(hc:∀c∈cs,1≤c∧c≤4)(k:Nat)(hk:k≤cs.length):TX (gW cs k) (bu (vJ cs k)) Ns:=by
 unfold gW vJ
 by_cases h:k=0
 ·rw[if_pos h,if_pos h,cE];exact TX.nil _
 ·rw[if_neg h,if_neg h];have hm:cs.getD (k-1) 0∈cs:=by
   rw[nE,dO (by omega)];exact aba _
  exact WW (hc _ hm).1 (hc _ hm).2
def RE(k:Nat):TX (ga k) (bu (jc k)) Ns:=by
 unfold ga jc
 by_cases h:k=0
 ·rw[if_pos h,if_pos h,cE];exact TX.nil _
 ·rw[if_neg h,if_neg h,bD,bD,cE,aaZ];exact (JP.cat tH fun _ _=>trivial).of rfl rfl
def xS(h:bo.named n=true):(∀c∈n,c≠0)∧n≠[]:=by
 unfold bo.named at h;simp only[NO,abm,decide_eq_false_iff_not]at h;refine⟨fun c hc=>?_,h.1.1⟩;have:=At.1 h.2 c hc;simpa using this
def Mu(h:gF n=true):∀c∈n,c≠0:=fun c hc=>by
 have:=At.1 h c hc;simpa using this
def Lc:∀i,i<11→fD (dY.getD i [])=dY.getD i []∧dY.getD i []≠[]∧(∀c∈dY.getD i [],c≠0)∧(dY.getD i []).map bo.dX≠Rt.xr:=by
 intro i hi
 match i,hi with
 | 0,_|1,_|2,_|3,_|4,_|5,_|6,_|7,_|8,_|9,_|10,_=>exact⟨by decide,by decide,by decide,by decide⟩
def EW:∀i,i<11→wz.getD i []=if i<5 then 58:: dY.getD i [] else 58:: (dY.getD i []++[40]):=by
 intro i hi
 match i,hi with
 | 0,_|1,_|2,_|3,_|4,_|5,_|6,_|7,_|8,_|9,_|10,_=>rfl
def NL:∀k:Int,k=9∨k=10→CQ.getD (k-9).toNat []=58:: fD (CR k)∧CR k≠[]∧∀c∈CR k,c≠0:=by
 rintro k (rfl|rfl)
 ·exact⟨by decide,by decide,by decide⟩
 ·exact⟨by decide,by decide,by decide⟩
def Pn(hn:n≠[])(r:ae):Ns (fD n++r):=by
 cases n with
 | nil=>exact absurd rfl hn
 | cons c0 m =>
   have e0:fD (c0:: m)=jL (c0:: m) (kF (c0:: m)) 0 c0++qC (c0:: m) (kF (c0:: m)) 1 m.length:=by
    show jZ _ _ _=_;rw[←DH,aaP,sa];rfl
   obtain⟨b,y,hb,hc⟩:=vA (c0:: m) (kF (c0:: m)) 0 c0;have hl:Rt.fq b=true∨b=92:=hc.elim (fun z=>.inl z.2.2) fun z=>.inr z.2;rw[e0,hb];exact (E1 b hl).1
theorem zK:∀l:List Tok,(∀t∈l,cw t.k=0)→bu (l.map fun t=>gD t [])=l
 | [],_=>cE
 | t:: l,h=>by
   rw[GO,bD,zK l fun x hx=>h x (by simp[hx])];unfold gD;rw[iM,if_pos (h t (by simp))];rfl
def CE(A B:Int):∀t∈oS A B,cw t.k=0:=by
 have hn:cw (lM B).k=0:=by show cw 10=0;decide
 have ht:∀t∈jC B,cw t.k=0:=fun t h=>by
  unfold jC at h;split at h
  ·simp at h;subst h;exact hn
  ·cases h
 intro t h;unfold oS at h;split at h
 ·simp at h;subst h;exact hn
 ·rcases ID.1 h with rfl|h
  ·split
   ·show cw 1=0;decide
   ·split
    ·show cw 1=0;decide
    ·show cw 12=0;decide
  ·exact ht t h
def HM{sep:Nat→ae}(h0:sep 0=[])(r:ae)(h:∀r,Ns (t++r)):Ns (gm sep (t:: l)++r):=by
 unfold gm fj;rw[aaP,List.range_succ_eq_map,List.flatMap_cons,h0,List.nil_append,To];exact h _
def xV(h:bo.gu n=true):kr n=true∧oO n=true:=by
 unfold bo.gu at h;have h:=oN h;unfold kr oO;simp;omega
theorem IJ:∀l:List Cx,(dC l).length=(jE l).length
 | []=>by rw[dC,jE];rfl
 | x:: l=>by rw[dC,jE,aaP,aaP,IJ l]
theorem IH:∀l:List Cp,(dS l).length=(nW l).length
 | []=>by rw[dS,nW];rfl
 | x:: l=>by rw[dS,nW,aaP,aaP,IH l]
def yj(h:∀i,i<(dC l).length→TX ((dC l).getD i []) (bu ((jE l).getD i [])) NX∧∀r,Ns ((dC l).getD i []++r)):TX (gm ga (dC l)) (bu (gB jc (jE l))) NX:=
 IB (dC l) (jE l) (fun k _=>RE k) (IJ l) (fun i hi=>(h i hi).1) (fun i h0 _ r=>by unfold ga;rw[if_neg (by omega)];exact NX.cons _ (by decide)) fun i hi=>(h i hi).2
def WV{ps:List Cp}{cs:List Int}(hl4:l≤4)(hlen:cs.length+1=ps.length)(hcs2:∀c∈cs,1≤c∧c≤4)(hP:∀i,i<(dS ps).length→TX ((dS ps).getD i []) (bu ((nW ps).getD i [])) NX∧∀r,Ns ((dS ps).getD i []++r)):TX (qe (.mk l ps cs)) (bu (vX (.mk l ps cs))) NX∧∀r,Ns (qe (.mk l ps cs)++r):=by
 have htl:(dS ps).length=ps.length:=by simp[pv]
 have hj:TX (gm (gW cs) (dS ps)) (bu (gB (vJ cs) (nW ps))) NX:=
  IB (dS ps) (nW ps) (fun k hk=>RF hcs2 k (by omega)) (IH ps) (fun i hi=>(hP i hi).1) (fun i h0 hi r=>by
   unfold gW;rw[if_neg (by omega)];have hm:cs.getD (i-1) 0∈cs:=by
    rw[nE,dO (by omega)];exact aba _
   obtain⟨c1,c4⟩:=hcs2 _ hm;generalize cs.getD (i-1) 0=c at c1 c4;rcases (by omega:c=1∨c=2∨c=3∨c=4) with rfl|rfl|rfl|rfl<;>exact NX.cons _ (by decide)) fun i hi=>(hP i hi).2
 have hns:∀r,Ns (gm (gW cs) (dS ps)++r):=fun r=>by
  have h0:=hP 0 (by omega);cases ps with
  | nil=>simp at hlen
  | cons p ps =>
    rw[dS]at h0 ⊢;exact HM rfl r h0.2
 rw[qe,vX,eZ]
 by_cases z:1<l
 ·rw[if_pos z,if_pos z];refine⟨(IC (by omega) hl4).cat hj fun r _=>hns r,fun r=>?_⟩;rw[To];rcases (by omega:l=2∨l=3∨l=4) with rfl|rfl|rfl
  ·exact (by decide:Rt.fv 62=false)
  ·exact (by decide:Rt.fv 43=false)
  ·exact (by decide:Rt.fv 126=false)
 ·rw[if_neg z,if_neg z,cE,List.nil_append,List.nil_append];exact⟨hj,hns⟩
mutual
theorem W0(d:Nat)(has:Bool):∀s:Sm,ic d has s=true→gS s=true→TX (jD s) (bu (vS s)) NX∧(∀r,NX (jD s++r))∧∀r,Ns (jD s++r)
 | .mk k n o v f a b w l,h,hg=>by
   rw[ic,NO]at h;obtain⟨hb,hl⟩:=h;rw[gS,NO]at hg;obtain⟨hg0,hgl⟩:=hg;have hg0:=oN hg0;have one:∀v:Vl,bu [v]=iM v:=fun v=>by rw[bD,cE,aaZ]
   have hd:∀{c:UInt8} {x:ae},pN c=true→Rt.fv c=false→(∀r,NX ((c:: x)++r))∧∀r,Ns ((c:: x)++r):=fun h1 h2=>⟨fun r=>NX.cons _ h1,fun r=>h2⟩;unfold jq at hb;rw[jD,vS]
   by_cases k1:k=1
   ·rw[if_pos (.inl k1)]at hb;simp only[NO]at hb;obtain⟨hz,hn⟩:=xS hb.1.1.1.1.1.1;rw[if_pos k1,if_pos k1,one,kj (by decide)];exact⟨RB hz hn,hd (by decide) (by decide)⟩
   rw[if_neg k1,if_neg k1]
   by_cases k2:k=2
   ·rw[if_pos (.inr k2)]at hb;simp only[NO]at hb;obtain⟨hz,hn⟩:=xS hb.1.1.1.1.1.1;rw[if_pos k2,if_pos k2,bD,one,JM,kj (by decide)];exact⟨OJ hz hn,hd (by decide) (by decide)⟩
   rw[if_neg k2,if_neg k2];rw[if_neg (fun z=>z.elim k1 k2)]at hb
   by_cases k3:k=3
   ·rw[if_pos k3]at hb;simp only[NO]at hb;obtain⟨⟨⟨⟨⟨⟨⟨b1,b2⟩,b3⟩,_⟩,_⟩,_⟩,_⟩,_⟩:=hb;unfold bo.small at b1;rw[NO]at b1;obtain⟨hz,hn⟩:=xS b1.1;rw[if_pos k3,if_pos k3,one];refine⟨(Rz hz hn hg0 (oN b2) (Mu b3)).mono fun _ _=>trivial,fun r=>?_,fun r=>?_⟩
    ·unfold sR;simp only[To,abv];exact NX.cons _ (by decide)
    ·unfold sR;simp only[To,abv];exact (by decide:Rt.fv 91=false)
   rw[if_neg k3,if_neg k3];rw[if_neg k3]at hb;simp only[NO]at hb;obtain⟨⟨⟨⟨⟨_,_⟩,_⟩,_⟩,hk⟩,hnth⟩:=hb;have hk:=oN hk
   by_cases hf:kq k a b w=true
   ·rw[if_pos hf,if_pos hf];have hkk:k=9∨k=10:=by
     unfold kq eO at hf;simp only[NO,abl,Of]at hf;exact hf.1.1.1
    obtain⟨e1,e2,e3⟩:=NL k hkk;rw[e1,bD,one,kj (by decide)];exact⟨qT.cat (my e3 e2) fun _ _=>trivial,hd (by decide) (by decide)⟩
   rw[if_neg hf,if_neg hf];obtain⟨i,hi⟩:∃i:Nat,(k-4).toNat=i:=⟨_,rfl⟩;have hi11:i<11:=by omega
   rw[hi];obtain⟨p1,p2,p3,p4⟩:=Lc i hi11
   by_cases k8:k≤8
   ·rw[if_pos k8,if_pos k8,EW i hi11,if_pos (by omega),bD,one,kj (by decide)];refine⟨(qT.cat (my p3 p2) fun _ _=>trivial).of (by rw[p1];rfl) rfl,hd (by decide) (by decide)⟩
   rw[if_neg k8,if_neg k8,EW i hi11,if_neg (by omega)]
   -- what is within the brackets
   have inner:TX (se k a b w++gm ga (dC l)) (bu (pb k a b w++gB jc (jE l))) (fun r=>∃q,r=41:: q):=by
    have hr41:∀r,(∃q,r=41:: q)→NX r:=fun r ⟨q,hq⟩=>by rw[hq];exact NX.cons _ (by decide)
    by_cases hn:eO k=true
    ·rw[if_pos hn,NO]at hnth;obtain⟨a1,a2⟩:=xV hnth.1;obtain⟨b1,b2⟩:=xV hnth.2;have hkk:k=9∨k=10:=by
      unfold eO at hn;simpa using hn
     unfold se pb;rw[hn,a2,b2];simp only[Bool.and_self,if_true];have hA:TX (mU a b) (bu (lX a b)) yo:=(Vs a1 b1).of rfl (by unfold lX;rw[zK _ (CE a b)]);cases w with
     | false =>
       have hl0:l=[]:=by
        rw[if_neg (by unfold gw;simp;omega)]at hl;simpa using hl
       subst hl0;have e1:gm ga (dC [])=[]:=rfl;have e2:gB jc (jE [])=[]:=rfl;rw[e1,e2];simp only[aaX,if_false,aaZ];exact hA.mono fun r ⟨q,hq⟩=>⟨q,.inl hq⟩
     | true =>
       rw[if_pos (by unfold gw;rw[hn];rfl)]at hl;simp only[NO,abl]at hl;have hX:=xq (d+1) _ _ l hl.2 hgl;have hL:=yj hX;have hlne:l≠[]:=by
        rcases hl.1.2 with z|z
        ·unfold nF at z;simp at z;omega
        ·intro e;subst e;simp at z
       have hns:∀r,Ns (gm ga (dC l)++r):=fun r=>by
        cases l with
        | nil=>exact absurd rfl hlne
        | cons x l =>
          rw[dC]at hX ⊢;exact HM rfl r (hX 0 (by simp)).2
       have hof:TX (fD [111,102]) (iM (lf 1 [111,102] false)) NX:=by rw[kj (by decide)];exact my (by decide) (by decide)
       have h1:=tH.cat hL fun r _=>hns r;have h2:=hof.cat h1 fun r _=>NX.cons _ (by decide);have h3:=tH.cat h2 fun r _=>by
        rw[To];exact Pn (by decide) _
       have h4:=hA.cat h3 fun r _=>⟨_,.inr rfl⟩;refine (h4.mono hr41).of ?_ ?_
       ·have e:fD [111,102]=[111,102]:=by decide
        rw[e];simp
       ·simp only[if_true];rw[eZ,eZ,bD,bD,bD,cE];simp
    ·have hn:eO k=false:=by simpa using hn
     have hk11:11≤k:=by
      have h1:¬k=9:=fun e=>by subst e;exact absurd hn (by decide)
      have h2:¬k=10:=fun e=>by subst e;exact absurd hn (by decide)
      omega
     unfold se pb;rw[hn];simp only[Bool.false_and,aaX,if_false,List.nil_append];rw[if_pos (by unfold gw;simp;right;omega)]at hl;simp only[NO]at hl;exact (yj (xq (d+1) _ _ l hl.2 hgl)).mono hr41
   have hfun:=rA (n:=dY.getD i []) p3 p2 p4;have hend:TX [41] [⟨22,[],0,[],false⟩] NX:=(lK (k:=6) (by decide) (by decide) (by decide) (by decide) (by decide)).mono fun _ _=>trivial;have hall:=qT.cat (hfun.cat (inner.cat hend fun r _=>⟨r,rfl⟩) fun _ _=>trivial) fun _ _=>trivial;refine⟨hall.of ?_ ?_, ?_⟩
   ·rw[p1];simp
   ·rw[bD,one,iM,if_neg (show ¬cw 2=0 by decide)];rfl
   ·simp only[abv];exact hd (by decide) (by decide)
theorem Ma(d:Nat)(has:Bool):∀l:List Sm,jb d has l=true→uo l=true→TX (gJ l).flatten (bu (nC l)) NX∧(∀r,NX r→NX ((gJ l).flatten++r))∧(l≠[]→∀r,Ns ((gJ l).flatten++r))
 | [],_,_=>⟨by rw[gJ,nC,cE];exact TX.nil _,fun r h=>by rw[gJ];exact h,fun h=>absurd rfl h⟩
 | s:: l,h,hg=>by
   rw[jb,NO]at h;rw[uo,NO]at hg;obtain⟨a1,a2,a3⟩:=W0 d has s h.1 hg.1;obtain⟨b1,b2,_⟩:=Ma d has l h.2 hg.2;rw[gJ,nC,eZ,abq];refine⟨a1.cat b1 fun r hr=>b2 r hr,fun r hr=>?_,fun _ r=>?_⟩
   ·rw[To];exact a2 _
   ·rw[To];exact a3 _
theorem WZ(d:Nat)(has:Bool):∀p:Cp,cN d has p=true→gP p=true→TX (sA p) (bu (vP p)) NX∧∀r,Ns (sA p++r)
 | .mk t ss,h,hg=>by
   have hsome:=zv h;rw[cN]at h;simp only[NO,abl,Of]at h;obtain⟨⟨⟨ht,_⟩,_⟩,hs⟩:=h;rw[gP]at hg;obtain⟨b1,b2,b3⟩:=Ma d has ss hs hg;rw[sA,vP,eZ]
   by_cases t42:t=[42]
   ·rw[if_pos t42,if_pos t42,bD,cE,aaZ,JM];refine⟨(sF (c:=42) (by decide) (by decide) (by decide) (by decide) (by decide) (by decide)).cat b1 fun _ _=>trivial,fun r=>?_⟩;exact (by decide:Rt.fv 42=false)
   rw[if_neg t42,if_neg t42]
   by_cases t0:t=[]
   ·subst t0;have hne:ss≠[]:=hsome.resolve_left fun z=>z rfl;rw[if_pos rfl,cE];have e:fD []=[]:=rfl;rw[e,List.nil_append,List.nil_append];exact⟨b1,b3 hne⟩
   ·rw[if_neg t0,bD,cE,aaZ,kj (by decide)];have hsm:bo.small t=true:=ht.resolve_left fun z=>z.elim t0 t42;unfold bo.small at hsm;rw[NO]at hsm;obtain⟨hz,hn⟩:=xS hsm.1;refine⟨(my hz hn).cat b1 fun r hr=>b2 r hr,fun r=>?_⟩;rw[To];exact Pn hn _
theorem L9(d:Nat)(has:Bool):∀l:List Cp,jQ d has l=true→tj l=true→∀i,i<(dS l).length→TX ((dS l).getD i []) (bu ((nW l).getD i [])) NX∧∀r,Ns ((dS l).getD i []++r)
 | [],_,_,i,hi=>by rw[dS]at hi;exact absurd hi (aa3 _)
 | p:: l,h,hg,i,hi=>by
   rw[jQ,NO]at h;rw[tj,NO]at hg;rw[dS]at hi ⊢;rw[nW];cases i with
   | zero=>exact WZ d has p h.1 hg.1
   | succ i=>exact L9 d has l h.2 hg.2 i (by simpa using hi)
theorem W2(d:Nat)(has rel:Bool):∀x:Cx,eS d has rel x=true→gX x=true→TX (qe x) (bu (vX x)) NX∧∀r,Ns (qe x++r)
 | .mk l ps cs,h,hg=>by
   rw[eS]at h;simp only[NO,Of]at h;obtain⟨⟨⟨⟨⟨_,hl4⟩,hlen⟩,_⟩,hcs⟩,hps⟩:=h;have hl4:=hl4;rw[gX]at hg;have hP:=L9 d has ps hps hg;have hcs2:∀c∈cs,1≤c∧c≤4:=fun c hc=>oN (At.1 hcs c hc);exact WV hl4 (by simpa using hlen) hcs2 hP
theorem xq(d:Nat)(has rel:Bool):∀l:List Cx,cX d has rel l=true→jK l=true→∀i,i<(dC l).length→TX ((dC l).getD i []) (bu ((jE l).getD i [])) NX∧∀r,Ns ((dC l).getD i []++r)
 | [],_,_,i,hi=>by rw[dC]at hi;exact absurd hi (aa3 _)
 | x:: l,h,hg,i,hi=>by
   rw[cX,NO]at h;rw[jK,NO]at hg;rw[dC]at hi ⊢;rw[jE];cases i with
   | zero=>exact W2 d has rel x h.1 hg.1
   | succ i=>exact xq d has rel l h.2 hg.2 i (by simpa using hi)
end
def Sh(m:Nat)(l:List Vl):Prop:=(∀c:Int,c=0∨c=20∨c=22→eL c l=false)∧dp l≤m
def Sh.nil(m:Nat):Sh m []:=⟨fun _ _=>rfl,by rw[dp];exact aa2 _⟩
def Sh.app(x:Sh m a)(y:Sh m b):Sh m (a++b):=⟨fun c hc=>by rw[rJ,x.1 c hc,y.1 c hc];rfl,by rw[qj];exact Nat.max_le.2 ⟨x.2,y.2⟩⟩
def Sh.mono(x:Sh m a)(h:m≤n):Sh n a:=⟨x.1,aa7 x.2 h⟩
def Sh.cons(x:Sh m [v])(y:Sh m b):Sh m (v:: b):=x.app y
def jH(m:Nat)(h:cw k=0)(h1:k≠20)(h2:k≠22):Sh m [lf k t f]:=by
 refine⟨fun c hc=>?_, ?_⟩
 ·unfold lf;rw[eL,eL,wL,if_pos h];rcases hc with rfl|rfl|rfl<;>simp[h1,h2]
 ·unfold lf;rw[dp,dp,pF,if_pos h];exact aa2 _
def uD(h:cw k≠0)(hk:k=2∨k=19)(hl:Sh m l):Sh (m+1) [.mk k t 0 [] f l]:=by
 have hc:cw k=22∨cw k=20:=by rcases hk with rfl|rfl<;>decide
 refine⟨fun c hcc=>?_, ?_⟩
 ·rw[eL,eL,wL,if_neg h,hl.1 _ (by omega)];have h1:k≠20:=by omega
  have h2:k≠22:=by omega
  rcases hcc with rfl|rfl|rfl<;>simp[h1,h2]
 ·rw[dp,dp,pF,if_neg h];have:=hl.2;omega
def Ck{sv:Nat→List Vl}{vs:List (List Vl)}(h1:∀i,Sh m (sv i))(h2:∀i,i<vs.length→Sh m (vs.getD i [])):Sh m (gB sv vs):=by
 unfold gB;have key:∀k,k≤vs.length→Sh m ((List.range k).flatMap fun i=>sv i++vs.getD i []):=by
  intro k;induction k with
  | zero=>intro _;exact Sh.nil m
  | succ k ih =>
    intro hk;rw[List.range_succ,List.flatMap_append];refine (ih (by omega)).app ?_;simp only[List.flatMap_cons,List.flatMap_nil,aaZ];exact (h1 k).app (h2 k (by omega))
 exact key _ (bY _)
def qR(m:Nat):Sh m [dW]:=jH m (by decide) (by decide) (by decide)
def Bq(m:Nat)(c:UInt8):Sh m [ju c]:=jH m (by decide) (by decide) (by decide)
def Ij(m k:Nat):Sh m (jc k):=by
 unfold jc;split
 ·exact Sh.nil m
 ·exact (jH m (by decide) (by decide) (by decide)).cons (qR m)
def Rl(m:Nat)(cs:List Int)(k:Nat):Sh m (vJ cs k):=by
 unfold vJ mX;split
 ·exact Sh.nil m
 ·split
  ·exact qR m
  ·exact (qR m).cons ((Bq m _).cons (qR m))
def LV(m:Nat)(a b:Int):Sh m (lX a b):=by
 have leaf:∀t:Tok,(t.k=10∨t.k=1∨t.k=12)→Sh m [gD t []]:=fun t h=>by
  have hc:cw t.k=0:=by rcases h with h|h|h<;>rw[h]<;>decide
  have h1:t.k≠20:=by omega
  have h2:t.k≠22:=by omega
  refine⟨fun c hc2=>?_, ?_⟩
  ·unfold gD;rw[eL,eL,wL,if_pos hc];rcases hc2 with rfl|rfl|rfl<;>simp[h1,h2]
  ·unfold gD;rw[dp,dp,pF,if_pos hc];exact aa2 _
 have tl:Sh m ((jC b).map fun t=>gD t []):=by
  unfold jC;split
  ·exact leaf (lM b) (.inl rfl)
  ·exact Sh.nil m
 unfold lX oS;split
 ·exact leaf (lM b) (.inl rfl)
 ·rw[GO];refine Sh.cons (leaf _ ?_) tl;split
  ·exact .inr (.inl rfl)
  ·split
   ·exact .inr (.inl rfl)
   ·exact .inr (.inr rfl)
def WG(m:Nat)(n:ae)(o:Int)(v:ae)(f:Bool):Sh m (yq n o v f):=by
 have hop:∀l:ae,Sh m (l.map fun c=>lf 9 [c] false):=fun l=>by
  induction l with
  | nil=>exact Sh.nil m
  | cons c l ih=>exact (Bq m c).cons ih
 unfold yq;refine Sh.cons (jH m (by decide) (by decide) (by decide)) (Sh.app ?_ ?_)
 ·split
  ·exact Sh.nil m
  ·unfold Ll;exact (hop _).app (jH m (by decide) (by decide) (by decide))
 ·split
  ·exact (qR m).cons (jH m (by decide) (by decide) (by decide))
  ·exact Sh.nil m
mutual
theorem aad(d:Nat)(has:Bool):∀s:Sm,d≤3→ic d has s=true→Sh (4-d) (vS s)
 | .mk k n o v f a b w l,hd,h=>by
   rw[ic,NO]at h;have hl:=h.2;rw[vS];split
   ·exact jH _ (by decide) (by decide) (by decide)
   ·split
    ·exact (Bq _ _).cons (jH _ (by decide) (by decide) (by decide))
    ·split
     ·exact (uD (m:=0) (by decide) (.inr rfl) (WG 0 n o v f)).mono (by omega)
     ·split
      ·exact (jH _ (by decide) (by decide) (by decide)).cons (jH _ (by decide) (by decide) (by decide))
      ·split
       ·exact (jH _ (by decide) (by decide) (by decide)).cons (jH _ (by decide) (by decide) (by decide))
       ·refine (jH _ (by decide) (by decide) (by decide)).cons ?_;have hnth:∀m,Sh m (pb k a b w):=fun m=>by
         unfold pb;split
         ·refine (LV m a b).app ?_;split
          ·exact (qR m).cons ((jH m (by decide) (by decide) (by decide)).cons (qR m))
          ·exact Sh.nil m
         ·exact Sh.nil m
        by_cases hL:gw k w=true
        ·rw[if_pos hL]at hl;simp only[NO,Of]at hl;have hX:=JC (d+1) _ _ l (by omega) hl.2;have:=uD (m:=4-(d+1)) (t:=dY.getD (k-4).toNat []) (f:=false) (k:=2) (by decide) (.inl rfl) ((hnth _).app (Ck (fun i=>Ij _ i) hX));exact this.mono (by omega)
        ·rw[if_neg hL]at hl;have hl0:l=[]:=by simpa using hl
         subst hl0;have e2:gB jc (jE [])=[]:=rfl;rw[e2,aaZ];exact (uD (m:=0) (by decide) (.inl rfl) (hnth 0)).mono (by omega)
theorem Pz(d:Nat)(has:Bool):∀l:List Sm,d≤3→jb d has l=true→Sh (4-d) (nC l)
 | [],_,_=>by rw[nC];exact Sh.nil _
 | s:: l,hd,h=>by
   rw[jb,NO]at h;rw[nC];exact (aad d has s hd h.1).app (Pz d has l hd h.2)
theorem aac(d:Nat)(has:Bool):∀p:Cp,d≤3→cN d has p=true→Sh (4-d) (vP p)
 | .mk t ss,hd,h=>by
   rw[cN,NO]at h;rw[vP];refine Sh.app ?_ (Pz d has ss hd h.2);split
   ·exact Bq _ _
   ·split
    ·exact Sh.nil _
    ·exact jH _ (by decide) (by decide) (by decide)
theorem Py(d:Nat)(has:Bool):∀l:List Cp,d≤3→jQ d has l=true→∀i,i<(nW l).length→Sh (4-d) ((nW l).getD i [])
 | [],_,_,i,hi=>by rw[nW]at hi;exact absurd hi (aa3 _)
 | p:: l,hd,h,i,hi=>by
   rw[jQ,NO]at h;rw[nW]at hi ⊢;cases i with
   | zero=>exact aac d has p hd h.1
   | succ i=>exact Py d has l hd h.2 i (by simpa using hi)
theorem aae(d:Nat)(has rel:Bool):∀x:Cx,d≤3→eS d has rel x=true→Sh (4-d) (vX x)
 | .mk l ps cs,hd,h=>by
   rw[eS,NO]at h;rw[vX];refine Sh.app ?_ (Ck (fun i=>Rl _ cs i) (Py d has ps hd h.2));split
   ·exact (Bq _ _).cons (qR _)
   ·exact Sh.nil _
theorem JC(d:Nat)(has rel:Bool):∀l:List Cx,d≤3→cX d has rel l=true→∀i,i<(jE l).length→Sh (4-d) ((jE l).getD i [])
 | [],_,_,i,hi=>by rw[jE]at hi;exact absurd hi (aa3 _)
 | x:: l,hd,h,i,hi=>by
   rw[cX,NO]at h;rw[jE]at hi ⊢;cases i with
   | zero=>exact aae d has rel x hd h.1
   | succ i=>exact JC d has rel l hd h.2 i (by simpa using hi)
end
def Ow(h:cX 0 false false l=true):Sh 4 (vL l):=Ck (fun i=>Ij _ i) (JC 0 false false l (by decide) h)
@[simp] theorem rm(k:Int)(t:ae)(f:Bool):(lf k t f).kind=k:=rfl
@[simp] theorem BX(k:Int)(t:ae)(f:Bool):(lf k t f).text=t:=rfl
@[simp] theorem aaF(k:Int)(t:ae)(f:Bool):(lf k t f).flag=f:=rfl
def Dh(h:small t=true):cg t=t:=by
 unfold small at h;rw[NO]at h;exact oN h.2
def VD:∀i,i<5→mB (dY.getD i [])=(dx (4+(i:Int)) [],true):=by
 intro i h
 match i,h with
 | 0,_=>rfl
 | 1,_=>rfl
 | 2,_=>rfl
 | 3,_=>rfl
 | 4,_=>rfl
def VE(k:Int)(h:k=9∨k=10):mB (CR k)=(.mk k [] 0 [] false 0 1 false [],true):=by
 rcases h with rfl|rfl<;>rfl
def nB(h:v.kind≠13):cv (v:: r)=v:: r:=by rw[cv,if_neg h]
def xh(r:List Vl):cv (dW:: r)=cv r:=by rw[cv,if_pos (show dW.kind=13 from rfl)]
def Rm:cv []=[]:=by rw[cv]
def Ts(c:UInt8)(r:List Vl):jr c (ju c:: r)=some r:=by rw[jr,if_pos ⟨rfl,rfl⟩]
def uf(h:¬(v.kind=9∧v.text=[c])):jr c (v:: r)=none:=by rw[jr,if_neg h]
def VQ(n:ae)(o:Int)(v:ae)(f:Bool):GQ n o v (cv (if f then [lf 13 [] false,lf 1 [105] false] else []))=(eH n o v f,true):=by
 cases f<;>rfl
def O5(n:ae)(o:Int)(v:ae)(f:Bool):yp n o (cv (lf 5 v false:: (if f then [lf 13 [] false,lf 1 [105] false] else [])))=(eH n o v f,true):=by
 rw[nB (show (lf 5 v false).kind≠13 by rw[rm];decide),yp,if_pos (Or.inr (show (lf 5 v false).kind=5 from rfl))];exact VQ n o v f
def Tn(hn:cg n=n)(h0:0≤o)(h6:o≤6)(hz:o=0→v=[]∧f=false):lO (yq n o v f)=(eH n o v f,true):=by
 unfold yq lO;rw[nB (show (lf 1 n false).kind≠13 from by rw[rm];decide)];dsimp only;rw[rm,if_pos rfl,BX,hn];have d:∀c:UInt8,∀r,cv (lf 9 [c] false:: r)=lf 9 [c] false:: r:=fun c r=>nB (by rw[rm];decide);have two:∀(c:UInt8) (j:Int),c≠61→Lib.index pf [c]=j→0≤j→qw n (lf 9 [c] false:: lf 9 [61] false:: lf 5 v false:: (if f then [lf 13 [] false,lf 1 [105] false] else []))=(eH n (2+j) v f,true):=by
  intro c j hc hj h0;unfold qw;dsimp only;rw[uf (c:=61) (v:=lf 9 [c] false) (fun h=>hc (List.head_eq_of_cons_eq (show [c]=[61] from h.2))),rm,BX,hj];dsimp only;rw[if_pos ⟨rfl,h0⟩,jr,if_pos ⟨rfl,rfl⟩];exact O5 n _ v f
 have ho:o=0∨o=1∨o=2∨o=3∨o=4∨o=5∨o=6:=by omega
 rcases ho with rfl|rfl|rfl|rfl|rfl|rfl|rfl
 ·obtain⟨rfl,rfl⟩:=hz rfl;rfl
 ·rw[if_neg (by decide)];show qw n (cv (lf 9 [61] false:: lf 5 v false:: _))=_;rw[d];unfold qw;dsimp only;rw[jr,if_pos ⟨rfl,rfl⟩];exact O5 n _ v f
 ·rw[if_neg (by decide)];show qw n (cv (lf 9 [126] false:: lf 9 [61] false:: lf 5 v false:: _))=_;rw[d];exact two 126 0 (by decide) (by decide) (by decide)
 ·rw[if_neg (by decide)];show qw n (cv (lf 9 [124] false:: lf 9 [61] false:: lf 5 v false:: _))=_;rw[d];exact two 124 1 (by decide) (by decide) (by decide)
 ·rw[if_neg (by decide)];show qw n (cv (lf 9 [94] false:: lf 9 [61] false:: lf 5 v false:: _))=_;rw[d];exact two 94 2 (by decide) (by decide) (by decide)
 ·rw[if_neg (by decide)];show qw n (cv (lf 9 [36] false:: lf 9 [61] false:: lf 5 v false:: _))=_;rw[d];exact two 36 3 (by decide) (by decide) (by decide)
 ·rw[if_neg (by decide)];show qw n (cv (lf 9 [42] false:: lf 9 [61] false:: lf 5 v false:: _))=_;rw[d];exact two 42 4 (by decide) (by decide) (by decide)
def Bk(r:List Vl):Prop:=r=[]∨∃q,r=dW:: q
def Vb(fn:ae→List Vl→Sm×Bool)(h:Bk r):di fn r=some ([],r):=by
 rcases h with rfl|⟨q,rfl⟩
 ·rw[di]
 ·rw[di.eq_def];rfl
def MY(h0:o=0)(h1:v=[])(h2:f=false)(h3:a=0)(h4:b=0)(h5:w=false)(h6:l=[]):Sm.mk k n o v f a b w l=dx k n:=by subst h0 h1 h2 h3 h4 h5 h6;rfl
def WJ{fn:ae→List Vl→Sm×Bool}{has:Bool}(ok:ic d has (.mk k n o v f a b w l)=true)(g:0≤o)
 (hf:9≤k→kq k a b w=false→fn (dY.getD (k-4).toNat []) (pb k a b w++gB jc (jE l))=(.mk k n o v f a b w l,true)) (r:List Vl) :
 di fn (vS (.mk k n o v f a b w l)++r)=iI (.mk k n o v f a b w l) (di fn r):=by
 rw[ic,NO]at ok;obtain⟨ob,ol⟩:=ok;have bare:k=1∨k=2→Sm.mk k n o v f a b w l=dx k n:=by
  intro hk;rw[jq,if_pos hk]at ob;simp only[NO,Of,abm]at ob;obtain⟨⟨⟨⟨⟨⟨_,h0⟩,h1⟩,h2⟩,h3⟩,h4⟩,h5⟩:=ob;have hh:gw k w=false:=by rw[h5];unfold gw eO;rcases hk with rfl|rfl<;>decide
  rw[if_neg (by rw[hh];decide)]at ol;exact MY h0 h1 h2 h3 h4 h5 (List.isEmpty_iff.1 ol)
 rw[vS]
 by_cases k1:k=1
 ·rw[if_pos k1,bare (Or.inl k1),k1];rw[List.singleton_append,di.eq_def];rfl
 rw[if_neg k1]
 by_cases k2:k=2
 ·rw[if_pos k2,bare (Or.inr k2),k2];show di fn (ju 46:: lf 1 n false:: r)=_;rw[di.eq_def];rfl
 rw[if_neg k2]
 by_cases k3:k=3
 ·rw[if_pos k3];rw[jq,if_neg (by omega),if_pos k3]at ob;simp only[NO,Of,abm]at ob;obtain⟨⟨⟨⟨⟨⟨⟨hn,h6⟩,_⟩,_⟩,hz⟩,h3⟩,h4⟩,h5⟩:=ob;have hh:gw k w=false:=by rw[h5,k3];decide
  rw[if_neg (by rw[hh];decide)]at ol;have hzz:o=0→v=[]∧f=false:=by
   intro h;rw[h]at hz;simpa using hz
  have ha:=Tn (Dh hn) g h6 hzz;rw[List.singleton_append,FN (t:=.mk 19 [] 0 [] false (yq n o v f)) (show ¬(19:Int)=4 by decide) (fun h=>absurd (show (19:Int)=9 from h.1) (by decide)) (show (19:Int)=19 from rfl)];show (if (lO (yq n o v f)).2=true then iI (lO (yq n o v f)).1 (di fn r) else none)=_;rw[ha,if_pos rfl];have e:l=[]:=List.isEmpty_iff.1 ol;subst h3 h4 h5 e k3;rfl
 rw[if_neg k3];rw[jq,if_neg (by omega),if_neg k3]at ob;simp only[NO,Of,abm]at ob;obtain⟨⟨⟨⟨⟨hn,h0⟩,hv⟩,hf0⟩,hk⟩,hi⟩:=ob
 by_cases fr:kq k a b w=true
 ·rw[if_pos fr];unfold kq at fr;simp only[NO,Of,abm]at fr;obtain⟨⟨⟨i9,w0⟩,a0⟩,b1⟩:=fr;have k9:k=9∨k=10:=by
   unfold eO at i9;simpa using i9
  have hh:gw k w=false:=by rw[w0];unfold gw;rcases k9 with rfl|rfl<;>decide
  rw[if_neg (by rw[hh];decide)]at ol;have e:l=[]:=List.isEmpty_iff.1 ol;show di fn (fG:: lf 1 (CR k) false:: r)=_;rw[di.eq_def];show (if (mB (CR k)).2=true then iI (mB (CR k)).1 (di fn r) else none)=_;rw[VE k k9,if_pos rfl];subst hn h0 hv hf0 w0 a0 b1 e;rfl
 rw[if_neg fr];have frf:kq k a b w=false:=by simpa using fr
 by_cases k8:k≤8
 ·rw[if_pos k8];have in9:eO k=false:=by unfold eO;simp;omega
  rw[in9,if_neg (by decide)]at hi;simp only[NO,Of,abm]at hi;obtain⟨⟨a0,b0⟩,w0⟩:=hi;have hh:gw k w=false:=by unfold gw;rw[in9];simp;omega
  rw[if_neg (by rw[hh];decide)]at ol;have e:l=[]:=List.isEmpty_iff.1 ol;obtain⟨i,hi5,rfl⟩:∃i:Nat,i<5∧k=4+(i:Int):=⟨(k-4).toNat,by omega,by omega⟩;rw[show ((4+(i:Int))-4).toNat=i by omega];show di fn (fG:: lf 1 (dY.getD i []) false:: r)=_;rw[di.eq_def];show (if (mB (dY.getD i [])).2=true then iI (mB (dY.getD i [])).1 (di fn r) else none)=_;rw[VD i hi5,if_pos rfl];subst hn h0 hv hf0 w0 a0 b0 e;rfl
 rw[if_neg k8];have hq:=hf (by omega) frf;show di fn (fG:: .mk 2 (dY.getD (k-4).toNat []) 0 [] false (pb k a b w++gB jc (jE l)):: r)=_;rw[di.eq_def];show (if (fn (dY.getD (k-4).toNat []) (pb k a b w++gB jc (jE l))).2=true then iI (fn (dY.getD (k-4).toNat []) (pb k a b w++gB jc (jE l))).1 (di fn r) else none)=_;rw[hq,if_pos rfl]
def Fo(fn:ae→List Vl→Sm×Bool):Sm→Prop
 | .mk k n o v f a b w l=>9≤k→kq k a b w=false→fn (dY.getD (k-4).toNat []) (pb k a b w++gB jc (jE l))=(.mk k n o v f a b w l,true)
def RU(fn:ae→List Vl→Sm×Bool)(p:Cp):Prop:=∀s∈p.yg,Fo fn s
theorem FM{fn:ae→List Vl→Sm×Bool}{has:Bool}:∀ss:List Sm,jb d has ss=true→uo ss=true→(∀s∈ss,Fo fn s)→∀r,Bk r→di fn (nC ss++r)=some (ss,r)
 | [],_,_,_,r,hr=>by rw[nC];exact Vb fn hr
 | .mk k n o v f a b w l:: ss,ok,g,hf,r,hr=>by
   rw[jb,NO]at ok;rw[uo,NO,gS,NO]at g;rw[nC,To,WJ ok.1 (oN g.1.1) (hf _ (abn ..)),FM ss ok.2 g.2 (fun s hs=>hf s (Lt _ hs)) r hr];rfl
def HS(v:Vl):Prop:=v.kind=4∨v=ju 46∨v.kind=19∨v.kind=16
def HP(v:Vl):Prop:=HS v∨v=ju 42∨v.kind=1
theorem II:∀s:Sm,∃v q,vS s=v:: q∧HS v
 | .mk k n o v f a b w l=>by
   rw[vS]
   by_cases k1:k=1
   ·rw[if_pos k1];exact⟨_,_,rfl,Or.inl rfl⟩
   rw[if_neg k1]
   by_cases k2:k=2
   ·rw[if_pos k2];exact⟨_,_,rfl,Or.inr (Or.inl rfl)⟩
   rw[if_neg k2]
   by_cases k3:k=3
   ·rw[if_pos k3];exact⟨_,_,rfl,Or.inr (Or.inr (Or.inl rfl))⟩
   rw[if_neg k3]
   by_cases fr:kq k a b w=true
   ·rw[if_pos fr];exact⟨_,_,rfl,Or.inr (Or.inr (Or.inr rfl))⟩
   rw[if_neg fr]
   by_cases k8:k≤8
   ·rw[if_pos k8];exact⟨_,_,rfl,Or.inr (Or.inr (Or.inr rfl))⟩
   ·rw[if_neg k8];exact⟨_,_,rfl,Or.inr (Or.inr (Or.inr rfl))⟩
def HS.no1(h:HS v):v.kind≠1:=by
 rcases h with h|rfl|h|h
 ·rw[h];decide
 ·decide
 ·rw[h];decide
 ·rw[h];decide
def HP.no(h:HP v)(h1:c≠46)(h2:c≠42):¬(v.kind=9∧v.text=[c]):=by
 rintro⟨h9,ht⟩;rcases h with (h|rfl|h|h)|rfl|h
 ·rw[h]at h9;exact absurd h9 (by decide)
 ·exact h1 (List.head_eq_of_cons_eq (show [46]=[c] from ht)).symm
 ·rw[h]at h9;exact absurd h9 (by decide)
 ·rw[h]at h9;exact absurd h9 (by decide)
 ·exact h2 (List.head_eq_of_cons_eq (show [42]=[c] from ht)).symm
 ·rw[h]at h9;exact absurd h9 (by decide)
def HP.nk(h:HP v):v.kind≠13∧v.kind≠18:=by
 rcases h with (h|rfl|h|h)|rfl|h
 ·rw[h];decide
 ·decide
 ·rw[h];decide
 ·rw[h];decide
 ·decide
 ·rw[h];decide
def HS.Z1(h:HS v):¬(v.kind=9∧v.text=[42]):=by
 rintro⟨h9,ht⟩;rcases h with h|rfl|h|h
 ·rw[h]at h9;exact absurd h9 (by decide)
 ·exact absurd (List.head_eq_of_cons_eq (show [46]=[(42:UInt8)] from ht)) (by decide)
 ·rw[h]at h9;exact absurd h9 (by decide)
 ·rw[h]at h9;exact absurd h9 (by decide)
theorem IG{has:Bool}:∀p:Cp,cN d has p=true→∃v q,vP p=v:: q∧HP v
 | .mk t ss,ok=>by
   rw[cN]at ok;simp only[NO]at ok;rw[vP]
   by_cases h42:t=[42]
   ·rw[if_pos h42];exact⟨_,_,rfl,Or.inr (Or.inl rfl)⟩
   rw[if_neg h42]
   by_cases h0:t=[]
   ·rw[if_pos h0];cases ss with
    | nil=>simp[h0]at ok
    | cons s ss =>
      obtain⟨v,q,e,hv⟩:=II s;rw[nC,e];exact⟨_,_,rfl,Or.inl hv⟩
   ·rw[if_neg h0];exact⟨_,_,rfl,Or.inr (Or.inr rfl)⟩
def L5{has:Bool}{ss:List Sm}(ok:cN d has (.mk t ss)=true)(r:List Vl):ep (vP (.mk t ss)++r)=(t,nC ss++r):=by
 rw[cN]at ok;simp only[NO]at ok;rw[vP]
 by_cases h42:t=[42]
 ·rw[if_pos h42,h42];show ep (ju 42:: (nC ss++r))=_;rw[ep,if_neg (show ¬(ju 42).kind=1 by decide),Ts]
 rw[if_neg h42]
 by_cases h0:t=[]
 ·rw[if_pos h0,h0];cases ss with
  | nil=>simp[h0]at ok
  | cons s ss =>
    obtain⟨v,q,e,hv⟩:=II s;rw[nC,e];show ep (v:: (q++nC ss++r))=([],v:: (q++nC ss++r));rw[ep,if_neg hv.no1,uf hv.Z1]
 ·rw[if_neg h0];have hs:small t=true:=by
   have:=ok.1.1.1;simp only[abl,Of]at this;rcases this with (h|h)|h
   ·exact absurd h h0
   ·exact absurd h h42
   ·exact h
  show ep (lf 1 t false:: (nC ss++r))=_;rw[ep,if_pos (show (lf 1 t false).kind=1 from rfl),BX,Dh hs]
def cL(o:List Vl):List Cp→List Int→List Vl
 | p:: ps,c:: cs=>mX c++(vP p++cL o ps cs)
 | _,_=>o
theorem zE(o:List Vl):∀ps cs,cL o ps cs=cL [] ps cs++o
 | p:: ps,c:: cs=>by rw[cL,cL,zE o ps cs];simp only[To]
 | [],_=>by rw[cL.eq_def,cL.eq_def];rfl
 | _:: _,[]=>by rw[cL.eq_def,cL.eq_def];rfl
abbrev Po(o:List Vl):Prop:=o=[]∨o=[dW]
def Po.bk(h:Po o):Bk o:=h.elim Or.inl fun e=>Or.inr ⟨[],e⟩
def Po.sk(h:Po o):cv o=[]:=by rcases h with rfl|rfl<;>rfl
def O6(h:HP v):kv (v:: q)=(0,v:: q):=by
 unfold kv;rw[uf (h.no (by decide) (by decide)),uf (h.no (by decide) (by decide)),uf (h.no (by decide) (by decide))]
def Kk(h2:2≤c)(h4:c≤4)(r:List Vl):kv (ju (bC_ c):: r)=(c,cv r):=by
 have:c=2∨c=3∨c=4:=by omega
 rcases this with rfl|rfl|rfl<;>rfl
theorem GZ{fn:ae→List Vl→Sm×Bool}{d:Nat}{has:Bool}(lead:Int)(ho:Po o):∀(ps:List Cp) (cs:List Int) (p:Cp) (n:Nat) (A:List Cp) (C:List Int),cs.length=ps.length→(∀c∈cs,1≤c∧c≤4) →
 cN d has p=true→jQ d has ps=true→gP p=true→tj ps=true→RU fn p→(∀p∈ps,RU fn p)→A.length+ps.length+1≤64→ps.length<n →
 jt fn (cN d has) lead n A C (vP p++cL o ps cs)=(.mk lead (A++p:: ps) (C++cs),true)
 | ps,cs,.mk t ss,0,A,C,_,_,_,_,_,_,_,_,_,hn=>absurd hn (aa3 _)
 | [],[],.mk t ss,n+1,A,C,_,_,op,_,gp,_,fp,_,hA,_=>by
   have op':=op;rw[cN,NO]at op';rw[gP]at gp;rw[jt.eq_def];dsimp only;rw[cL.eq_def,L5 op,FM ss op'.2 gp fp _ ho.bk];dsimp only;rw[if_pos op,ho.sk,if_pos rfl,aaZ,oF (show A.length+1≤64 from hA)]
 | q:: ps,c:: cs,.mk t ss,n+1,A,C,hl,hc,op,ops,gp,gps,fp,fps,hA,hn=>by
   have op':=op;rw[cN,NO]at op';rw[gP]at gp;rw[jQ,NO]at ops;rw[tj,NO]at gps;have hc':=hc c (abn ..);obtain⟨v,u,e,hv⟩:=IG q ops.1;have hb:Bk (cL o (q:: ps) (c:: cs)):=by
    right;rw[cL,mX]
    by_cases h1:c=1
    ·rw[if_pos h1];exact⟨_,rfl⟩
    ·rw[if_neg h1];exact⟨_,rfl⟩
   have go:=GZ (fn:=fn) lead ho ps cs q n (A++[.mk t ss]) (C++[c]) (by simpa using hl) (fun c h=>hc c (Lt _ h)) ops.1 ops.2 gps.1 gps.2 (fps _ (abn ..)) (fun p h=>fps p (Lt _ h)) (by simp at hA ⊢;omega) (by simp at hn;omega);rw[jt.eq_def];dsimp only;rw[L5 op,FM ss op'.2 gp fp _ hb];dsimp only;rw[if_pos op];rw[To,List.singleton_append,To,List.singleton_append]at go
   by_cases h1:c=1
   ·have es:cv (cL o (q:: ps) (c:: cs))=vP q++cL o ps cs:=by
     rw[cL,mX,if_pos h1,List.singleton_append,xh,e,abv,nB hv.nk.1]
    have ec:kv (vP q++cL o ps cs)=(0,vP q++cL o ps cs):=by rw[e,abv];exact O6 hv
    have en:vP q++cL o ps cs≠[]:=by rw[e];exact List.cons_ne_nil _ _
    have el:¬(vP q++cL o ps cs).length=(cL o (q:: ps) (c:: cs)).length:=by
     rw[cL,mX,if_pos h1,List.singleton_append,aaP];omega
    rw[es,if_neg en,ec,if_pos rfl,if_neg el];rw[←h1];exact go
   ·have es:cv (cL o (q:: ps) (c:: cs))=ju (bC_ c):: dW:: (vP q++cL o ps cs):=by
     rw[cL,mX,if_neg h1];show cv (dW:: ju (bC_ c):: dW:: _)=_;rw[xh,nB (show (ju (bC_ c)).kind≠13 by show (9:Int)≠13;decide)];rfl
    have ec:kv (ju (bC_ c):: dW:: (vP q++cL o ps cs))=(c,vP q++cL o ps cs):=by
     rw[Kk (by omega) hc'.2,xh,e,abv,nB hv.nk.1]
    rw[es,if_neg (List.cons_ne_nil _ _),ec,if_neg (show ¬c=0 by omega)];exact go
end
end Go.Proofs.YtpcnidmmkknndaaGreatDoor
end
