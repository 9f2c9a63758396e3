/-
 What functions of the translation ask,held against their code by the kernel. Printed by a program.
 No conditions.
-/
import Derived.Test.YtpcnidmmkknndaaGreatDoorProg
import Derived.KernelRfl
import Derived.Tactics
import Derived.Tactics2
import Derived.Defers
import Derived.Laws.Pointers
import Derived.Laws.LoneSync
import Derived.RegionTactic
import Derived.RegionCalls
import Derived.ChangeAlike
import Derived.Shelf.Strings.IndexAnyAll
import Derived.Shelf.Strings.SlTrimAscii
import Derived.Shelf.Strings.Cut
import Derived.Shelf.Small.Wraps
import Derived.Shelf.Strconv.ParseIntPublic10
import Derived.Lib.AtoiAll
import Derived.Lib.AtoiErrMem
import Derived.Shelf.Small.Strs
import Derived.Test.YtpcnidmmkknndaaGreatDoorZc
import Derived.Test.YtpcnidmmkknndaaGreatDoorZa
set_option linter.unusedVariables false
set_option linter.unusedSimpArgs false
set_option maxRecDepth 1000000
set_option maxHeartbeats 16000000
open Go.Proofs.Tryz renaming prog→p_
noncomputable section
namespace Go.Proofs.YtpcnidmmkknndaaGreatDoor
section
open Go Go.Aw
variable [Laid]
def XN(x0 x1:AV)(h:aa)(K:AV→aa→Prop):Prop:=
 qLd p_ x0 1 h fun a=>ae .add a x1 fun b=>qLd p_ x0 0 h fun c=>kZ c fun d=>ae .lss b d fun e=>ag e (qLd p_ x0 0 h fun f=>qLd p_ x0 1 h fun g=>ae .add g x1 fun i=>dH f i fun j=>cy .i64 j fun k=>K k h) (K (i_ (-1)) h)
theorem V61(x0 x1:AV):Body p_ 61 [x0,x1] (XN x0 x1):=bB Tryz.func61 (sn (.seq (.seq (.draw 12 (oR 0 12 []) [] []) (.two (.seq (.draw 13 (oR 0 13 []) [] []) .nil) .nil)) .nil)) 29 [.tmp 4]
def XP(x0 x1:AV)(h:aa)(K:AV→aa→Prop):Prop:=
 bL [] h fun b k c =>
 iC p_ 61 [x0,i_ 0] c fun d e=>bz p_ x1 [d] e fun f a=>ag f (qLd p_ x0 1 a fun g=>qBe .add g 1 fun i=>qSt p_ x0 1 i a fun j=>eC [x0,x1] (b [] j)) (K (.aA []) a)
theorem V63(x0 x1:AV):Body p_ 63 [x0,x1] (XP x0 x1):=bB Tryz.func63 (.one (.loop [0,1] [] .nil)) 15 []
def XS(x0 x1:AV)(h:aa)(K:AV→aa→Prop):Prop:=
 iC p_ 61 [x0,x1] h fun b a=>qBe .eql b 92 fun c=>qKa c a (fun d=>qBe .add x1 1 fun e=>iC p_ 61 [x0,e] a fun f g=>qBe .neq f 10 fun i=>d i g) fun j k=>K j k
theorem V66(x0 x1:AV):Body p_ 66 [x0,x1] (XS x0 x1):=bB Tryz.func66 (sn (.seq (.aR (oR 0 5 (.aD 4 true (fR 5 5) [] [9,14]::oR 10 2 []))) .nil)) 16 [.tmp 4]
def XT(x0 x1:AV)(h:aa)(K:AV→aa→Prop):Prop:=
 iC p_ 61 [x0,x1] h fun e a=>qBe .neq e 45 fun f=>ag f (iC p_ 61 [x0,x1] a fun g i=>iC p_ 97 [g] i fun j b=>qKo j b (fun k=>iC p_ 66 [x0,x1] b k) fun l m=>K l m) (qBe .add x1 1 fun n=>iC p_ 61 [x0,n] a fun o p=>iC p_ 97 [o] p fun q c=>qJo q [x0,x1] c (fun r=>qBe .add x1 1 fun s=>iC p_ 61 [x0,s] c fun t u=>qBe .eql t 45 fun v=>r v u) fun w d=>qKo w d (fun x=>qBe .add x1 1 fun y=>iC p_ 66 [x0,y] d x) fun z A=>K z A)
theorem V67(x0 x1:AV):Body p_ 67 [x0,x1] (XT x0 x1):=bB Tryz.func67 (sn (.seq (sn (.two (.seq (.aR (oR 0 5 (.aD 4 false (fR 5 3) [] [13,16]::oR 8 2 []))) .nil) .nil)) (.seq (.aR (oR 0 6 (.aD 5 false (fR 6 5) [0,1] [23,28]::oR 11 2 (.aD 12 false (fR 13 4) [] [30,34]::oR 17 2 [])))) .nil))) 36 [.tmp 4]
def XU(x0:AV)(h:aa)(K:AV→aa→Prop):Prop:=
 bL [qNs] h fun e a g =>
 iC p_ 61 [x0,i_ 0] g fun b i=>iC p_ 65 [b] i fun j c=>ag j (cy .u8 b fun k=>br 1 1 (u8 0) [(0,1,k)] fun l=>bP false 5 1 1 (nx a 0) l c fun m f=>qLd p_ x0 1 f fun n=>qBe .add n 1 fun o=>qSt p_ x0 1 o f fun p=>eC [x0] (e [m] p)) (qBe .neq b (-1) fun q=>qJa q [x0,nx a 0] c (fun r=>iC p_ 66 [x0,i_ 0] c r) fun s d=>ag s (iC p_ 96 [x0,nx a 0] d fun t u=>eC [x0] (e [t] u)) (cJ (nx a 0) d fun v=>K v d))
theorem V68(x0:AV):Body p_ 68 [x0] (XU x0):=bB Tryz.func68 (sn (sn (.one (.loop [0] [3] (.one (sn (.one (sn (.two (.seq (.aR (oR 0 3 (.op 3 true::oR 4 2 []))) .nil) (.seq (.aR (oR 0 3 (.aD 2 true (fR 3 2) [0,3] [27,29]::oR 5 2 []))) .nil)))))))))) 34 [.tmp 2]
def XV(x0:AV)(h:aa)(K:AV→aa→Prop):Prop:=
 aw (fun b=>iC p_ 61 [x0,i_ 0] h fun c d=>qBe .eql c 43 fun i=>qJo i [x0,i_ 0] d (fun j=>qBe .eql c 45 fun k=>j k d) fun l e=>ag l (qBe .add (i_ 0) 1 fun m=>eC [x0] (b [m] e)) (eC [x0] (b [i_ 0] e))) fun a n=>aw (fun f=>iC p_ 61 [x0,nx a 0] n fun o g=>qBe .eql o 46 fun p=>ag p (qBe .add (nx a 0) 1 fun q=>eC [x0] (f [q] g)) (eC [x0] (f [nx a 0] g))) fun r s=>iC p_ 61 [x0,nx r 0] s fun t u=>iC p_ 98 [t] u fun v w=>K v w
theorem V69(x0:AV):Body p_ 69 [x0] (XV x0):=bB Tryz.func69 (sn (sn (.join [0] [3] (sn (.seq (.aR (oR 0 3 (.aD 2 false (fR 3 2) [0,3] [9,11]::.op 5 false::[]))) .nil)) (.join [0] [3] .nil .nil)))) 25 [.tmp 2]
def Yk(x0:AV)(h:aa)(K:AV→aa→Prop):Prop:=
 aw (fun e=>iC p_ 61 [x0,i_ 0] h fun f g=>qBe .eql f 43 fun r=>qJo r [x0] g (fun s=>qBe .eql f 45 fun t=>s t g) fun u b=>ag u (qLd p_ x0 1 b fun v=>qBe .add v 1 fun w=>qSt p_ x0 1 w b fun x=>eC [x0] (e [] x)) (eC [x0] (e [] b))) fun a6 y=>iC p_ 63 [x0,.fn (.func 98) [] []] y fun a7 z=>aw (fun i=>iC p_ 61 [x0,i_ 0] z fun A j=>qBe .eql A 46 fun B=>qJa B [x0,tt] j (fun C=>iC p_ 61 [x0,i_ 1] j fun D E=>iC p_ 98 [D] E C) fun F c=>ag F (qLd p_ x0 1 c fun G=>qBe .add G 1 fun H=>qSt p_ x0 1 H c fun I=>iC p_ 63 [x0,.fn (.func 98) [] []] I fun a8 J=>eC [x0] (i [ff] J)) (eC [x0] (i [tt] c))) fun a L=>iC p_ 61 [x0,i_ 0] L fun M k=>qBe .eql M 101 fun N=>qJo N [x0,nx a 0] k (fun O=>iC p_ 61 [x0,i_ 0] k fun P Q=>qBe .eql P 69 fun R=>O R Q) fun S l=>ag S (aw (fun m=>iC p_ 61 [x0,i_ 1] l fun n o=>qBe .eql n 43 fun T=>qJo T [x0,nx a 0,i_ 1] o (fun U=>qBe .eql n 45 fun V=>U V o) fun W p=>ag W (qBe .add (i_ 1) 1 fun X=>eC [x0,nx a 0] (m [X] p)) (eC [x0,nx a 0] (m [i_ 1] p))) fun q Y=>iC p_ 61 [x0,nx q 0] Y fun Z a0=>iC p_ 98 [Z] a0 fun a1 d=>ag a1 (qLd p_ x0 1 d fun a2=>ae .add a2 (nx q 0) fun a3=>qSt p_ x0 1 a3 d fun a4=>iC p_ 63 [x0,.fn (.func 98) [] []] a4 fun a9 a5=>K ff a5) (K (nx a 0) d)) (K (nx a 0) l)
theorem V99(x0:AV):Body p_ 99 [x0] (Yk x0):=bB Tryz.func99 (sn (.join [0] [] (sn (.seq (.aR (oR 0 3 (.aD 2 false (fR 3 2) [0] [11,13]::.op 5 false::[]))) .nil)) (sn (sn (.join [0] [4] (.seq (.aR (oR 0 4 (.aD 3 true (fR 4 3) [0,4] [27,30]::.op 7 false::[]))) .nil) (.seq (.seq (.aR (oR 0 4 (.aD 3 false (fR 4 3) [0,4] [44,47]::.op 7 false::[]))) (.two (sn (.join [0,4] [5] (sn (.seq (.aR (oR 0 3 (.aD 2 false (fR 3 2) [0,4,5] [53,55]::.op 5 false::[]))) .nil)) .nil)) .nil)) .nil)))))) 74 [.tmp 2]
def XW(x0:AV)(h:aa)(K:AV→aa→Prop):Prop:=
 aW 70 (.agg [u8 0,.str [],i_ 0,.str [],ff]) h fun b e=>qLd p_ x0 1 e fun j=>iC p_ 99 [x0] e fun k a=>qLd p_ x0 0 a fun l=>qLd p_ x0 1 a fun m=>eN l (some j) (some m) fun n=>wU p_ (.fn (.func 100) [] []) [n] a fun o=>aY (.agg [u8 0,.str [],i_ 0,.str [],ff]) [(0,1,(u8 10)),(2,1,o),(4,1,k)] fun p=>(fun (q:aa)=>ao 5 (AV.op (a.length+1+0) 0) p q fun r=>aw (fun c=>iC p_ 67 [x0,i_ 0] r fun s f=>ag s (iC p_ 68 [x0] f fun t u=>bp 0 (AV.op (a.length+1+0) 0) fun v=>ao 1 v (u8 12) u fun w=>bp 3 (AV.op (a.length+1+0) 0) fun x=>ao 1 x t w fun y=>eC [b,(AV.op (a.length+1+0) 0)] (c [] y)) (iC p_ 61 [x0,i_ 0] f fun z d=>qBe .eql z 37 fun A=>ag A (qLd p_ x0 1 d fun B=>qBe .add B 1 fun C=>qSt p_ x0 1 C d fun D=>bp 0 (AV.op (a.length+1+0) 0) fun E=>ao 1 E (u8 11) D fun F=>bp 4 (AV.op (a.length+1+0) 0) fun G=>ao 1 G ff F fun H=>eC [b,(AV.op (a.length+1+0) 0)] (c [] H)) (eC [b,(AV.op (a.length+1+0) 0)] (c [] d)))) fun J g=>ak true 5 (AV.op (a.length+1+0) 0) g fun I=>ao 5 b I g fun i=>ak true 5 b i fun r46=>K r46 i) (a++[.dead]++[.ah ⟨70,[u8 0,.str [],i_ 0,.str [],ff],true⟩])
theorem V70(x0:AV):Body p_ 70 [x0] (XW x0):=bB Tryz.func70 (sn (sn (sn (.seq (.Jy 14 [13] (fR 0 14) [.op 14 false] []) (.join [2,5] [] .nil .nil))))) 46 [.cell 2 70]
def XX(x0:AV)(h:aa)(K:AV→aa→Prop):Prop:=
 aW 70 (.agg [u8 0,.str [],i_ 0,.str [],ff]) h fun a n=>iC p_ 68 [x0] n fun b o=>iC p_ 61 [x0,i_ 0] o fun p c=>qBe .neq p 40 fun q=>ag q (aY (.agg [u8 0,.str [],i_ 0,.str [],ff]) [(0,1,(u8 1)),(1,1,b)] fun r=>ao 5 a r c fun f=>ak true 5 a f fun r10=>K r10 f) (qLd p_ x0 1 c fun s=>qBe .add s 1 fun t=>qSt p_ x0 1 t c fun u=>aw (fun g=>iC p_ 101 [b,.str [117,114,108]] u fun v d=>ag v (ca p_ x0 fun w=>ak true 2 w d fun x=>aW 101 (.agg [.str [],i_ 0]) d fun e y=>ao 2 e x y fun z=>iC p_ 63 [e,.fn (.func 62) [] []] z fun J A=>iC p_ 61 [e,i_ 0] A fun i j=>qBe .neq i 34 fun B=>qJa B [x0,a,b] j (fun C=>qBe .neq i 39 fun D=>C D j) fun E k=>ag E (iC p_ 102 [x0] k fun F G=>ao 5 a F G fun l=>ak true 5 a l fun r39=>K r39 l) (eC [a,b] (g [] k))) (eC [a,b] (g [] d))) fun L H=>aY (.agg [u8 0,.str [],i_ 0,.str [],ff]) [(0,1,(u8 2)),(1,1,b)] fun I=>ao 5 a I H fun m=>ak true 5 a m fun r44=>K r44 m)
theorem V71(x0:AV):Body p_ 71 [x0] (XX x0):=bB Tryz.func71 (sn (sn (sn (sn (.join [2,3] [] (sn (.two (sn (sn (sn (.seq (.aR (oR 0 3 (.aD 2 true (fR 3 2) [0,2,3] [29,31]::.op 5 false::[]))) .nil)))) .nil)) .nil))))) 37 [.cell 2 70]
def XA(x0:AV)(h:aa)(K:AV→aa→Prop):Prop:=
 aW 70 (.agg [u8 0,.str [],i_ 0,.str [],ff]) h fun a e=>iQ p_ 61 [x0,i_ 0] e fun b=>qLd p_ x0 0 e fun H=>qLd p_ x0 1 e fun I=>eN H (some I) none fun c=>iC p_ 62 [b] e fun J g=>ag J (iC p_ 63 [x0,.fn (.func 62) [] []] g fun e4 L=>aY (.agg [u8 0,.str [],i_ 0,.str [],ff]) [(0,1,(u8 13))] fun M=>ao 5 a M L fun m=>ak true 5 a m fun r17=>K r17 m) (qBe .eql b 34 fun N=>qJo N [x0,a,b,c] g (fun O=>qBe .eql b 39 fun P=>O P g) fun Q i=>ag Q (iC p_ 64 [x0] i fun R S=>ao 5 a R S fun n=>ak true 5 a n fun r27=>K r27 n) (qBe .eql b 35 fun o=>aw (fun p=>ar o true (iC p_ 61 [x0,i_ 1] i fun T U=>iC p_ 65 [T] U fun V W=>eC [x0,a,b,c] (p [tt,V] W)) (eC [x0,a,b,c] (p [aN true o,un] i))) fun d q=>aw (fun r=>ar (nx d 1) false (iC p_ 66 [x0,i_ 1] q fun X Y=>eC [x0,a,b,c,nx d 0] (r [ff,X] Y)) (eC [x0,a,b,c,nx d 0] (r [(aN false (nx d 1)),un] q))) fun s t=>qJa (nx d 0) [x0,a,b,c] t (fun Z=>aI (nx s 0) tt (nx s 1) fun a0=>Z a0 t) fun a1 u=>ag a1 (iC p_ 67 [x0,i_ 1] u fun a2 v=>qLd p_ x0 1 v fun a3=>qBe .add a3 1 fun a4=>qSt p_ x0 1 a4 v fun a5=>iC p_ 68 [x0] a5 fun a6 a7=>aY (.agg [u8 0,.str [],i_ 0,.str [],ff]) [(0,1,(u8 4)),(1,1,a6),(4,1,a2)] fun a8=>ao 5 a a8 a7 fun w=>ak true 5 a w fun r59=>K r59 w) (iC p_ 69 [x0] u fun a9 x=>ag a9 (iC p_ 70 [x0] x fun b0 b1=>ao 5 a b0 b1 fun y=>ak true 5 a y fun r65=>K r65 y) (iC p_ 59 [c,.str [45,45,62]] x fun b2 j=>ag b2 (qLd p_ x0 1 j fun b3=>qBe .add b3 3 fun b4=>qSt p_ x0 1 b4 j fun b5=>aY (.agg [u8 0,.str [],i_ 0,.str [],ff]) [(0,1,(u8 15))] fun b6=>ao 5 a b6 b5 fun z=>ak true 5 a z fun r77=>K r77 z) (iC p_ 59 [c,.str [60,33,45,45]] j fun b7 f=>ag b7 (qLd p_ x0 1 f fun b8=>qBe .add b8 4 fun b9=>qSt p_ x0 1 b9 f fun c0=>aY (.agg [u8 0,.str [],i_ 0,.str [],ff]) [(0,1,(u8 14))] fun c1=>ao 5 a c1 c0 fun A=>ak true 5 a A fun r89=>K r89 A) (qBe .eql b 64 fun c2=>qJa c2 [x0,a,b,c] f (fun c3=>iC p_ 67 [x0,i_ 1] f c3) fun c4 k=>ag c4 (qLd p_ x0 1 k fun c5=>qBe .add c5 1 fun c6=>qSt p_ x0 1 c6 k fun c7=>iC p_ 68 [x0] c7 fun c8 c9=>aY (.agg [u8 0,.str [],i_ 0,.str [],ff]) [(0,1,(u8 3)),(1,1,c8)] fun d0=>ao 5 a d0 c9 fun B=>ak true 5 a B fun r108=>K r108 B) (iC p_ 67 [x0,i_ 0] k fun d1 l=>ag d1 (iC p_ 71 [x0] l fun d2 d3=>ao 5 a d2 d3 fun C=>ak true 5 a C fun r114=>K r114 C) (qLd p_ x0 1 l fun d4=>qBe .add d4 1 fun d5=>qSt p_ x0 1 d5 l fun d6=>cy .u8 b fun d7=>iC p_ 72 [.str [58,59,44,91,93,40,41,123,125],d7] d6 fun D E=>qBe .geq D 0 fun d8=>ag d8 (cy .u8 D fun d9=>ae .add (u8 16) d9 fun e0=>aY (.agg [u8 0,.str [],i_ 0,.str [],ff]) [(0,1,e0)] fun e1=>ao 5 a e1 E fun F=>ak true 5 a F fun r130=>K r130 F) (eN c none (some (i_ 1)) fun e2=>aY (.agg [u8 0,.str [],i_ 0,.str [],ff]) [(0,1,(u8 9)),(1,1,e2)] fun e3=>ao 5 a e3 E fun G=>ak true 5 a G fun r134=>K r134 G)))))))))
theorem V44(x0:AV):Body p_ 44 [x0] (XA x0):=bB Tryz.func44 (sn (.seq (.draw 13 (oR 0 13 []) [] []) (.seq (.one (sn (.two .nil (.seq (.aR (oR 0 3 (.aD 2 false (fR 3 2) [0,2,3,4] [27,29]::oR 5 2 []))) (.two .nil (.seq (.aR (oR 0 3 (.aD 2 true (fR 3 4) [0,2,3,4] [36,40]::.aD 6 false (fR 7 2) [0,2,3,4,36] [40,42]::.aD 2 true [(9,false)] [0,2,3,4] [36,43]::oR 10 2 []))) (.two .nil (sn (.two .nil (sn (.two .nil (sn (.two .nil (.seq (.aR (oR 0 3 (.aD 2 true (fR 3 2) [0,2,3,4] [88,90]::oR 5 2 []))) .nil)))))))))))))) .nil))) 126 [.cell 2 70]
def Xz(x0:AV)(h:aa)(K:AV→aa→Prop):Prop:=
 bL [] h fun c u a =>
 qLd p_ x0 0 a fun d=>qLd p_ x0 1 a fun e=>eN d (some e) none fun f=>iQ p_ 59 [f,.str [47,42]] a fun g=>ag g (qLd p_ x0 0 a fun i=>qLd p_ x0 1 a fun j=>qBe .add j 2 fun k=>eN i (some k) none fun l=>iQ p_ 60 [l,.str [42,47]] a fun b=>qBe .lss b 0 fun m=>ag m (qLd p_ x0 0 a fun n=>cR n fun o=>qSt p_ x0 1 o a fun p=>K (.aA []) p) (qLd p_ x0 1 a fun q=>qBe .add b 4 fun r=>ae .add q r fun s=>qSt p_ x0 1 s a fun t=>eC [x0] (c [] t))) (K (.aA []) a)
theorem V43(x0:AV):Body p_ 43 [x0] (Xz x0):=bB Tryz.func43 (.one (.loop [0] [] (.seq (.seq (.draw 10 (oR 0 10 []) [] []) .nil) (.one (.seq (.draw 12 (oR 0 12 []) [] []) .nil))))) 43 []
def Yh(x0 x1:AV)(h:aa)(K:AV→aa→Prop):Prop:=
 qLd p_ x0 1 h fun o=>qBe .add o 1 fun p=>qSt p_ x0 1 p h fun q=>iC p_ 61 [x0,i_ 0] q fun c g=>qBe .eql c (-1) fun r=>ag r (iC p_ 135 [x1,.v (.int .i32 65533)] g fun s t=>K s t) (iC p_ 136 [c] g fun u d=>qBe .lss u 0 fun w=>ag w (qLd p_ x0 1 d fun x=>qBe .add x 1 fun y=>qSt p_ x0 1 y d fun z=>cy .u8 c fun A=>br 1 1 (u8 0) [(0,1,A)] fun B=>bP false 5 1 1 x1 B z fun C D=>K C D) (aw (fun i=>bL [i_ 0,i_ 0] d fun E a j =>
 qBe .lss (nx a 1) 6 fun F=>ag F (iC p_ 61 [x0,i_ 0] j fun G H=>iC p_ 136 [G] H fun k e=>qBe .lss k 0 fun I=>ag I (eC [x0,x1] (i [nx a 0] e)) (ae .shl (nx a 0) (.v (.int .u64 4)) fun J=>ae .or J k fun L=>qLd p_ x0 1 e fun M=>qBe .add M 1 fun N=>qSt p_ x0 1 N e fun O=>qBe .add (nx a 1) 1 fun P=>eC [x0,x1] (E [L,P] O))) (eC [x0,x1] (i [nx a 0] j))) fun b Q=>aw (fun l=>iC p_ 61 [x0,i_ 0] Q fun R S=>iC p_ 62 [R] S fun T f=>ag T (qLd p_ x0 1 f fun U=>qBe .add U 1 fun V=>qSt p_ x0 1 V f fun W=>eC [x1,nx b 0] (l [] W)) (eC [x1,nx b 0] (l [] f))) fun a3 m=>aw (fun n=>qBe .eql (nx b 0) 0 fun X=>ag X (eC [x1] (n [i_ 65533] m)) (eC [x1] (n [nx b 0] m))) fun Y Z=>cy .i32 (nx Y 0) fun a0=>iC p_ 135 [x1,a0] Z fun a1 a2=>K a1 a2))
theorem V96(x0 x1:AV):Body p_ 96 [x0,x1] (Yh x0 x1):=bB Tryz.func96 (sn (sn (sn (sn (.seq (sn (.two (sn (.seq (.aR (oR 0 3 (.op 3 true::oR 4 2 []))) .nil)) .nil)) (sn (.join [0,1] [6] (sn (.one (.loop [0,1] [6,36] (sn (sn (.seq (.one (sn (sn (.draw 13 (oR 0 13 []) [.op 13 false] [])))) .nil)))))) (.join [1,6] [] .nil (.join [1] [6] .nil .nil))))))))) 72 [.tmp 4]
def SD(x0:AV)(h:aa)(K:AV→aa→Prop):Prop:=
 aW 70 (.agg [u8 0,.str [],i_ 0,.str [],ff]) h fun a i=>bL [] i fun d x j =>
 iC p_ 61 [x0,i_ 0] j fun k e=>qBe .eql k (-1) fun l=>ag l (aY (.agg [u8 0,.str [],i_ 0,.str [],ff]) [(0,1,(u8 8))] fun m=>ao 5 a m e fun f=>ak true 5 a f fun r11=>K r11 f) (iC p_ 66 [x0,i_ 0] e fun n c=>ag n (iC p_ 96 [x0,qNs] c fun y o=>eC [x0,a] (d [] o)) (qLd p_ x0 1 c fun p=>qBe .add p 1 fun q=>qSt p_ x0 1 q c fun b=>qLd p_ x0 0 b fun r=>qLd p_ x0 1 b fun s=>qBe .sub s 1 fun t=>dH r t fun u=>ae .eql u (u8 41) fun v=>ag v (aY (.agg [u8 0,.str [],i_ 0,.str [],ff]) [(0,1,(u8 8))] fun w=>ao 5 a w b fun g=>ak true 5 a g fun r34=>K r34 g) (eC [x0,a] (d [] b))))
theorem YV(x0:AV):Body p_ 141 [x0] (SD x0):=bB Tryz.func141 (sn (.one (.loop [0,2] [] (.one (sn (sn (.seq (.draw 11 (oR 0 11 []) [] []) .nil))))))) 32 [.cell 2 70]
def Sa(x0:AV)(h:aa)(K:AV→aa→Prop):Prop:=
 aW 70 (.agg [u8 0,.str [],i_ 0,.str [],ff]) h fun a A=>iC p_ 63 [x0,.fn (.func 62) [] []] A fun c7 B=>bL [qNs] B fun g c C =>
 iC p_ 61 [x0,i_ 0] C fun i D=>aw (fun j=>iC p_ 62 [i] D fun E k=>ag E (iC p_ 63 [x0,.fn (.func 62) [] []] k fun c8 F=>iC p_ 61 [x0,i_ 0] F fun e l=>qBe .neq e 41 fun G=>qJa G [x0,a,nx c 0,e] l (fun H=>qBe .neq e (-1) fun I=>H I l) fun J m=>ag J (iC p_ 141 [x0] m fun L M=>ao 5 a L M fun n=>ak true 5 a n fun r26=>K r26 n) (eC [x0,a,nx c 0] (j [e] m))) (eC [x0,a,nx c 0] (j [i] k))) fun b d=>qBe .eql (nx b 0) (-1) fun N=>ag N (cJ (nx c 0) d fun O=>aY (.agg [u8 0,.str [],i_ 0,.str [],ff]) [(0,1,(u8 7)),(1,1,O)] fun P=>ao 5 a P d fun o=>ak true 5 a o fun r33=>K r33 o) (qBe .eql (nx b 0) 41 fun Q=>ag Q (qLd p_ x0 1 d fun R=>qBe .add R 1 fun S=>qSt p_ x0 1 S d fun p=>cJ (nx c 0) p fun T=>aY (.agg [u8 0,.str [],i_ 0,.str [],ff]) [(0,1,(u8 7)),(1,1,T)] fun U=>ao 5 a U p fun q=>ak true 5 a q fun r45=>K r45 q) (qBe .eql (nx b 0) 34 fun V=>qJo V [x0,a,nx c 0,nx b 0] d (fun W=>qBe .eql (nx b 0) 39 fun X=>W X d) fun Y r=>qJo Y [x0,a,nx c 0,nx b 0] r (fun Z=>qBe .eql (nx b 0) 40 fun a0=>Z a0 r) fun a1 s=>qJo a1 [x0,a,nx c 0,nx b 0] s (fun a2=>qBe .leq (nx b 0) 8 fun a3=>a2 a3 s) fun a4 t=>qJo a4 [x0,a,nx c 0,nx b 0] t (fun a5=>qBe .eql (nx b 0) 11 fun a6=>a5 a6 t) fun a7 u=>qJo a7 [x0,a,nx c 0,nx b 0] u (fun a8=>iC p_ 137 [nx b 0,i_ 14,i_ 31] u a8) fun a9 v=>qJo a9 [x0,a,nx c 0,nx b 0] v (fun b0=>qBe .eql (nx b 0) 127 fun b1=>b0 b1 v) fun b2 f=>ag b2 (iC p_ 141 [x0] f fun b3 b4=>ao 5 a b3 b4 fun w=>ak true 5 a w fun r81=>K r81 w) (qBe .neq (nx b 0) 92 fun b5=>ag b5 (cy .u8 (nx b 0) fun b6=>br 1 1 (u8 0) [(0,1,b6)] fun b7=>bP false 5 1 1 (nx c 0) b7 f fun b8 x=>qLd p_ x0 1 x fun b9=>qBe .add b9 1 fun c0=>qSt p_ x0 1 c0 x fun c1=>eC [x0,a] (g [b8] c1)) (iC p_ 66 [x0,i_ 0] f fun c2 y=>ag c2 (iC p_ 96 [x0,nx c 0] y fun c3 c4=>eC [x0,a] (g [c3] c4)) (iC p_ 141 [x0] y fun c5 c6=>ao 5 a c5 c6 fun z=>ak true 5 a z fun r101=>K r101 z)))))
theorem Yv(x0:AV):Body p_ 102 [x0] (Sa x0):=bB Tryz.func102 (sn (sn (sn (.one (.loop [0,2] [3] (.one (sn (.join [0,2,3] [4] (sn (.two (sn (sn (.seq (.aR (oR 0 3 (.aD 2 true (fR 3 2) [0,2,3,4] [17,19]::.op 5 false::[]))) .nil))) .nil)) (.one (sn (.two .nil (sn (.two .nil (.seq (.aR (oR 0 3 (.aD 2 false (fR 3 2) [0,2,3,4] [47,49]::oR 5 2 (.aD 6 false (fR 7 2) [0,2,3,4] [51,53]::oR 9 2 (.aD 10 false (fR 11 2) [0,2,3,4] [55,57]::oR 13 2 (.aD 14 false (fR 15 2) [0,2,3,4] [59,61]::oR 17 2 (.aD 18 false (fR 19 2) [0,2,3,4] [63,65]::oR 21 2 (.aD 22 false (fR 23 2) [0,2,3,4] [67,69]::oR 25 2 [])))))))) (.two .nil (sn (.two (.seq (.aR (oR 0 3 (.op 3 true::oR 4 2 []))) .nil) .nil))))))))))))))))) 94 [.cell 2 70]
def SB(x0:AV)(h:aa)(K:AV→aa→Prop):Prop:=
 iC p_ 98 [x0] h fun e a=>ag e (qBe .sub x0 48 fun f=>K f a) (qBe .neq x0 (-1) fun g=>qJa g [x0] a (fun i=>qBe .or x0 32 fun j=>iC p_ 137 [j,i_ 97,i_ 102] a i) fun k b=>qJa k [x0] b (fun l=>qBe .gtr x0 64 fun m=>l m b) fun n c=>qJa n [x0] c (fun o=>qBe .lss x0 128 fun p=>o p c) fun q d=>ag q (qBe .or x0 32 fun r=>qBe .sub r 97 fun s=>qBe .add s 10 fun t=>K t d) (K (i_ (-1)) d))
theorem YT(x0:AV):Body p_ 136 [x0] (SB x0):=bB Tryz.func136 (sn (.seq (.one (sn (.two .nil (.seq (.aR (oR 0 3 (.aD 2 true (fR 3 3) [0] [11,14]::oR 6 2 (.aD 7 true (fR 8 2) [0] [16,18]::oR 10 2 (.aD 11 true (fR 12 2) [0] [20,22]::oR 14 2 []))))) .nil)))) .nil)) 28 [.tmp 2]
def SA(x0 x1:AV)(h:aa)(K:AV→aa→Prop):Prop:=
 cy .u32 x1 fun a=>ae .leq a (.v (.int .u32 127)) fun b=>ag b (cy .u8 x1 fun c=>br 1 1 (u8 0) [(0,1,c)] fun d=>bP false 5 1 1 x0 d h fun e f=>K e f) (iC p_ 165 [x0,x1] h fun g i=>K g i)
theorem YS(x0 x1:AV):Body p_ 135 [x0,x1] (SA x0 x1):=bB Tryz.func135 (sn (.seq (sn (.two (.seq (.aR (oR 0 3 (.op 3 true::oR 4 2 []))) .nil) .nil)) .nil)) 16 [.tmp 4]
def SN(x0 x1:AV)(h:aa)(K:AV→aa→Prop):Prop:=
 cy .u32 x1 fun a=>ae .leq a (.v (.int .u32 2047)) fun e=>ag e (ae .shr x1 (.v (.int .u64 6)) fun f=>cy .u8 f fun g=>ae .or (u8 192) g fun i=>cy .u8 x1 fun j=>ae .and j (u8 63) fun k=>ae .or (u8 128) k fun l=>br 2 1 (u8 0) [(0,1,i),(1,1,l)] fun m=>bP false 5 1 1 x0 m h fun n o=>K n o) (aw (fun c=>ae .lss a (.v (.int .u32 55296)) fun p=>ag p (eC [x0,x1,a] (c [tt] h)) (ae .lss (.v (.int .u32 57343)) a fun q=>qJa q [x0,x1,a] h (fun r=>ae .leq a (.v (.int .u32 65535)) fun s=>r s h) fun t u=>eC [x0,x1,a] (c [t] u))) fun w b=>ag (nx w 0) (ae .shr x1 (.v (.int .u64 12)) fun x=>cy .u8 x fun y=>ae .or (u8 224) y fun z=>ae .shr x1 (.v (.int .u64 6)) fun A=>cy .u8 A fun B=>ae .and B (u8 63) fun C=>ae .or (u8 128) C fun D=>cy .u8 x1 fun E=>ae .and E (u8 63) fun F=>ae .or (u8 128) F fun G=>br 3 1 (u8 0) [(0,1,z),(1,1,D),(2,1,G)] fun H=>bP false 5 1 1 x0 H b fun I J=>K I J) (ae .gtr a (.v (.int .u32 65535)) fun L=>qJa L [x0,x1] b (fun M=>ae .leq a (.v (.int .u32 1114111)) fun N=>M N b) fun O d=>ag O (ae .shr x1 (.v (.int .u64 18)) fun P=>cy .u8 P fun Q=>ae .or (u8 240) Q fun R=>ae .shr x1 (.v (.int .u64 12)) fun S=>cy .u8 S fun T=>ae .and T (u8 63) fun U=>ae .or (u8 128) U fun V=>ae .shr x1 (.v (.int .u64 6)) fun W=>cy .u8 W fun X=>ae .and X (u8 63) fun Y=>ae .or (u8 128) Y fun Z=>cy .u8 x1 fun a0=>ae .and a0 (u8 63) fun a1=>ae .or (u8 128) a1 fun a2=>br 4 1 (u8 0) [(0,1,R),(1,1,V),(2,1,Z),(3,1,a2)] fun a3=>bP false 5 1 1 x0 a3 d fun a4 a5=>K a4 a5) (br 3 1 (u8 0) [(0,1,(u8 239)),(1,1,(u8 191)),(2,1,(u8 189))] fun a6=>bP false 5 1 1 x0 a6 d fun a7 a8=>K a7 a8)))
theorem Y5(x0 x1:AV):Body p_ 165 [x0,x1] (SN x0 x1):=bB Tryz.func165 (sn (sn (.one (sn (.two (.seq (.aR (oR 0 9 (.op 9 true::oR 10 2 []))) .nil) (.join [0,1,5] [25] (sn (.two .nil (.aR (oR 0 3 (.aD 2 true (fR 3 2) [0,1,5] [30,32]::oR 5 2 []))))) (.two (.seq (.aR (oR 0 14 (.op 14 true::oR 15 2 []))) .nil) (.seq (.aR (oR 0 3 (.aD 2 true (fR 3 2) [0,1] [53,55]::oR 5 2 []))) (.two (.seq (.aR (oR 0 19 (.op 19 true::oR 20 2 []))) .nil) (.seq (.aR (.op 0 false::.op 1 true::oR 2 2 [])) .nil)))))))))) 78 [.tmp 4]
def R8(x0:AV)(h:aa)(K:AV→aa→Prop):Prop:=
 dH x0 (i_ 0) fun A=>ae .eql A (u8 45) fun a=>iC p_ 138 [x0,.str [43,45]] h fun c B=>aw (fun p=>iC p_ 139 [c,.str [101,69]] B fun d q=>qBe .geq d 0 fun C=>ag C (qBe .add d 1 fun D=>eN c (some D) none fun E=>iC p_ 138 [E,.str [43,45]] q fun F G=>iP 5 F G fun j H=>bu j fun r=>bL [i_ 0,i_ 0] H fun I e i =>
 ae .lss (nx e 1) r fun J=>ag J (aQ 1 j (nx e 1) fun L=>ak false 1 L i fun M=>ae .mul (i_ 10) (nx e 0) fun N=>ae .sub M (u8 48) fun O=>cy .i64 O fun P=>ae .add N P fun Q=>nT Q (i_ 1048576) fun R=>qBe .add (nx e 1) 1 fun S=>eC [c,a,i_ 3,d,j,r] (I [R,S] i)) (aw (fun s=>qBe .add d 1 fun T=>dH c T fun U=>ae .eql U (u8 45) fun V=>ag V (pb (nx e 0) fun W=>eC [c,a,i_ 3,d] (s [W] i)) (eC [c,a,i_ 3,d] (s [nx e 0] i))) fun X Y=>ae .add (i_ 3) (nx X 0) fun Z=>eN c none (some d) fun a0=>eC [a] (p [a0,Z] Y))) (eC [a] (p [c,i_ 3] q))) fun t a1=>iC p_ 140 [nx t 0,.str [46]] a1 fun k u=>aU 0 k fun a2=>aU 1 k fun v=>aU 2 k fun d4=>cR v fun a3=>ae .sub (nx t 1) a3 fun f=>ae .add a2 v fun l=>aw (fun w=>qBe .lss f 0 fun a4=>ag a4 (cR l fun a5=>ae .add a5 f fun a6=>kr (i_ 0) a6 fun a7=>eN l none (some a7) fun a8=>eC [a,f] (w [a8] u)) (eC [a,f] (w [l] u))) fun a9 b0=>iP 5 (nx a9 0) b0 fun m b1=>bu m fun x=>bL [i_ 0,i_ 0] b1 fun b2 g n =>
 ae .lss (nx g 1) x fun b3=>ag b3 (aQ 1 m (nx g 1) fun b4=>ak false 1 b4 n fun b5=>ae .mul (i_ 10) (nx g 0) fun b6=>ae .sub b5 (u8 48) fun b7=>cy .i64 b7 fun b8=>ae .add b6 b8 fun b9=>nT b9 (i_ 1000000000000) fun c0=>qBe .add (nx g 1) 1 fun c1=>eC [a,f,m,x] (b2 [c0,c1] n)) (bL [f,nx g 0] n fun c2 b y =>
 qBe .gtr (nx b 0) 0 fun c3=>qJa c3 [a,nx b 0,nx b 1] y (fun c4=>qBe .gtr (nx b 1) 0 fun c5=>c4 c5 y) fun c6 z=>qJa c6 [a,nx b 0,nx b 1] z (fun c7=>qBe .lss (nx b 1) 1000000000000 fun c8=>c7 c8 z) fun c9 o=>ag c9 (ae .mul (i_ 10) (nx b 1) fun d0=>nT d0 (i_ 1000000000000) fun d1=>qBe .sub (nx b 0) 1 fun d2=>eC [a] (c2 [d2,d1] o)) (ag a (pb (nx b 1) fun d3=>K d3 o) (K (nx b 1) o)))
theorem Yt(x0:AV):Body p_ 100 [x0] (R8 x0):=bB Tryz.func100 (sn (sn (sn (sn (.join [3] [0,4] (sn (sn (.two (sn (.seq (sn (.one (.loop [0,3,4,5,29,30] [6,31] .nil))) (.join [0,3,4,5] [6] .nil (.draw 8 (oR 0 8 []) [] [])))) .nil))) (sn (sn (sn (.join [3,4] [0] .nil (sn (.seq (sn (.one (.loop [3,4,79,80] [12,81] .nil))) (.seq (.one (.loop [3] [4,12] (.seq (.seq (.aR (oR 0 3 (.aD 2 true (fR 3 2) [3,4,12] [95,97]::oR 5 2 (.aD 6 true (fR 7 2) [3,4,12] [99,101]::.op 9 false::[])))) .nil) .nil))) .nil)))))))))))) 112 [.tmp 2]
def Xk(x0 x1:AV)(h:aa)(K:AV→aa→Prop):Prop:=
 iC p_ 42 [x0] h fun e f=>aU 0 e fun c=>aU 1 e fun g=>qBe .neq g 0 fun k=>ag k (K g f) (aY (.agg [.str [],i_ 0]) [(0,1,c)] fun l=>aW 101 l f fun a m=>iC p_ 43 [a] m fun C n=>bL [i_ 0] n fun o p b =>
 qLd p_ a 1 b fun q=>cR c fun r=>ae .lss q r fun s=>ag s (qBe .add (nx p 0) 1 fun i=>qBe .gtr i 1500 fun t=>ag t (K (i_ 4) b) (qLd p_ a 1 b fun u=>iC p_ 44 [a] b fun v w=>aW 70 (.agg [u8 0,.str [],i_ 0,.str [],ff]) w fun j x=>ao 5 j v x fun d=>ak true 5 j d fun y=>qLd p_ a 1 d fun z=>bz p_ x1 [y,u,z] d fun D A=>iC p_ 43 [a] A fun E B=>eC [c,x1,a] (o [i] B))) (K (i_ 0) b))
theorem V27(x0 x1:AV):Body p_ 27 [x0,x1] (Xk x0 x1):=bB Tryz.func27 (sn (sn (sn (sn (sn (sn (.seq (.one (.loop [0,1,6] [7] (sn (.one (sn (sn (sn (.seq (.draw 7 (oR 0 7 []) [.op 7 true] []) .nil)))))))) .nil))))))) 50 [.tmp 4]
def Xb(x0:AV)(h:aa)(K:AV→aa→Prop):Prop:=
 aW 51 qNs h fun b d=>iC p_ 27 [x0,(.fn (.func 28) [] [b])] d fun c a=>qBe .neq c 0 fun e=>ag e (K (.aA [qNs,c]) a) (ak false 1 b a fun f=>K (.aA [f,i_ 0]) a)
theorem V17(x0:AV):Body p_ 17 [x0] (Xb x0):=bB Tryz.func17 .nil 13 [.tmp 2,.tmp 3]
def Xl(x0 x1 x2 x3:AV)(h:aa)(K:AV→aa→Prop):Prop:=
 aW 70 x0 h fun b a=>ak false 1 x3 a fun c=>ak true 5 b a fun d=>br 1 5 (.agg [u8 0,.str [],i_ 0,.str [],ff]) [(0,5,d)] fun e=>bP false 70 5 56 c e a fun f g=>ao 1 x3 f g fun i=>K (.aA []) i
theorem V28(x0 x1 x2 x3:AV):Body p_ 28 [x0,x1,x2,x3] (Xl x0 x1 x2 x3):=bB Tryz.func28 (sn (.aR (oR 0 2 (.op 2 true::oR 3 2 [])))) 11 []
def Yi(x0:AV)(h:aa)(K:AV→aa→Prop):Prop:=
 qBe .or x0 32 fun e=>iC p_ 137 [e,i_ 97,i_ 122] h fun f a=>qJa f [x0] a (fun g=>qBe .lss x0 128 fun i=>g i a) fun j b=>qJa j [x0] b (fun k=>qBe .gtr x0 64 fun l=>k l b) fun m c=>qJo m [x0] c (fun n=>qBe .eql x0 95 fun o=>n o c) fun p d=>qKo p d (fun q=>qBe .geq x0 128 fun r=>q r d) fun s t=>K s t
theorem V97(x0:AV):Body p_ 97 [x0] (Yi x0):=bB Tryz.func97 (sn (.seq (.aR (oR 0 4 (.aD 3 true (fR 4 2) [0] [6,8]::oR 6 2 (.aD 7 true (fR 8 2) [0] [10,12]::oR 10 2 (.aD 11 false (fR 12 2) [0] [14,16]::oR 14 2 (.aD 15 false (fR 16 2) [] [18,20]::oR 18 2 [])))))) .nil)) 22 [.tmp 2]
def SC(x0 x1 x2:AV)(h:aa)(K:AV→aa→Prop):Prop:=
 ae .leq x1 x0 fun a=>qKa a h (fun b=>ae .leq x0 x2 fun c=>b c h) fun d e=>K d e
theorem YU(x0 x1 x2:AV):Body p_ 137 [x0,x1,x2] (SC x0 x1 x2):=bB Tryz.func137 (sn (.seq (.aR (oR 0 4 (.aD 3 true (fR 4 3) [] [10,13]::oR 7 2 []))) .nil)) 15 [.tmp 6]
def XR(x0:AV)(h:aa)(K:AV→aa→Prop):Prop:=
 iC p_ 97 [x0] h fun c a=>qJo c [x0] a (fun d=>iC p_ 98 [x0] a d) fun e b=>qKo e b (fun f=>qBe .eql x0 45 fun g=>f g b) fun i j=>K i j
theorem V65(x0:AV):Body p_ 65 [x0] (XR x0):=bB Tryz.func65 (sn (.seq (.aR (oR 0 3 (.aD 2 false (fR 3 2) [0] [5,7]::oR 5 2 (.aD 6 false (fR 7 2) [] [9,11]::oR 9 2 [])))) .nil)) 13 [.tmp 2]
def XO(x0:AV)(h:aa)(K:AV→aa→Prop):Prop:=
 qBe .eql x0 32 fun b=>qJo b [x0] h (fun c=>qBe .eql x0 9 fun d=>c d h) fun e a=>qKo e a (fun f=>qBe .eql x0 10 fun g=>f g a) fun i j=>K i j
theorem V62(x0:AV):Body p_ 62 [x0] (XO x0):=bB Tryz.func62 (sn (.seq (.aR (oR 0 3 (.aD 2 false (fR 3 2) [0] [5,7]::oR 5 2 (.aD 6 false (fR 7 2) [] [9,11]::oR 9 2 [])))) .nil)) 13 [.tmp 2]
def Tc(x0 x1:AV)(h:aa)(K:AV→aa→Prop):Prop:=
 cR x0 fun a=>cR x1 fun b=>ae .geq a b fun c=>qKa c h (fun d=>cR x1 fun e=>eN x0 none (some e) fun f=>ae .eql f x1 fun g=>d g h) fun i j=>K i j
theorem WX(x0 x1:AV):Body p_ 94 [x0,x1] (Tc x0 x1):=bB Tryz.func94 (sn (.seq (.aR (oR 0 6 (.aD 5 true (fR 6 6) [] [10,16]::oR 12 2 []))) .nil)) 18 [.tmp 4]
def Ta(x0 x1:AV)(h:aa)(K:AV→aa→Prop):Prop:=
 iC p_ 94 [x0,x1] h fun a b=>K a b
theorem WW(x0 x1:AV):Body p_ 59 [x0,x1] (Ta x0 x1):=bB Tryz.func59 .nil 8 [.tmp 4]
def Yj(x0:AV)(h:aa)(K:AV→aa→Prop):Prop:=
 iC p_ 137 [x0,i_ 48,i_ 57] h fun a b=>K a b
theorem V98(x0:AV):Body p_ 98 [x0] (Yj x0):=bB Tryz.func98 .nil 5 [.tmp 2]
def R9(x0 x1:AV)(h:aa)(K:AV→aa→Prop):Prop:=
 iC p_ 76 [x0] h fun a b=>iC p_ 76 [x1] b fun c d=>ae .eql a c fun e=>K e d
theorem Yu(x0 x1:AV):Body p_ 101 [x0,x1] (R9 x0 x1):=bB Tryz.func101 .nil 10 [.tmp 4]
end
section
set_option maxHeartbeats 4000000
open Go
theorem disable(w:World):(callFunc 204 #[]).run p_ w=.ok (.value (.tuple #[])) w:=run_call_mark0 Tryz.func204 (by kernel_rfl) (by kernel_rfl) (by kernel_rfl) .disable (by kernel_rfl) w
theorem enable(w:World):(callFunc 206 #[]).run p_ w=.ok (.value (.tuple #[])) w:=run_call_mark0 Tryz.func206 (by kernel_rfl) (by kernel_rfl) (by kernel_rfl) .enable (by kernel_rfl) w
theorem acquire(a:Addr)(w:World):(callFunc 207 #[.pointer (some a)]).run p_ w=.ok (.value (.tuple #[])) w:=run_call_marked Tryz.func207 (by kernel_rfl) (by kernel_rfl) (by kernel_rfl) .acquire (by kernel_rfl) a w
theorem releaseMerge(a:Addr)(w:World):(callFunc 209 #[.pointer (some a)]).run p_ w=.ok (.value (.tuple #[])) w:=run_call_marked Tryz.func209 (by kernel_rfl) (by kernel_rfl) (by kernel_rfl) .releaseMerge (by kernel_rfl) a w
theorem Cu(a:Addr)(x:Value)(u:FrameMode)(w:World)(hc:w.cell? a=some x)(hz:w.frozen? a=false):
 CallsD p_ 161 #[.pointer (some a),.bool true] u w fun e u' w' => u'=u∧(e=.returned (.tuple #[])∧w'=w.drew.setCell a (.int .u32 1)):=by
 have hc':w.drew.cell? a=some x:=by go_simp
 have hz':w.drew.frozen? a=false:=by go_simp
 have hst:=run_call_store (P:=p_) Tryz.func191 (by kernel_rfl) (by kernel_rfl) (by kernel_rfl) (by kernel_rfl) (k:=.u32) (y:=1) hc' hz'
 go_enter_d Tryz.func161,Tryz.ntmps161
 go_wp2
 go_region_calls
 all_goals (go_end0;exact⟨rfl,rfl⟩)
theorem Bx(a:Addr)(u:FrameMode)(w:World)(hc:w.cell? a=some (.int .i32 1))(hz:w.frozen? a=false):
 CallsD p_ 160 #[.pointer (some a)] u w fun e u' w' => u'=u∧(e=.returned (.tuple #[])∧w'=w.setCell a (.int .i32 0)):=by
 have hd:=disable;have he:=enable;have hr:=releaseMerge;have hadd:=run_call_add (P:=p_) Tryz.func210 (by kernel_rfl) (by kernel_rfl) (by kernel_rfl) .i32 (by kernel_rfl) (y:=-1) (s:=0) hc hz (by simp[go_sem];rfl);have hcv:=run_convert_to_unsafe (P:=p_) (src:=265) (dst:=138) Tryz.underlying265 Tryz.underlying138 (by kernel_rfl) hc
 go_enter_d Tryz.func160,Tryz.ntmps160
 go_wp2
 go_end0
 go_wp2
 go_end0
 exact⟨rfl,rfl⟩
theorem Lj(a:Addr)(w:World)(hc:w.cell? a=some (.int .i32 0))(hz:w.frozen? a=false):
 Calls p_ 159 #[.pointer (some a)] w fun e w' => e=.returned (.tuple #[])∧w'=w.setCell a (.int .i32 1):=by
 have hd:=disable;have he:=enable;have ha:=acquire;have hcas:=run_call_cas_hit (P:=p_) Tryz.func205 (by kernel_rfl) (by kernel_rfl) (by kernel_rfl) .i32 (by kernel_rfl) (y:=1) hc hz;have hc':(w.setCell a (.int .i32 1)).cell? a=some (.int .i32 1):=World.cell?_setCell_same w a _ hc;have hcv:=run_convert_to_unsafe (P:=p_) (src:=265) (dst:=138) Tryz.underlying265 Tryz.underlying138 (by kernel_rfl) hc'
 go_enter Tryz.func159,Tryz.ntmps159
 go_wp2
 first|go_end0|(simp only[Exit.inBlock,Exit.then];refine bodyPost_ret (results_none rfl _ _ _) rfl ?_)|refine bodyPost_ret (results_none rfl _ _ _) rfl ?_
 go_wp2
 go_end0
 exact⟨rfl,rfl⟩
end
section
open Go
set_option maxHeartbeats 4000000
theorem De(a:Addr)(w:World)(hc:w.cell? a=some (.int .u32 0)):Calls p_ 129 #[.pointer (some a)] w fun e w' => e=.returned (.bool false)∧w'=w:=by
 have hl:=run_call_load (P:=p_) Tryz.func158 (by kernel_rfl) (by kernel_rfl) (by kernel_rfl) .u32 (by kernel_rfl) (w:=w) (a:=a) (x:=0) hc
 go_enter Tryz.func129,Tryz.ntmps129
 go_wp2
 go_ret
 exact⟨rfl,rfl⟩
theorem OC(b:Nat)(w:World)(Q:World→Prop)(h0:w.cell? ⟨b,0,none⟩=some (.int .u32 0))(h1:w.cell? ⟨b,0+1,none⟩=some (.int .i32 0))
 (f0:w.frozen? ⟨b,0,none⟩=false) (f1:w.frozen? ⟨b,0+1,none⟩=false)
 (hf:Calls p_ 93 #[.pointer (some ⟨b,0,none⟩)] (w.setCell ⟨b,0+1,none⟩ (.int .i32 1)) fun e w' => e=.returned (.tuple #[])∧(∃x,w'.cell? ⟨b,0,none⟩=some x)∧w'.cell? ⟨b,0+1,none⟩=some (.int .i32 1) ∧
  w'.frozen? ⟨b,0,none⟩=false∧w'.frozen? ⟨b,0+1,none⟩=false∧Q w') :
 Calls p_ 130 #[.pointer (some ⟨b,0,none⟩),.func (.func 93) #[.pointer (some ⟨b,0,none⟩)] #[]] w fun e w'' => e=.returned (.tuple #[]) ∧
  ∃w',Q w'∧w''=(w'.drew.setCell ⟨b,0,none⟩ (.int .u32 1)).setCell ⟨b,0+1,none⟩ (.int .i32 0):=by
 have hl:=run_call_load (P:=p_) Tryz.func158 (by kernel_rfl) (by kernel_rfl) (by kernel_rfl) .u32 (by kernel_rfl) (w:=w.setCell ⟨b,0+1,none⟩ (.int .i32 1)) (a:=⟨b,0,none⟩) (x:=0) ((World.cell?_setCell_other _ ⟨b,0+1,none⟩ ⟨b,0,none⟩ _ (by simp)).trans h0);have hnot:∀(x:Bool) (w:World),(Op.unary .not (.bool x)).run p_ w=.ok (.bool (!x)) w:=fun _ _=>rfl
 go_enter_defers Tryz.func130,Tryz.ntmps130
 go_wp2_with (go_at_call 159;refine (Lj ⟨b,0+1,none⟩ _ (by go_simp) (by go_simp)).mono ?_;rintro e w' ⟨rfl,rfl⟩)
 go_wp2_with (go_at_call 129;refine (De ⟨b,0,none⟩ _ ((World.cell?_setCell_other _ ⟨b,0+1,none⟩ ⟨b,0,none⟩ _ (by simp)).trans h0)).mono ?_;rintro e w' ⟨rfl,rfl⟩)
 go_wp2_with (go_at_call 93;refine hf.mono ?_;rintro e w' ⟨rfl,⟨x,g0⟩,g1,z0,z1,hQ⟩)
 refine leaves_cons (f:=161) (args:=#[.pointer (some ⟨b,0,none⟩),.bool true]) (by simp) (by simp[go_sem]) ((Cu ⟨b,0,none⟩ x .returning _ g0 z0).mono ?_);rintro e u' w'' ⟨rfl,rfl,rfl⟩;refine leaves_cons (f:=160) (args:=#[.pointer (some ⟨b,0+1,none⟩)]) (by simp[settle]) (by simp[go_sem]) ?_;refine (Bx ⟨b,0+1,none⟩ _ _ ?_ (by simp[z1])).mono ?_
 ·refine (World.cell?_setCell_other _ ⟨b,0,none⟩ ⟨b,0+1,none⟩ _ (by simp)).trans ?_;rw[World.cell?_drew];exact g1
 rintro e u' w'' ⟨rfl,rfl,rfl⟩;simp[Leaves,settle,results,Tryz.results130];exact⟨w',hQ,rfl⟩
end
section
open Go.Shelf
theorem uSo0{α:Type}{a b:α}(h:a=b:=by kernel_rfl):some a=some b:=congrArg some h
def lays153_ren:Go.Shelf.Ren:=⟨fun|153=>139|152=>170|226=>171|227=>167|228=>172|137=>72|119=>197|224=>133|225=>132|217=>103|266=>142|n=>n,fun|9=>9|3=>3|4=>4|5=>5|21=>21|117=>226|116=>225|0=>0|46=>188|124=>229|n=>n,fun|n=>n⟩
theorem lays153:Go.Proofs.Lays.n153 p_ lays153_ren:={
 mixed:=by kernel_rfl
 f119:=Tryz.func197.trans uSo0
 f137:=Tryz.func72.trans uSo0
 f152:=Tryz.func170.trans uSo0
 f153:=Tryz.func139.trans uSo0
 f217:=Tryz.func103.trans uSo0
 f224:=Tryz.func133.trans uSo0
 f225:=Tryz.func132.trans uSo0
 f226:=Tryz.func171.trans uSo0
 f227:=Tryz.func167.trans uSo0
 f228:=Tryz.func172.trans uSo0
 f266:=Tryz.func142.trans uSo0
 t0:=Tryz.underlying0
 a0:=Tryz.isAgg0
 z0:=Tryz.sizeOf0
 v0:=Tryz.zeroValue0
 t3:=Tryz.underlying3
 a3:=Tryz.isAgg3
 z3:=Tryz.sizeOf3
 v3:=Tryz.zeroValue3
 t4:=Tryz.underlying4
 a4:=Tryz.isAgg4
 z4:=Tryz.sizeOf4
 v4:=Tryz.zeroValue4
 t5:=Tryz.underlying5
 a5:=Tryz.isAgg5
 z5:=Tryz.sizeOf5
 v5:=Tryz.zeroValue5
 t9:=Tryz.underlying9
 a9:=Tryz.isAgg9
 z9:=Tryz.sizeOf9
 v9:=Tryz.zeroValue9
 t21:=Tryz.underlying21
 a21:=Tryz.isAgg21
 z21:=Tryz.sizeOf21
 v21:=Tryz.zeroValue21
 t46:=Tryz.underlying188
 a46:=Tryz.isAgg188
 z46:=Tryz.sizeOf188
 v46:=Tryz.zeroValue188
 t116:=Tryz.underlying225
 a116:=Tryz.isAgg225
 z116:=Tryz.sizeOf225
 t117:=Tryz.underlying226
 a117:=Tryz.isAgg226
 z117:=Tryz.sizeOf226
 v117:=Tryz.zeroValue226
 t124:=Tryz.underlying229
 a124:=Tryz.isAgg229
 z124:=Tryz.sizeOf229
 v124:=Tryz.zeroValue229 }
open Go.RowKit Go.Lib in
theorem DG(s chars:ByteArray)(w:World)(hs:s.size<4294967281)(hcs:chars.size<4294967281)(has:∀(j:Nat) b,s.data.toList[j]?=some b→b.toNat<128)(hac:∀(j:Nat) b,chars.data.toList[j]?=some b→b.toNat<128):
 Calls p_ 139 #[.string s,.string chars] w fun e w' => e=.returned (.int .i64 (Lib.indexAny s.data.toList chars.data.toList))∧Below w.heap.size w w':=Any.strings_IndexAny_laid lays153 (by kernel_rfl) s chars w hs hcs has hac
end
section
open Go Go.Aw
def PJ(l:List Nat):List AV:=l.map fun n=>.v (.int .u8 (Int.ofNat n))
def OS(l:List Nat):List AV:=l.map fun n=>.v (.int .u64 (Int.ofNat n))
class bq where
 m:Int
 er:Value
 TE:er=.nilIface∨∃te pe,er=.iface te pe
variable [bq]
def J0:Nat→Option (List AV):=fun g=>match g with
 | 1=>some (OS [1,10,100,1000,10000,100000,1000000,10000000,100000000,1000000000,10000000000,100000000000,1000000000000,10000000000000,100000000000000,1000000000000000,10000000000000000,100000000000000000,1000000000000000000,10000000000000000000])
 | 0=>some [i_ bq.m]
 | 7=>some [.v bq.er]
 | 3=>some (PJ [0,1,56,2,57,49,28,3,61,58,42,50,38,29,17,4,62,47,59,36,45,43,51,22,53,39,33,30,24,18,12,5,63,55,48,27,60,41,37,16,46,35,44,21,52,32,23,11,54,26,40,15,34,20,31,10,25,14,19,9,13,8,7,6])
 | _=>none
instance acv:Laid:=⟨J0,fun g cs h=>by
 unfold J0 at h;split at h
 ·cases h;simp[OS,aV,Aw.Pure]
 ·cases h;simp[aV,Aw.Pure]
 ·cases h;simp[aV,Aw.Pure]
 ·cases h;simp[PJ,aV,Aw.Pure]
 ·cases h⟩
end
section
open Go Go.Aw
variable [Laid]
def S8(x0:AV)(h:aa)(K:AV→aa→Prop):Prop:=
 cR x0 fun v1=>ae .gtr v1 (i_ 4000) fun v2=>ag v2 (K (.aA [(.str []),(i_ 28)]) h) (bz p_ (.fn (.func 57) [] []) [] h fun v3 g4=>bz p_ (.fn (.func 58) [] []) [v3,x0] g4 fun v5 g6=>K (.aA [v5,(i_ 0)]) g6)
def Tw:Code:=(Tryz.f42.body).getD .skip
theorem WU(x0:AV):Body p_ 42 [x0] (S8 x0):=⟨Tw,.nil,10,[.tmp 2,.tmp 3],⟨Tryz.f42,Tryz.func42,rfl,by kernel_rfl,by kernel_rfl,by kernel_rfl⟩,by simp,fun h K=>by kernel_rfl⟩
def XM(x0 x1:AV)(h:aa)(K:AV→aa→Prop):Prop:=
 ca p_ x0 fun v1=>bp 0 v1 fun v2=>bz p_ (.fn (.func 92) [] []) [v2,(.fn (.func 93) [x0] [])] h fun v3 g4=>ca p_ x0 fun v5=>bp 3 v5 fun v6=>ak false 1 v6 g4 fun v7=>wV p_ (pd p_ "Replace") v7 [x1] g4 fun v8 g9=>K v8 g9
def c58:Code:=(Tryz.f58.body).getD .skip
theorem V58(x0 x1:AV):Body p_ 58 [x0,x1] (XM x0 x1):=⟨c58,.nil,17,[.tmp 4],⟨Tryz.f58,Tryz.func58,rfl,by kernel_rfl,by kernel_rfl,by kernel_rfl⟩,by simp,fun h K=>by kernel_rfl⟩
def Yf(x0 x1:AV)(h:aa)(K:AV→aa→Prop):Prop:=
 ca p_ x0 fun v1=>bp 0 v1 fun v2=>bz p_ (.fn (.func 129) [] []) [v2] h fun v3 g4=>cq v3 fun v5=>ag v5 (bz p_ (.fn (.func 130) [] []) [x0,x1] g4 fun v6 g7=>K (.aA []) g7) (K (.aA []) g4)
def c92:Code:=(Tryz.f92.body).getD .skip
theorem V92(x0 x1:AV):Body p_ 92 [x0,x1] (Yf x0 x1):=⟨c92,.nil,12,[],⟨Tryz.f92,Tryz.func92,rfl,by kernel_rfl,by kernel_rfl,by kernel_rfl⟩,by simp,fun h K=>by kernel_rfl⟩
def S7(x0 x1:AV)(h:aa)(K:AV→aa→Prop):Prop:=
 ca p_ x0 fun v1=>ak false 1 v1 h fun v2=>mH false 5 1 v2 x1 h fun v3 g4=>ca p_ x0 fun v5=>ao 1 v5 v3 g4 fun g6=>cR x1 fun v7=>K (.aA [v7,(.v .nilIface)]) g6
def Zy:Code:=(Tryz.f282.body).getD .skip
theorem Zm(x0 x1:AV):Body p_ 282 [x0,x1] (S7 x0 x1):=⟨Zy,.nil,15,[.tmp 4,.tmp 5],⟨Tryz.f282,Tryz.func282,rfl,by kernel_rfl,by kernel_rfl,by kernel_rfl⟩,by simp,fun h K=>by kernel_rfl⟩
def S4(x0 x1:AV)(h:aa)(K:AV→aa→Prop):Prop:=
 cR x1 fun v1=>qO 5 1 1 (u8 0) (i_ 0) v1 h fun v2 g3=>aW 320 (.v (.slice none 0 0)) g3 fun v4 g5=>ao 1 v4 v2 g5 fun g6=>oZ 321 v4 fun v7=>bz p_ (.fn (.func 267) [] []) [x0,v7,x1] g6 fun v8 g9=>ak false 1 v4 g9 fun v10=>cJ v10 g9 fun v11=>K v11 g9
def Zu:Code:=(Tryz.f266.body).getD .skip
theorem Zj(x0 x1:AV):Body p_ 266 [x0,x1] (S4 x0 x1):=⟨Zu,.nil,15,[.tmp 4],⟨Tryz.f266,Tryz.func266,rfl,by kernel_rfl,by kernel_rfl,by kernel_rfl⟩,by simp,fun h K=>by kernel_rfl⟩
def S5(x0 x1 x2:AV)(h:aa)(K:AV→aa→Prop):Prop:=
 bz p_ (.fn (.func 268) [] []) [x1] h fun v1 g2=>bL [(i_ 0),(.v .nilIface),(i_ 0),ff,(i_ 0)] g2 fun N3 s4 g5 =>
 /- n err last prevMatchEmpty i -/ cR x2 fun v6=>ae .leq (nx s4 4) v6 fun v7=>ag v7 (aw (fun J8=>cR x2 fun v9=>ae .neq (nx s4 4) v9 fun v10=>aw (fun J11=>ar v10 true (ca p_ x0 fun v12=>bp 0 v12 fun v13=>bp 1 v13 fun v14=>ak false 1 v14 g5 fun v15=>ae .eql v15 (i_ 0) fun v16=>[x0,x2,(nx s4 0),(nx s4 1),v1,(nx s4 2),(nx s4 3),(nx s4 4)]=[x0,x2,(nx s4 0),(nx s4 1),v1,(nx s4 2),(nx s4 3),(nx s4 4)]∧J11 [tt,v16] g5) ([x0,x2,(nx s4 0),(nx s4 1),v1,(nx s4 2),(nx s4 3),(nx s4 4)]=[x0,x2,(nx s4 0),(nx s4 1),v1,(nx s4 2),(nx s4 3),(nx s4 4)]∧J11 [(aN true v10),un] g5)) fun s17 g18=>aI (nx s17 0) (nx s17 1) ff fun v19=>ag v19 (dH x2 (nx s4 4) fun v20=>ca p_ x0 fun v21=>bp 6 v21 fun v22=>eR 256 1 v22 v20 fun v23=>ak false 1 v23 g18 fun v24=>cy .i64 v24 fun v25=>ca p_ x0 fun v26=>bp 5 v26 fun v27=>ak false 1 v27 g18 fun v28=>ae .eql v25 v28 fun v29=>aw (fun J30=>ar v29 false (ca p_ x0 fun v31=>bp 0 v31 fun v32=>bp 4 v32 fun v33=>ak false 1 v33 g18 fun v34=>aQ 1 v34 v25 fun v35=>ak false 1 v35 g18 fun v36=>kB false (tp v36) fun v37=>[x0,x2,(nx s4 0),(nx s4 1),v1,(nx s4 2),(nx s4 3),(nx s4 4)]=[x0,x2,(nx s4 0),(nx s4 1),v1,(nx s4 2),(nx s4 3),(nx s4 4)]∧J30 [ff,v37] g18) ([x0,x2,(nx s4 0),(nx s4 1),v1,(nx s4 2),(nx s4 3),(nx s4 4)]=[x0,x2,(nx s4 0),(nx s4 1),v1,(nx s4 2),(nx s4 3),(nx s4 4)]∧J30 [(aN false v29),un] g18)) fun s38 g39=>aI (nx s38 0) tt (nx s38 1) fun v40=>ag v40 (ae .add (nx s4 4) (i_ 1) fun v41=>[x0,x2,v1]=[x0,x2,v1]∧N3 [(nx s4 0),(nx s4 1),(nx s4 2),(nx s4 3),v41] g39) ([x0,x2,(nx s4 0),(nx s4 1),v1,(nx s4 2),(nx s4 3)]=[x0,x2,(nx s4 0),(nx s4 1),v1,(nx s4 2),(nx s4 3)]∧J8 [(nx s4 4)] g39)) ([x0,x2,(nx s4 0),(nx s4 1),v1,(nx s4 2),(nx s4 3)]=[x0,x2,(nx s4 0),(nx s4 1),v1,(nx s4 2),(nx s4 3)]∧J8 [(nx s4 4)] g18)) fun s42 g43=>eN x2 (some (nx s42 0)) none fun v44=>bz p_ (.fn (.func 269) [] []) [x0,v44,(nx s4 3)] g43 fun v45 g46=>aU 0 v45 fun v47=>aU 1 v45 fun v48=>aU 2 v45 fun v49=>aw (fun J50=>ar v49 true (ae .eql v48 (i_ 0) fun v51=>[x0,x2,(nx s4 0),(nx s4 1),v1,(nx s4 2),(nx s42 0),v47,v48,v49]=[x0,x2,(nx s4 0),(nx s4 1),v1,(nx s4 2),(nx s42 0),v47,v48,v49]∧J50 [tt,v51] g46) ([x0,x2,(nx s4 0),(nx s4 1),v1,(nx s4 2),(nx s42 0),v47,v48,v49]=[x0,x2,(nx s4 0),(nx s4 1),v1,(nx s4 2),(nx s42 0),v47,v48,v49]∧J50 [(aN true v49),un] g46)) fun s52 g53=>aI (nx s52 0) (nx s52 1) ff fun v54=>ag v49 (eN x2 (some (nx s4 2)) (some (nx s42 0)) fun v55=>ca p_ (.fn (.method "WriteString") [v1] []) fun v56=>wV p_ (pd p_ "WriteString") v1 [v55] g53 fun v57 g58=>aU 0 v57 fun v59=>aU 1 v57 fun v60=>ae .add (nx s4 0) v59 fun v61=>kB true (vu v60) fun v62=>ag v62 (K (.aA [v61,v60]) g58) (wV p_ (pd p_ "WriteString") v1 [v47] g58 fun v63 g64=>aU 0 v63 fun v65=>aU 1 v63 fun v66=>ae .add v61 v65 fun v67=>kB true (vu v66) fun v68=>ag v68 (K (.aA [v67,v66]) g64) (ae .add (nx s42 0) v48 fun v69=>[x0,x2,v1]=[x0,x2,v1]∧N3 [v67,v66,v69,v54,v69] g64))) (ae .add (nx s42 0) (i_ 1) fun v70=>[x0,x2,v1]=[x0,x2,v1]∧N3 [(nx s4 0),(nx s4 1),(nx s4 2),v54,v70] g53)) (cR x2 fun v71=>ae .neq (nx s4 2) v71 fun v72=>ag v72 (eN x2 (some (nx s4 2)) none fun v73=>ca p_ (.fn (.method "WriteString") [v1] []) fun v74=>wV p_ (pd p_ "WriteString") v1 [v73] g5 fun v75 g76=>aU 0 v75 fun v77=>aU 1 v75 fun v78=>ae .add (nx s4 0) v77 fun v79=>K (.aA [v79,v78]) g76) (K (.aA [(nx s4 0),(nx s4 1)]) g5))
def Zv:Code:=(Tryz.f267.body).getD .skip
theorem Zk(x0 x1 x2:AV):Body p_ 267 [x0,x1,x2] (S5 x0 x1 x2):=⟨Zv,(.seq .nil (.seq .nil (.seq .nil (.seq .nil (.seq (.seq .nil (.one (.loop [0,2,8] [6,7,9,11,12] (.seq .nil (.one (.join [0,2,6,7,8,9,11] [12] (.seq (.aR [.op 0 false,.op 1 false,.op 2 false,.op 3 false,.op 4 false,.aD 4 true [(5,false),(6,false),(7,false),(8,false),(9,false),(10,false)] [0,2,6,7,8,9,11,12] [27,33],.op 11 false]) (.two (.seq (.draw 10 [.op 0 false,.op 1 false,.op 2 false,.op 3 false,.op 4 false,.op 5 false,.op 6 false,.op 7 false,.op 8 false,.op 9 false] [] []) (.seq (.aR [.op 0 false,.op 1 false,.op 2 false,.op 3 false,.op 4 false,.op 5 false,.op 6 false,.aD 6 false [(7,false),(8,false),(9,false),(10,false),(11,false),(12,false),(13,false),(14,false),(15,false)] [0,2,6,7,8,9,11,12] [50,59],.op 16 false]) .nil)) .nil)) (.seq .nil (.seq (.aR [.op 0 false,.op 1 false,.aD 1 true [(2,false),(3,false)] [0,2,6,7,8,9,12,14,15,16] [74,76],.op 4 false,.op 5 false]) (.seq (.seq .nil (.two (.seq (.draw 8 [.op 0 false,.op 1 false,.op 2 false,.op 3 false,.op 4 false,.op 5 false,.op 6 false,.op 7 false] [.op 8 false,.op 9 false] [.op 10 false,.op 11 false,.op 12 false,.op 13 false]) .nil) .nil)) .nil))))))))) (.seq (.seq .nil (.two (.seq (.draw 7 [.op 0 false,.op 1 false,.op 2 false,.op 3 false,.op 4 false,.op 5 false,.op 6 false] [.op 7 false,.op 8 false] [.op 9 false,.op 10 false,.op 11 false,.op 12 false]) .nil) .nil)) .nil)))))),131,[.tmp 6,.tmp 7],⟨Tryz.f267,Tryz.func267,rfl,by kernel_rfl,by kernel_rfl,by kernel_rfl⟩,by simp,fun h K=>by kernel_rfl⟩
def S6(x0:AV)(h:aa)(K:AV→aa→Prop):Prop:=
 zC (EY p_ 325) x0 fun v1=>aU 0 v1 fun v2=>aU 1 v1 fun v3=>cq v3 fun v4=>ag v4 (aY (.agg [(.v .nilIface)]) [(0,1,x0)] fun v5=>oZ 331 v5 fun v6=>K v6 h) (K v2 h)
def Zw:Code:=(Tryz.f268.body).getD .skip
theorem Zl(x0:AV):Body p_ 268 [x0] (S6 x0):=⟨Zw,.nil,16,[.tmp 2],⟨Tryz.f268,Tryz.func268,rfl,by kernel_rfl,by kernel_rfl,by kernel_rfl⟩,by simp,fun h K=>by kernel_rfl⟩
def BH(x0 x1 x2:AV)(h:aa)(K:AV→aa→Prop):Prop:=
 ca p_ x0 fun v1=>bp 0 v1 fun v2=>bL [x1,(.str []),(i_ 0),ff,(i_ 0),v2,(i_ 0)] h fun N3 s4 g5 =>
 /- s val keylen found bestPriority node n -/ kB true (tp (nx s4 5)) fun v6=>ag v6 (aw (fun J7=>ca p_ (nx s4 5) fun v8=>bp 1 v8 fun v9=>ak false 1 v9 g5 fun v10=>ae .gtr v10 (nx s4 4) fun v11=>aw (fun J12=>ar v11 true ([x0,(nx s4 0),x2,(nx s4 1),(nx s4 2),(nx s4 3),(nx s4 4),(nx s4 5),(nx s4 6)]=[x0,(nx s4 0),x2,(nx s4 1),(nx s4 2),(nx s4 3),(nx s4 4),(nx s4 5),(nx s4 6)]∧J12 [tt,x2] g5) ([x0,(nx s4 0),x2,(nx s4 1),(nx s4 2),(nx s4 3),(nx s4 4),(nx s4 5),(nx s4 6)]=[x0,(nx s4 0),x2,(nx s4 1),(nx s4 2),(nx s4 3),(nx s4 4),(nx s4 5),(nx s4 6)]∧J12 [(aN true v11),un] g5)) fun s13 g14=>aw (fun J15=>ar (nx s13 1) true (ca p_ x0 fun v16=>bp 0 v16 fun v17=>False) ([x0,(nx s4 0),x2,(nx s4 1),(nx s4 2),(nx s4 3),(nx s4 4),(nx s4 5),(nx s4 6),(nx s13 0)]=[x0,(nx s4 0),x2,(nx s4 1),(nx s4 2),(nx s4 3),(nx s4 4),(nx s4 5),(nx s4 6),(nx s13 0)]∧J15 [(aN true (nx s13 1)),un] g14)) fun s18 g19=>aw (fun J20=>ar (nx s13 0) true (aI (nx s18 0) (nx s18 1) ff fun v21=>cq v21 fun v22=>[x0,(nx s4 0),x2,(nx s4 1),(nx s4 2),(nx s4 3),(nx s4 4),(nx s4 5),(nx s4 6)]=[x0,(nx s4 0),x2,(nx s4 1),(nx s4 2),(nx s4 3),(nx s4 4),(nx s4 5),(nx s4 6)]∧J20 [tt,v22] g19) ([x0,(nx s4 0),x2,(nx s4 1),(nx s4 2),(nx s4 3),(nx s4 4),(nx s4 5),(nx s4 6)]=[x0,(nx s4 0),x2,(nx s4 1),(nx s4 2),(nx s4 3),(nx s4 4),(nx s4 5),(nx s4 6)]∧J20 [(aN true (nx s13 0)),un] g19)) fun s23 g24=>aI (nx s23 0) (nx s23 1) ff fun v25=>ag v25 (ca p_ (nx s4 5) fun v26=>bp 1 v26 fun v27=>ak false 1 v27 g24 fun v28=>ca p_ (nx s4 5) fun v29=>bp 0 v29 fun v30=>ak false 1 v30 g24 fun v31=>[x0,(nx s4 0),x2,(nx s4 5),(nx s4 6)]=[x0,(nx s4 0),x2,(nx s4 5),(nx s4 6)]∧J7 [v31,(nx s4 6),tt,v28] g24) ([x0,(nx s4 0),x2,(nx s4 5),(nx s4 6)]=[x0,(nx s4 0),x2,(nx s4 5),(nx s4 6)]∧J7 [(nx s4 1),(nx s4 2),(nx s4 3),(nx s4 4)] g24)) fun s32 g33=>ae .eql (nx s4 0) (.str []) fun v34=>ag v34 (K (.aA [(nx s32 0),(nx s32 1),(nx s32 2)]) g33) (ca p_ (nx s4 5) fun v35=>bp 4 v35 fun v36=>ak false 1 v36 g33 fun v37=>kB true (vv v37) fun v38=>ag v38 (dH (nx s4 0) (i_ 0) fun v39=>ca p_ x0 fun v40=>bp 6 v40 fun v41=>eR 256 1 v41 v39 fun v42=>ak false 1 v42 g33 fun v43=>cy .i64 v43 fun v44=>ca p_ x0 fun v45=>bp 5 v45 fun v46=>ak false 1 v46 g33 fun v47=>ae .eql v44 v47 fun v48=>ag v48 (K (.aA [(nx s32 0),(nx s32 1),(nx s32 2)]) g33) (ca p_ (nx s4 5) fun v49=>bp 4 v49 fun v50=>ak false 1 v50 g33 fun v51=>aQ 1 v51 v43 fun v52=>ak false 1 v52 g33 fun v53=>eN (nx s4 0) (some (i_ 1)) none fun v54=>ae .add (nx s4 6) (i_ 1) fun v55=>[x0,x2]=[x0,x2]∧N3 [v54,(nx s32 0),(nx s32 1),(nx s32 2),(nx s32 3),v53,v55] g33)) (ca p_ (nx s4 5) fun v56=>bp 2 v56 fun v57=>ak false 1 v57 g33 fun v58=>ae .neq v58 (.str []) fun v59=>aw (fun J60=>ar v59 true (ca p_ (nx s4 5) fun v61=>bp 2 v61 fun v62=>ak false 1 v62 g33 fun v63=>bz p_ (.fn (.func 59) [] []) [(nx s4 0),v63] g33 fun v64 g65=>[x0,(nx s4 0),x2,(nx s32 0),(nx s32 1),(nx s32 2),(nx s32 3),(nx s4 5),(nx s4 6)]=[x0,(nx s4 0),x2,(nx s32 0),(nx s32 1),(nx s32 2),(nx s32 3),(nx s4 5),(nx s4 6)]∧J60 [tt,v64] g65) ([x0,(nx s4 0),x2,(nx s32 0),(nx s32 1),(nx s32 2),(nx s32 3),(nx s4 5),(nx s4 6)]=[x0,(nx s4 0),x2,(nx s32 0),(nx s32 1),(nx s32 2),(nx s32 3),(nx s4 5),(nx s4 6)]∧J60 [(aN true v59),un] g33)) fun s66 g67=>aI (nx s66 0) (nx s66 1) ff fun v68=>ag v68 (ca p_ (nx s4 5) fun v69=>bp 2 v69 fun v70=>ak false 1 v70 g67 fun v71=>cR v71 fun v72=>ae .add (nx s4 6) v72 fun v73=>ca p_ (nx s4 5) fun v74=>bp 2 v74 fun v75=>ak false 1 v75 g67 fun v76=>cR v76 fun v77=>eN (nx s4 0) (some v77) none fun v78=>ca p_ (nx s4 5) fun v79=>bp 3 v79 fun v80=>ak false 1 v80 g67 fun v81=>[x0,x2]=[x0,x2]∧N3 [v78,(nx s32 0),(nx s32 1),(nx s32 2),(nx s32 3),v81,v73] g67) (K (.aA [(nx s32 0),(nx s32 1),(nx s32 2)]) g67)))) (K (.aA [(nx s4 1),(nx s4 2),(nx s4 3)]) g5)
def Zx:Code:=(Tryz.f269.body).getD .skip
theorem Ef(x0 x1 x2:AV):Body p_ 269 [x0,x1,x2] (BH x0 x1 x2):=⟨Zx,(.seq .nil (.seq .nil (.seq .nil (.seq .nil (.seq (.one (.loop [0,2] [1,6,7,8,9,10,11] (.seq .nil (.one (.join [0,1,2,10,11] [6,7,8,9] (.seq (.aR [.op 0 false,.op 1 false,.op 2 false,.op 3 false,.op 4 false,.op 5 false,.op 6 false,.aD 6 true [(7,false),(8,false)] [0,1,2,6,7,8,9,10,11] [24,26],.aD 8 true [(9,false),(10,false),(11,false),(12,false),(13,false)] [0,1,2,6,7,8,9,10,11,24] [26,31],.aD 6 true [(14,false),(15,false)] [0,1,2,6,7,8,9,10,11] [24,33],.op 16 false]) .nil) (.seq .nil (.seq .nil (.two (.seq (.draw 8 [.op 0 false,.op 1 false,.op 2 false,.op 3 false,.op 4 false,.op 5 false,.op 6 false,.op 7 false] [] []) .nil) (.seq (.aR [.op 0 false,.op 1 false,.op 2 false,.op 3 false,.op 4 false,.op 5 false,.aD 5 true [(6,false),(7,false),(8,false),(9,false),(10,false),(11,false)] [0,1,2,6,7,8,9,10,11] [81,87],.op 12 false]) .nil))))))))) .nil))))),107,[.tmp 6,.tmp 7,.tmp 8],⟨Tryz.f269,Tryz.func269,rfl,by kernel_rfl,by kernel_rfl,by kernel_rfl⟩,by simp,fun h K=>by kernel_rfl⟩
end
section
open Go Go.Aw
def fu:List Nat:=[0]++List.replicate 9 4++[1,4,2,3]++List.replicate 242 4
def rb:List AV:=.str []:: i_ 0:: .str []:: .v (.pointer none):: .own 4 0 4 1:: i_ 4:: fu.map fun n=>.v (.int .u8 (Int.ofNat n))
def tb:List AV:=[.op 8 0,.v (.pointer none),.op 7 0,.op 5 0]
def e0:aL:=.ah ⟨9,[.str [13,10],.str [10],.str [13],.str [10],.str [12],.str [10],.str [0],.str [239,191,189]],true⟩
def e1:aL:=.tok 9 1 8
def tq(once mu:Int)(r s:AV):jH:=⟨162,[.v (.int .u32 once),.v (.int .i32 mu),.v (.int .u32 0),r,s],true⟩
def keys:AV:=.sb 1 1 [[.str [13,10]],[.str [10]],[.str [13]],[.str [10]],[.str [12]],[.str [10]],[.str [0]],[.str [239,191,189]]]
def PF:aa:=[.ah ⟨250,[.str [10],i_ 6,.str [10],.op 6 0,.v (.slice none 0 0)],true⟩,.ah ⟨250,[.str [10],i_ 8,.str [],.v (.pointer none),.v (.slice none 0 0)],true⟩,.ah ⟨250,[.str [10],i_ 4,.str [],.v (.pointer none),.v (.slice none 0 0)],true⟩,.ah ⟨250,[.str [239,191,189],i_ 2,.str [],.v (.pointer none),.v (.slice none 0 0)],true⟩]
def Hb(mu:Int):aa:=[e0,e1,.ah (tq 0 mu (.v .nilIface) keys)]
def Ha(once mu:Int):aa:=e0:: e1:: .ah (tq once mu (.gV 212 (.op 3 0)) (.v (.slice none 0 0))):: .ah ⟨252,rb,true⟩:: .ah ⟨247,tb,true⟩:: PF
end
section
open Go Go.Aw
variable [Laid]
def XL(h:aa)(K:AV→aa→Prop):Prop:=
 ou 9 8 1 (.str []) [(0,1,(.str [13,10])),(1,1,(.str [10])),(2,1,(.str [13])),(3,1,(.str [10])),(4,1,(.str [12])),(5,1,(.str [10])),(6,1,(.str [0])),(7,1,(.str [239,191,189]))] h fun a b=>iC p_ 91 [a] b fun c d=>K c d
theorem V57:Body p_ 57 [] (XL):=bB Tryz.func57 .nil 3 [.tmp 0]
def Ye(x0:AV)(h:aa)(K:AV→aa→Prop):Prop:=
 aw (fun a=>bu x0 fun b=>qBe .rem b 2 fun c=>qBe .eql c 1 fun d=>ag d (oZ 9 (.str [115,116,114,105,110,103,115,46,78,101,119,82,101,112,108,97,99,101,114,58,32,111,100,100,32,97,114,103,117,109,101,110,116,32,99,111,117,110,116]) fun l=>False) (eC [x0] (a [] h))) fun m e=>bP false 9 1 16 qNs x0 e fun f g=>aY (.agg [.v (.int .u32 0),.v (.int .i32 0),.v (.int .u32 0),(.v .nilIface),qNs]) [(4,1,f)] fun i=>aW 162 i g fun j k=>K j k
theorem V91(x0:AV):Body p_ 91 [x0] (Ye x0):=bB Tryz.func91 (sn (.join [0] [] .nil .nil)) 12 [.tmp 2]
def Yg(x0:AV)(h:aa)(K:AV→aa→Prop):Prop:=
 iC p_ 131 [x0] h fun a b=>qSt p_ x0 3 a b fun c=>qSt p_ x0 4 qNs c fun d=>K (.aA []) d
theorem V93(x0:AV):Body p_ 93 [x0] (Yg x0):=bB Tryz.func93 .nil 10 []
def Sz(x0:AV)(h:aa)(K:AV→aa→Prop):Prop:=
 qLd p_ x0 4 h fun a=>bu a fun s=>qBe .eql s 2 fun t=>qJa t [a] h (fun u=>aQ 1 a (i_ 0) fun v=>ak false 1 v h fun w=>cR w fun x=>qBe .gtr x 1 fun y=>u y h) fun z i=>ag z (aQ 1 a (i_ 0) fun A=>ak false 1 A i fun B=>aQ 1 a (i_ 1) fun C=>ak false 1 C i fun D=>iQ p_ 162 [B,D] i fun E=>oZ 210 E fun F=>K F i) (bL [tt,i_ 0] i fun G c d =>
 bu a fun H=>ae .lss (nx c 1) H fun I=>ag I (aw (fun o=>aQ 1 a (nx c 1) fun J=>ak false 1 J d fun L=>cR L fun M=>qBe .neq M 1 fun N=>ag N (iC p_ 163 [a] d fun O P=>oZ 212 O fun Q=>K Q P) (qBe .add (nx c 1) 1 fun R=>aQ 1 a R fun S=>ak false 1 S d fun T=>cR T fun U=>qBe .neq U 1 fun V=>ag V (eC [a,nx c 1] (o [ff] d)) (eC [a,nx c 1] (o [nx c 0] d)))) fun W X=>qBe .add (nx c 1) 2 fun Y=>eC [a] (G [nx W 0,Y] X)) (ag (nx c 0) (aY (.agg [u8 0,u8 0,u8 0,u8 0,u8 0,u8 0,u8 0,u8 0,u8 0,u8 0,u8 0,u8 0,u8 0,u8 0,u8 0,u8 0,u8 0,u8 0,u8 0,u8 0,u8 0,u8 0,u8 0,u8 0,u8 0,u8 0,u8 0,u8 0,u8 0,u8 0,u8 0,u8 0,u8 0,u8 0,u8 0,u8 0,u8 0,u8 0,u8 0,u8 0,u8 0,u8 0,u8 0,u8 0,u8 0,u8 0,u8 0,u8 0,u8 0,u8 0,u8 0,u8 0,u8 0,u8 0,u8 0,u8 0,u8 0,u8 0,u8 0,u8 0,u8 0,u8 0,u8 0,u8 0,u8 0,u8 0,u8 0,u8 0,u8 0,u8 0,u8 0,u8 0,u8 0,u8 0,u8 0,u8 0,u8 0,u8 0,u8 0,u8 0,u8 0,u8 0,u8 0,u8 0,u8 0,u8 0,u8 0,u8 0,u8 0,u8 0,u8 0,u8 0,u8 0,u8 0,u8 0,u8 0,u8 0,u8 0,u8 0,u8 0,u8 0,u8 0,u8 0,u8 0,u8 0,u8 0,u8 0,u8 0,u8 0,u8 0,u8 0,u8 0,u8 0,u8 0,u8 0,u8 0,u8 0,u8 0,u8 0,u8 0,u8 0,u8 0,u8 0,u8 0,u8 0,u8 0,u8 0,u8 0,u8 0,u8 0,u8 0,u8 0,u8 0,u8 0,u8 0,u8 0,u8 0,u8 0,u8 0,u8 0,u8 0,u8 0,u8 0,u8 0,u8 0,u8 0,u8 0,u8 0,u8 0,u8 0,u8 0,u8 0,u8 0,u8 0,u8 0,u8 0,u8 0,u8 0,u8 0,u8 0,u8 0,u8 0,u8 0,u8 0,u8 0,u8 0,u8 0,u8 0,u8 0,u8 0,u8 0,u8 0,u8 0,u8 0,u8 0,u8 0,u8 0,u8 0,u8 0,u8 0,u8 0,u8 0,u8 0,u8 0,u8 0,u8 0,u8 0,u8 0,u8 0,u8 0,u8 0,u8 0,u8 0,u8 0,u8 0,u8 0,u8 0,u8 0,u8 0,u8 0,u8 0,u8 0,u8 0,u8 0,u8 0,u8 0,u8 0,u8 0,u8 0,u8 0,u8 0,u8 0,u8 0,u8 0,u8 0,u8 0,u8 0,u8 0,u8 0,u8 0,u8 0,u8 0,u8 0,u8 0,u8 0,u8 0,u8 0,u8 0,u8 0,u8 0,u8 0,u8 0,u8 0,u8 0,u8 0,u8 0,u8 0,u8 0,u8 0,u8 0,u8 0,u8 0,u8 0,u8 0,u8 0,u8 0,u8 0,u8 0,u8 0,u8 0,u8 0,u8 0,u8 0,u8 0,u8 0,u8 0]) [] fun Z=>aW 215 (.agg [u8 0,u8 0,u8 0,u8 0,u8 0,u8 0,u8 0,u8 0,u8 0,u8 0,u8 0,u8 0,u8 0,u8 0,u8 0,u8 0,u8 0,u8 0,u8 0,u8 0,u8 0,u8 0,u8 0,u8 0,u8 0,u8 0,u8 0,u8 0,u8 0,u8 0,u8 0,u8 0,u8 0,u8 0,u8 0,u8 0,u8 0,u8 0,u8 0,u8 0,u8 0,u8 0,u8 0,u8 0,u8 0,u8 0,u8 0,u8 0,u8 0,u8 0,u8 0,u8 0,u8 0,u8 0,u8 0,u8 0,u8 0,u8 0,u8 0,u8 0,u8 0,u8 0,u8 0,u8 0,u8 0,u8 0,u8 0,u8 0,u8 0,u8 0,u8 0,u8 0,u8 0,u8 0,u8 0,u8 0,u8 0,u8 0,u8 0,u8 0,u8 0,u8 0,u8 0,u8 0,u8 0,u8 0,u8 0,u8 0,u8 0,u8 0,u8 0,u8 0,u8 0,u8 0,u8 0,u8 0,u8 0,u8 0,u8 0,u8 0,u8 0,u8 0,u8 0,u8 0,u8 0,u8 0,u8 0,u8 0,u8 0,u8 0,u8 0,u8 0,u8 0,u8 0,u8 0,u8 0,u8 0,u8 0,u8 0,u8 0,u8 0,u8 0,u8 0,u8 0,u8 0,u8 0,u8 0,u8 0,u8 0,u8 0,u8 0,u8 0,u8 0,u8 0,u8 0,u8 0,u8 0,u8 0,u8 0,u8 0,u8 0,u8 0,u8 0,u8 0,u8 0,u8 0,u8 0,u8 0,u8 0,u8 0,u8 0,u8 0,u8 0,u8 0,u8 0,u8 0,u8 0,u8 0,u8 0,u8 0,u8 0,u8 0,u8 0,u8 0,u8 0,u8 0,u8 0,u8 0,u8 0,u8 0,u8 0,u8 0,u8 0,u8 0,u8 0,u8 0,u8 0,u8 0,u8 0,u8 0,u8 0,u8 0,u8 0,u8 0,u8 0,u8 0,u8 0,u8 0,u8 0,u8 0,u8 0,u8 0,u8 0,u8 0,u8 0,u8 0,u8 0,u8 0,u8 0,u8 0,u8 0,u8 0,u8 0,u8 0,u8 0,u8 0,u8 0,u8 0,u8 0,u8 0,u8 0,u8 0,u8 0,u8 0,u8 0,u8 0,u8 0,u8 0,u8 0,u8 0,u8 0,u8 0,u8 0,u8 0,u8 0,u8 0,u8 0,u8 0,u8 0,u8 0,u8 0,u8 0,u8 0,u8 0,u8 0,u8 0,u8 0,u8 0,u8 0,u8 0,u8 0,u8 0,u8 0,u8 0,u8 0,u8 0,u8 0,u8 0,u8 0,u8 0,u8 0,u8 0,u8 0,u8 0,u8 0,u8 0]) d fun f a0=>ao 256 f Z a0 fun a1=>bL [i_ 0] a1 fun a2 k p =>
 qBe .lss (nx k 0) 256 fun a3=>ag a3 (cy .u8 (nx k 0) fun a4=>eR 256 1 f (nx k 0) fun a5=>ao 1 a5 a4 p fun a6=>qBe .add (nx k 0) 1 fun a7=>eC [a,f] (a2 [a7] a6)) (bu a fun a8=>qBe .sub a8 2 fun a9=>bL [a9] p fun b0 l m =>
 qBe .geq (nx l 0) 0 fun b1=>ag b1 (aQ 1 a (nx l 0) fun b2=>ak false 1 b2 m fun b3=>dH b3 (i_ 0) fun b4=>qBe .add (nx l 0) 1 fun b5=>aQ 1 a b5 fun b6=>ak false 1 b6 m fun b7=>dH b7 (i_ 0) fun b8=>eR 256 1 f b4 fun b9=>ao 1 b9 b8 m fun c0=>qBe .sub (nx l 0) 2 fun c1=>eC [a,f] (b0 [c1] c0)) (oZ 216 f fun c2=>K c2 m))) (bu a fun c3=>qBe .quo c3 2 fun c4=>qO 9 1 16 (.str []) (i_ 0) c4 d fun c5 c6=>aY (.agg [qNs,qNs,qNs,qNs,qNs,qNs,qNs,qNs,qNs,qNs,qNs,qNs,qNs,qNs,qNs,qNs,qNs,qNs,qNs,qNs,qNs,qNs,qNs,qNs,qNs,qNs,qNs,qNs,qNs,qNs,qNs,qNs,qNs,qNs,qNs,qNs,qNs,qNs,qNs,qNs,qNs,qNs,qNs,qNs,qNs,qNs,qNs,qNs,qNs,qNs,qNs,qNs,qNs,qNs,qNs,qNs,qNs,qNs,qNs,qNs,qNs,qNs,qNs,qNs,qNs,qNs,qNs,qNs,qNs,qNs,qNs,qNs,qNs,qNs,qNs,qNs,qNs,qNs,qNs,qNs,qNs,qNs,qNs,qNs,qNs,qNs,qNs,qNs,qNs,qNs,qNs,qNs,qNs,qNs,qNs,qNs,qNs,qNs,qNs,qNs,qNs,qNs,qNs,qNs,qNs,qNs,qNs,qNs,qNs,qNs,qNs,qNs,qNs,qNs,qNs,qNs,qNs,qNs,qNs,qNs,qNs,qNs,qNs,qNs,qNs,qNs,qNs,qNs,qNs,qNs,qNs,qNs,qNs,qNs,qNs,qNs,qNs,qNs,qNs,qNs,qNs,qNs,qNs,qNs,qNs,qNs,qNs,qNs,qNs,qNs,qNs,qNs,qNs,qNs,qNs,qNs,qNs,qNs,qNs,qNs,qNs,qNs,qNs,qNs,qNs,qNs,qNs,qNs,qNs,qNs,qNs,qNs,qNs,qNs,qNs,qNs,qNs,qNs,qNs,qNs,qNs,qNs,qNs,qNs,qNs,qNs,qNs,qNs,qNs,qNs,qNs,qNs,qNs,qNs,qNs,qNs,qNs,qNs,qNs,qNs,qNs,qNs,qNs,qNs,qNs,qNs,qNs,qNs,qNs,qNs,qNs,qNs,qNs,qNs,qNs,qNs,qNs,qNs,qNs,qNs,qNs,qNs,qNs,qNs,qNs,qNs,qNs,qNs,qNs,qNs,qNs,qNs,qNs,qNs,qNs,qNs,qNs,qNs,qNs,qNs,qNs,qNs,qNs,qNs,qNs,qNs,qNs,qNs,qNs,qNs,qNs,qNs,qNs,qNs,qNs,qNs,qNs]) [(256,1,c5)] fun c7=>aW 219 (.agg [qNs,qNs,qNs,qNs,qNs,qNs,qNs,qNs,qNs,qNs,qNs,qNs,qNs,qNs,qNs,qNs,qNs,qNs,qNs,qNs,qNs,qNs,qNs,qNs,qNs,qNs,qNs,qNs,qNs,qNs,qNs,qNs,qNs,qNs,qNs,qNs,qNs,qNs,qNs,qNs,qNs,qNs,qNs,qNs,qNs,qNs,qNs,qNs,qNs,qNs,qNs,qNs,qNs,qNs,qNs,qNs,qNs,qNs,qNs,qNs,qNs,qNs,qNs,qNs,qNs,qNs,qNs,qNs,qNs,qNs,qNs,qNs,qNs,qNs,qNs,qNs,qNs,qNs,qNs,qNs,qNs,qNs,qNs,qNs,qNs,qNs,qNs,qNs,qNs,qNs,qNs,qNs,qNs,qNs,qNs,qNs,qNs,qNs,qNs,qNs,qNs,qNs,qNs,qNs,qNs,qNs,qNs,qNs,qNs,qNs,qNs,qNs,qNs,qNs,qNs,qNs,qNs,qNs,qNs,qNs,qNs,qNs,qNs,qNs,qNs,qNs,qNs,qNs,qNs,qNs,qNs,qNs,qNs,qNs,qNs,qNs,qNs,qNs,qNs,qNs,qNs,qNs,qNs,qNs,qNs,qNs,qNs,qNs,qNs,qNs,qNs,qNs,qNs,qNs,qNs,qNs,qNs,qNs,qNs,qNs,qNs,qNs,qNs,qNs,qNs,qNs,qNs,qNs,qNs,qNs,qNs,qNs,qNs,qNs,qNs,qNs,qNs,qNs,qNs,qNs,qNs,qNs,qNs,qNs,qNs,qNs,qNs,qNs,qNs,qNs,qNs,qNs,qNs,qNs,qNs,qNs,qNs,qNs,qNs,qNs,qNs,qNs,qNs,qNs,qNs,qNs,qNs,qNs,qNs,qNs,qNs,qNs,qNs,qNs,qNs,qNs,qNs,qNs,qNs,qNs,qNs,qNs,qNs,qNs,qNs,qNs,qNs,qNs,qNs,qNs,qNs,qNs,qNs,qNs,qNs,qNs,qNs,qNs,qNs,qNs,qNs,qNs,qNs,qNs,qNs,qNs,qNs,qNs,qNs,qNs,qNs,qNs,qNs,qNs,qNs,qNs,qNs]) c6 fun b c8=>ao 257 b c7 c8 fun c9=>bu a fun d0=>qBe .sub d0 2 fun d1=>bL [d1] c9 fun d2 g e =>
 qBe .geq (nx g 0) 0 fun d3=>ag d3 (aQ 1 a (nx g 0) fun d4=>ak false 1 d4 e fun d5=>dH d5 (i_ 0) fun j=>qBe .add (nx g 0) 1 fun d6=>aQ 1 a d6 fun d7=>ak false 1 d7 e fun n=>aw (fun q=>bp 0 b fun d8=>eR 256 1 d8 j fun d9=>ak false 1 d9 e fun e0=>kB false (vv e0) fun e1=>ag e1 (iFL 256 false 1 b e fun e2=>ou 5 1 1 (u8 0) [(0,1,j)] e fun e3 r=>cJ e3 r fun e4=>ou 9 1 1 (.str []) [(0,1,e4)] r fun e5 e6=>bP false 9 1 16 e2 e5 e6 fun e7 e8=>bp 256 b fun e9=>ao 1 e9 e7 e8 fun f0=>eC [a,b,nx g 0,j,n] (q [] f0)) (eC [a,b,nx g 0,j,n] (q [] e))) fun f9 f1=>iP 5 n f1 fun f2 f3=>bp 0 b fun f4=>eR 256 1 f4 j fun f5=>ao 1 f5 f2 f3 fun f6=>qBe .sub (nx g 0) 2 fun f7=>eC [a,b] (d2 [f7] f6)) (oZ 220 b fun f8=>K f8 e))))
theorem YR(x0:AV):Body p_ 131 [x0] (Sz x0):=bB Tryz.func131 (sn (sn (.seq (.seq (.aR (oR 0 4 (.aD 3 true (fR 4 5) [3] [22,27]::.op 9 false::[]))) (.two (.seq (.draw 9 (oR 0 9 []) [] []) .nil) .nil)) (sn (.seq (sn (.one (.loop [3] [4,5] (sn (.join [3,5] [4] .nil .nil))))) (.seq (sn (.two (sn (.seq (sn (.one (.loop [3,6] [61] .nil))) (.seq (sn (.one (.loop [3,6] [8] .nil))) .nil))) .nil)) (sn (.seq (sn (.one (.loop [3,11] [12] (sn (.seq (.one (sn (sn (.join [3,11,12,13,14] [] .nil .nil)))) .nil))))) .nil)))))))) 132 [.tmp 2]
def SM(x0:AV)(h:aa)(K:AV→aa→Prop):Prop:=
 aW 252 (.agg [.str [],i_ 0,.str [],.v (.pointer none),qNs,i_ 0,u8 0,u8 0,u8 0,u8 0,u8 0,u8 0,u8 0,u8 0,u8 0,u8 0,u8 0,u8 0,u8 0,u8 0,u8 0,u8 0,u8 0,u8 0,u8 0,u8 0,u8 0,u8 0,u8 0,u8 0,u8 0,u8 0,u8 0,u8 0,u8 0,u8 0,u8 0,u8 0,u8 0,u8 0,u8 0,u8 0,u8 0,u8 0,u8 0,u8 0,u8 0,u8 0,u8 0,u8 0,u8 0,u8 0,u8 0,u8 0,u8 0,u8 0,u8 0,u8 0,u8 0,u8 0,u8 0,u8 0,u8 0,u8 0,u8 0,u8 0,u8 0,u8 0,u8 0,u8 0,u8 0,u8 0,u8 0,u8 0,u8 0,u8 0,u8 0,u8 0,u8 0,u8 0,u8 0,u8 0,u8 0,u8 0,u8 0,u8 0,u8 0,u8 0,u8 0,u8 0,u8 0,u8 0,u8 0,u8 0,u8 0,u8 0,u8 0,u8 0,u8 0,u8 0,u8 0,u8 0,u8 0,u8 0,u8 0,u8 0,u8 0,u8 0,u8 0,u8 0,u8 0,u8 0,u8 0,u8 0,u8 0,u8 0,u8 0,u8 0,u8 0,u8 0,u8 0,u8 0,u8 0,u8 0,u8 0,u8 0,u8 0,u8 0,u8 0,u8 0,u8 0,u8 0,u8 0,u8 0,u8 0,u8 0,u8 0,u8 0,u8 0,u8 0,u8 0,u8 0,u8 0,u8 0,u8 0,u8 0,u8 0,u8 0,u8 0,u8 0,u8 0,u8 0,u8 0,u8 0,u8 0,u8 0,u8 0,u8 0,u8 0,u8 0,u8 0,u8 0,u8 0,u8 0,u8 0,u8 0,u8 0,u8 0,u8 0,u8 0,u8 0,u8 0,u8 0,u8 0,u8 0,u8 0,u8 0,u8 0,u8 0,u8 0,u8 0,u8 0,u8 0,u8 0,u8 0,u8 0,u8 0,u8 0,u8 0,u8 0,u8 0,u8 0,u8 0,u8 0,u8 0,u8 0,u8 0,u8 0,u8 0,u8 0,u8 0,u8 0,u8 0,u8 0,u8 0,u8 0,u8 0,u8 0,u8 0,u8 0,u8 0,u8 0,u8 0,u8 0,u8 0,u8 0,u8 0,u8 0,u8 0,u8 0,u8 0,u8 0,u8 0,u8 0,u8 0,u8 0,u8 0,u8 0,u8 0,u8 0,u8 0,u8 0,u8 0,u8 0,u8 0,u8 0,u8 0,u8 0,u8 0,u8 0,u8 0,u8 0,u8 0,u8 0,u8 0,u8 0,u8 0,u8 0,u8 0,u8 0,u8 0,u8 0,u8 0,u8 0,u8 0,u8 0,u8 0,u8 0,u8 0,u8 0,u8 0,u8 0]) h fun a r=>bL [i_ 0] r fun s e f =>
 bu x0 fun t=>ae .lss (nx e 0) t fun u=>ag u (aQ 1 x0 (nx e 0) fun w=>ak false 1 w f fun k=>bL [i_ 0] f fun x l n =>
 cR k fun y=>ae .lss (nx l 0) y fun z=>ag z (dH k (nx l 0) fun A=>qFd p_ a 6 fun B=>eR 256 1 B A fun C=>ao 1 C (u8 1) n fun D=>qBe .add (nx l 0) 1 fun E=>eC [x0,a,nx e 0,k] (x [E] D)) (qBe .add (nx e 0) 2 fun F=>eC [x0,a] (s [F] n))) (ca p_ a fun G=>iFL 6 true 256 G f fun o=>bL [i_ 0] f fun H m g =>
 qBe .lss (nx m 0) 256 fun I=>ag I (mI false 1 256 o (nx m 0) fun J=>qLd p_ a 5 g fun L=>cy .i64 J fun M=>ae .add L M fun N=>qSt p_ a 5 N g fun O=>qBe .add (nx m 0) 1 fun P=>eC [x0,a,o] (H [P] O)) (ca p_ a fun Q=>iFL 6 true 256 Q g fun i=>bL [u8 0,i_ 0] g fun R b c =>
 qBe .lss (nx b 1) 256 fun S=>ag S (aw (fun p=>mI false 1 256 i (nx b 1) fun T=>ae .eql T (u8 0) fun U=>ag U (qLd p_ a 5 c fun V=>cy .u8 V fun W=>qFd p_ a 6 fun X=>eR 256 1 X (nx b 1) fun Y=>ao 1 Y W c fun Z=>eC [x0,a,i,nx b 1] (p [nx b 0] Z)) (qFd p_ a 6 fun a0=>eR 256 1 a0 (nx b 1) fun a1=>ao 1 a1 (nx b 0) c fun a2=>ae .add (nx b 0) (u8 1) fun a3=>eC [x0,a,i,nx b 1] (p [a3] a2))) fun a4 a5=>qBe .add (nx b 1) 1 fun a6=>eC [x0,a,i] (R [nx a4 0,a6] a5)) (qLd p_ a 5 c fun q=>qO 247 1 8 (.v (.pointer none)) q q c fun a7 a8=>qFd p_ a 0 fun a9=>bp 4 a9 fun b0=>ao 1 b0 a7 a8 fun b1=>bL [i_ 0] b1 fun b2 d j =>
 bu x0 fun b3=>ae .lss (nx d 0) b3 fun b4=>ag b4 (qFd p_ a 0 fun b5=>aQ 1 x0 (nx d 0) fun b6=>ak false 1 b6 j fun b7=>qBe .add (nx d 0) 1 fun b8=>aQ 1 x0 b8 fun b9=>ak false 1 b9 j fun c0=>ja x0 fun c1=>ae .sub c1 (nx d 0) fun c2=>iC p_ 194 [b5,b7,c0,c2,a] j fun c5 c3=>qBe .add (nx d 0) 2 fun c4=>eC [x0,a] (b2 [c4] c3)) (K a j))))
theorem Y4(x0:AV):Body p_ 163 [x0] (SM x0):=bB Tryz.func163 (sn (sn (.seq (sn (.one (.loop [0,3] [4] (sn (.seq (.one (sn (sn (.one (.loop [0,3,4,5] [6] (sn (.seq (.one (.draw 7 (oR 0 7 []) [.op 7 false] [])) .nil))))))) .nil))))) (.seq (sn (.one (.loop [0,3,40] [41] .nil))) (sn (.seq (sn (.one (.loop [0,3,57] [9,58] (sn (sn (.join [0,3,57,58] [9] (.one (sn (sn (.two (.draw 10 (oR 0 10 []) [.op 10 false] []) .nil)))) .nil)))))) (sn (.seq (sn (.one (.loop [0,3] [12] (sn (.seq (.one (.draw 17 (oR 0 17 []) [.op 17 true] [])) .nil))))) .nil)))))))) 117 [.tmp 2]
def I3(x0 x1 x2 x3 x4:AV)(h:aa)(K:AV→aa→Prop):Prop:=
 ae .eql x1 (.str []) fun t=>ag t (qLd p_ x0 1 h fun u=>qBe .eql u 0 fun w=>ag w (qSt p_ x0 0 x2 h fun x=>qSt p_ x0 1 x3 x fun y=>K (.aA []) y) (K (.aA []) h)) (qLd p_ x0 2 h fun z=>ae .neq z (.str []) fun A=>ag A (aw (fun k=>bL [i_ 0] h fun B b g =>
 qLd p_ x0 2 g fun C=>cR C fun D=>ae .lss (nx b 0) D fun E=>qJa E [x0,x1,x2,x3,x4,nx b 0] g (fun F=>cR x1 fun G=>ae .lss (nx b 0) G fun H=>F H g) fun I e=>ag I (qLd p_ x0 2 e fun J=>dH J (nx b 0) fun L=>dH x1 (nx b 0) fun M=>ae .neq L M fun N=>ag N (eC [x0,x1,x2,x3,x4] (k [nx b 0] e)) (qBe .add (nx b 0) 1 fun O=>eC [x0,x1,x2,x3,x4] (B [O] e))) (eC [x0,x1,x2,x3,x4] (k [nx b 0] e))) fun c a=>qLd p_ x0 2 a fun P=>cR P fun Q=>ae .eql (nx c 0) Q fun R=>ag R (qLd p_ x0 3 a fun S=>eN x1 (some (nx c 0)) none fun T=>iC p_ 194 [S,T,x2,x3,x4] a fun g2 U=>K (.aA []) U) (qBe .eql (nx c 0) 0 fun V=>ag V (aw (fun l=>qLd p_ x0 2 a fun W=>cR W fun X=>qBe .eql X 1 fun Y=>ag Y (qLd p_ x0 3 a fun Z=>eC [x0,x1,x2,x3,x4] (l [Z] a)) (qLd p_ x0 2 a fun a0=>eN a0 (some (i_ 1)) none fun a1=>qLd p_ x0 3 a fun a2=>aY (.agg [.str [],i_ 0,.str [],.v (.pointer none),qNs]) [(2,1,a1),(3,1,a2)] fun a3=>aW 250 a3 a fun a4 a5=>eC [x0,x1,x2,x3,x4] (l [a4] a5))) fun a6 a7=>aW 250 (.agg [.str [],i_ 0,.str [],.v (.pointer none),qNs]) a7 fun m n=>qLd p_ x4 5 n fun o=>qO 247 1 8 (.v (.pointer none)) o o n fun a8 a9=>qSt p_ x0 4 a8 a9 fun f=>qLd p_ x0 4 f fun b0=>qLd p_ x0 2 f fun b1=>dH b1 (i_ 0) fun b2=>qFd p_ x4 6 fun b3=>eR 256 1 b3 b2 fun b4=>ak false 1 b4 f fun b5=>aQ 1 b0 b5 fun b6=>ao 1 b6 (nx a6 0) f fun i=>qLd p_ x0 4 i fun b7=>dH x1 (i_ 0) fun b8=>qFd p_ x4 6 fun b9=>eR 256 1 b9 b8 fun c0=>ak false 1 c0 i fun c1=>aQ 1 b7 c1 fun c2=>ao 1 c2 m i fun c3=>qSt p_ x0 2 (.str []) c3 fun c4=>qSt p_ x0 3 (.v (.pointer none)) c4 fun c5=>eN x1 (some (i_ 1)) none fun c6=>iC p_ 194 [m,c6,x2,x3,x4] c5 fun g3 c7=>K (.aA []) c7) (qLd p_ x0 2 a fun c8=>eN c8 (some (nx c 0)) none fun c9=>qLd p_ x0 3 a fun d0=>aY (.agg [.str [],i_ 0,.str [],.v (.pointer none),qNs]) [(2,1,c9),(3,1,d0)] fun d1=>aW 250 d1 a fun p q=>qLd p_ x0 2 q fun d2=>eN d2 none (some (nx c 0)) fun d3=>qSt p_ x0 2 d3 q fun d4=>qSt p_ x0 3 p d4 fun d5=>eN x1 (some (nx c 0)) none fun d6=>iC p_ 194 [p,d6,x2,x3,x4] d5 fun g4 d7=>K (.aA []) d7))) (qLd p_ x0 4 h fun d8=>kB true (vv d8) fun d9=>ag d9 (dH x1 (i_ 0) fun e0=>qFd p_ x4 6 fun e1=>eR 256 1 e1 e0 fun e2=>ak false 1 e2 h fun d=>aw (fun r=>qLd p_ x0 4 h fun e3=>aQ 1 e3 d fun e4=>ak false 1 e4 h fun e5=>kB false (tp e5) fun e6=>ag e6 (qLd p_ x0 4 h fun e7=>aW 250 (.agg [.str [],i_ 0,.str [],.v (.pointer none),qNs]) h fun e8 e9=>aQ 1 e7 d fun f0=>ao 1 f0 e8 e9 fun f1=>eC [x0,x1,x2,x3,x4,d] (r [] f1)) (eC [x0,x1,x2,x3,x4,d] (r [] h))) fun g5 j=>qLd p_ x0 4 j fun f2=>aQ 1 f2 d fun f3=>ak false 1 f3 j fun f4=>eN x1 (some (i_ 1)) none fun f5=>iC p_ 194 [f4,f5,x2,x3,x4] j fun g6 f6=>K (.aA []) f6) (qSt p_ x0 2 x1 h fun f7=>aW 250 (.agg [.str [],i_ 0,.str [],.v (.pointer none),qNs]) f7 fun f8 f9=>qSt p_ x0 3 f8 f9 fun s=>qLd p_ x0 3 s fun g0=>iC p_ 194 [g0,.str [],x2,x3,x4] s fun g7 g1=>K (.aA []) g1)))
theorem ML(x0 x1 x2 x3 x4:AV):Body p_ 194 [x0,x1,x2,x3,x4] (I3 x0 x1 x2 x3 x4):=bB Tryz.func194 (sn (sn (.two (sn (.join [0,1,2,3,4] [10] (.one (.loop [0,1,2,3,4] [10] (.seq (.seq (.aR (oR 0 8 (.aD 7 true (fR 8 4) [0,1,2,3,4,10] [42,46]::.op 12 false::[]))) .nil) (.seq (.one (.seq (.draw 10 (oR 0 10 []) [] []) .nil)) .nil)))) (sn (.two (.draw 10 (oR 0 10 []) [.op 10 true] []) (sn (.two (sn (.join [0,1,2,3,4] [11] (sn (.two .nil (.draw 10 (oR 0 10 []) (oR 10 2 []) []))) (sn (sn (.seq (.draw 16 (oR 0 16 []) [.op 16 false] []) (.seq (.draw 13 (oR 0 13 []) [.op 13 false] []) .nil)))))) (.seq (.draw 11 (oR 0 11 []) (oR 11 2 []) []) .nil))))))) (sn (.two (.seq (.draw 8 (oR 0 8 []) [] []) (.join [0,1,2,3,4,14] [] .nil (.draw 12 (oR 0 12 []) [.op 12 true] []))) .nil))))) 241 []
end
end Go.Proofs.YtpcnidmmkknndaaGreatDoor
namespace Go.Aw
section
open Go Go.RowKit
section
variable {K:AV→Prop} {A B:Prop} {h:aa}
theorem cK{k:IntKind}{x y:AV}{a b:Int}(ex:x=.v (.int k a))(ey:y=.v (.int k b))(q:K (.v (.bool (decide (a<b))))):ae .lss x y K:=by subst ex;subst ey;simpa using q
theorem zzC{k:IntKind}{a b:Int}(q:K (.v (.bool (decide (a<b))))):ae .lss (.v (.int k a)) (.v (.int k b)) K:=cK rfl rfl q
theorem gI{k:IntKind}{x y:AV}{a b:Int}(ex:x=.v (.int k a))(ey:y=.v (.int k b))(q:K (.v (.bool (decide (a≤b))))):ae .leq x y K:=by subst ex;subst ey;simpa using q
theorem zzD{k:IntKind}{a b:Int}(q:K (.v (.bool (decide (a≤b))))):ae .leq (.v (.int k a)) (.v (.int k b)) K:=gI rfl rfl q
theorem fe{k:IntKind}{x y:AV}{a b:Int}(ex:x=.v (.int k a))(ey:y=.v (.int k b))(q:K (.v (.bool (decide (b<a))))):ae .gtr x y K:=by subst ex;subst ey;simpa using q
theorem zzE{k:IntKind}{a b:Int}(q:K (.v (.bool (decide (b<a))))):ae .gtr (.v (.int k a)) (.v (.int k b)) K:=fe rfl rfl q
theorem lJ{k:IntKind}{x y:AV}{a b:Int}(ex:x=.v (.int k a))(ey:y=.v (.int k b))(q:K (.v (.bool (decide (b≤a))))):ae .geq x y K:=by subst ex;subst ey;simpa using q
theorem zzF{k:IntKind}{a b:Int}(q:K (.v (.bool (decide (b≤a))))):ae .geq (.v (.int k a)) (.v (.int k b)) K:=lJ rfl rfl q
theorem bR{k:IntKind}{x y:AV}{a b:Int}(ex:x=.v (.int k a))(ey:y=.v (.int k b))(q:K (.v (.bool (decide (a=b))))):ae .eql x y K:=by subst ex;subst ey;simpa using q
theorem zzG{k:IntKind}{a b:Int}(q:K (.v (.bool (decide (a=b))))):ae .eql (.v (.int k a)) (.v (.int k b)) K:=bR rfl rfl q
theorem dG{k:IntKind}{x y:AV}{a b:Int}(ex:x=.v (.int k a))(ey:y=.v (.int k b))(q:K (.v (.bool (!decide (a=b))))):ae .neq x y K:=by subst ex;subst ey;simpa using q
theorem zzH{k:IntKind}{a b:Int}(q:K (.v (.bool (!decide (a=b))))):ae .neq (.v (.int k a)) (.v (.int k b)) K:=dG rfl rfl q
theorem gK{x y:AV}{a b:List UInt8}(ex:x=.str a)(ey:y=.str b)(q:K (.v (.bool (decide (a=b))))):ae .eql x y K:=by subst ex;subst ey;simpa using q
theorem zzI{a b:List UInt8}(q:K (.v (.bool (decide (a=b))))):ae .eql (.str a) (.str b) K:=gK rfl rfl q
theorem jN{x y:AV}{a b:List UInt8}(ex:x=.str a)(ey:y=.str b)(q:K (.v (.bool (!decide (a=b))))):ae .neq x y K:=by subst ex;subst ey;simpa using q
theorem zzJ{a b:List UInt8}(q:K (.v (.bool (!decide (a=b))))):ae .neq (.str a) (.str b) K:=jN rfl rfl q
theorem Kn{x y:AV}{a b:Bool}(ex:x=.v (.bool a))(ey:y=.v (.bool b))(q:K (.v (.bool (!(a == b))))):qN .neq x y K:=by subst ex;subst ey;simpa using q
theorem dM{x:AV}{b:Bool}(e:x=.v (.bool b))(q:K (.v (.bool (!b)))):cq x K:=by subst e;simpa using q
theorem zzO{b:Bool}(q:K (.v (.bool (!b)))):cq (.v (.bool b)) K:=dM rfl q
theorem ct{c:AV}{b:Bool}(e:c=.v (.bool b))(qt:b=true→A)(qf:b=false→B):ag c A B:=by subst e;simpa using⟨qt,qf⟩
theorem ax{c:AV}{b:Bool}(e:c=.v (.bool b))(hb:b=true)(q:A):ag c A B:=by subst e;subst hb;simpa using q
theorem zzL{b:Bool}(hb:b=true)(q:A):ag (.v (.bool b)) A B:=ax rfl hb q
theorem ay{c:AV}{b:Bool}(e:c=.v (.bool b))(hb:b=false)(q:B):ag c A B:=by subst e;subst hb;simpa using q
theorem zzK{b:Bool}(hb:b=false)(q:B):ag (.v (.bool b)) A B:=ay rfl hb q
theorem jl{c:AV}{b:Bool}(e:c=.v (.bool (!b)))(q:ag (.v (.bool b)) B A):ag c A B:=by subst e;cases b<;>simpa using q
theorem cE{c:AV}{w b:Bool}(e:c=.v (.bool b))(qt:b=w→A)(qf:b=(!w)→B):ar c w A B:=by subst e;simpa using⟨qt,qf⟩
theorem bt{c:AV}{w b:Bool}(e:c=.v (.bool b))(hb:b=w)(q:A):ar c w A B:=by subst e;subst hb;cases b<;>simpa using q
theorem zzN{w b:Bool}(hb:b=w)(q:A):ar (.v (.bool b)) w A B:=bt rfl hb q
theorem bw{c:AV}{w b:Bool}(e:c=.v (.bool b))(hb:b=(!w))(q:B):ar c w A B:=by subst e;subst hb;cases w<;>simpa using q
theorem zzM{w b:Bool}(hb:b=(!w))(q:B):ar (.v (.bool b)) w A B:=bw rfl hb q
theorem fw{c:AV}{w b:Bool}(e:c=.v (.bool (!b)))(q:ar (.v (.bool b)) (!w) A B):ar c w A B:=by subst e;cases b<;>cases w<;>simpa using q
theorem BJ{c x y:AV}{b:Bool}(e:c=.v (.bool b))(hb:b=true)(q:K x):aI c x y K:=by subst e;subst hb;simpa using q
theorem tX{c x y:AV}{b:Bool}(e:c=.v (.bool b))(hb:b=false)(q:K y):aI c x y K:=by subst e;subst hb;simpa using q
theorem xy{c x y:AV}{b:Bool}(e:c=.v (.bool (!b)))(q:aI (.v (.bool b)) y x K):aI c x y K:=by subst e;cases b<;>simpa using q
theorem ik{off:Nat}{x:AV}{cs:List AV}(e:x=.ip cs)(q:K (.ip (cs.drop off))):bp off x K:=by subst e;exact q
theorem zzX{off:Nat}{cs:List AV}(q:K (.ip (cs.drop off))):bp off (.ip cs) K:=ik rfl q
theorem ir{n:Nat}{x:AV}{cs:List AV}(e:x=.ip cs)(hn:cs.length=n)(q:K (.agg cs)):ak true n x h K:=by
 subst e;rw[HG];exact⟨by omega,by rw[←hn,BY];exact q⟩
theorem zzY{n:Nat}{cs:List AV}(hn:cs.length=n)(q:K (.agg cs)):ak true n (.ip cs) h K:=ir rfl hn q
theorem dP{sz id o:Nat}{x v:AV}{b:jH}{cs:List AV}{KS:aa→Prop}(e:x=.op id o)(hb:h[id]?=some (.ah b))(hw:b.wr=true)(hv:bl v=cs)(hl:o+cs.length≤b.cells.length)(hz:cs.length=sz)(hs:cs.all bQ=true)
 (q:KS (h.set id (.ah { b with cells:=bZ b.cells o cs }))):ao sz x v h KS:=by
 subst e;subst hv;rw[zD,hb];exact⟨⟨hw,hl,hz,hs⟩,q⟩
theorem dz{sz:Nat}{x:AV}{rows:List (List AV)}{n:Nat}(e:x=.sl sz rows)(hn:rows.length=n)(q:n≤maxLen→K (i_ n)):bu x K:=by subst e;subst hn;rw[K5];exact q
theorem zzf{sz:Nat}{rows:List (List AV)}{n:Nat}(hn:rows.length=n)(q:n≤maxLen→K (i_ n)):bu (.sl sz rows) K:=dz rfl hn q
theorem lN{x:AV}{l:List UInt8}(e:x=.str l)(q:l.length≤maxLen→K (i_ l.length)):cR x K:=by subst e;rw[BW];exact q
theorem zzZ{l:List UInt8}(q:l.length≤maxLen→K (i_ l.length)):cR (.str l) K:=lN rfl q
theorem bf{z:AV}{ps:List (Nat×Nat×AV)}{cs:List AV}(e:dQ (bl z) ps=some cs)(q:K (.agg cs)):aY z ps K:=by rw[N0,e];exact q
theorem ij{i:Nat}{x:AV}{cs:List AV}{c:AV}(e:x=.aA cs)(hc:cs[i]?=some c)(q:K c):aU i x K:=bo e hc q
theorem zzB{i:Nat}{cs:List AV}{c:AV}(hc:cs[i]?=some c)(q:K c):aU i (.aA cs) K:=ij rfl hc q
theorem xx{neg:Bool}{ks:List Nat}{x y:AV}{xs ys:List AV}{b:Bool}(ex:x=.agg xs)(ey:y=.agg ys)(hb:jg ks xs ys=some b)(q:K (.v (.bool (if neg then !b else b)))):lW neg ks x y K:=by
 subst ex;subst ey;rw[TM,hb];exact q
theorem iJ{α:Type}{m:Nat}{x i:AV}{l:List α}{rows:List (List AV)}{f:α→List AV}{n:Nat}{a:α}(e:x=.sl m rows)(hr:rows=l.map f)(ei:i=i_ n)(ha:l[n]?=some a)(q:K (.ip (f a))):aQ m x i K:=by
 subst e;subst ei;subst hr;rw[HE];have hn:=(eQ.1 ha).1;refine⟨rfl,⟨by omega,by rw[aaC];omega⟩, ?_⟩;have:(l.map f).getD (n:Int).toNat []=f a:=by rw[Mk,nE,iN,ha];rfl
 rw[this];exact q
theorem zzb{α:Type}{m:Nat}{i:AV}{l:List α}{rows:List (List AV)}{f:α→List AV}{n:Nat}{a:α}(hr:rows=l.map f)(ei:i=i_ n)(ha:l[n]?=some a)(q:K (.ip (f a))):aQ m (.sl m rows) i K:=iJ rfl hr ei ha q
theorem tW{x i:AV}{l:List UInt8}{n:Nat}{b:UInt8}(e:x=.str l)(ei:i=i_ n)(hb:l[n]?=some b)(q:K (.v (.int .u8 b.toNat))):dH x i K:=by
 subst e;subst ei;have hn:=(eQ.1 hb).1;refine⟨⟨by omega,by omega⟩, ?_⟩;have:l.getD (n:Int).toNat 0=b:=by rw[Mk,nE,hb];rfl
 rw[this];exact q
end
theorem Ak(f:AV→AV)(L:Nat)(h:aa)(r:List (List AV))(p:cF r):oT f L h r=r:=by
 have:=Aj f L h (.sl 0 r) (by rw[Pure];exact p);rw[eM]at this;simpa using this
theorem nN:∀l:List UInt8,wG (l.map bg)=some l
 | []=>rfl
 | b:: l=>by
   rw[GO,bg,wG,nN l];simp
theorem CI{K:AV→Prop}{h:aa}{id:Nat}{x:AV}{b:jH}{l:List UInt8}(e:x=.own id 0 l.length 1)(hb:h[id]?=some (.ah b))(hc:b.cells=l.map bg)(q:K (.str l)):cJ x h K:=by
 subst e;have h1:jB h 1 (.own id 0 l.length 1)=some (chunks 1 l.length b.cells):=by
  rw[F8,hb];simp only[List.drop_zero,true_and];rw[if_pos (by rw[hc];simp)]
 have h2:(chunks 1 l.length b.cells).flatten=l.map bg:=by
  rw[(je 1 l.length b.cells (by rw[hc];simp)).1,hc];rw[MK (by simp)]
 unfold cJ;rw[h1];simp only[Option.bind_some,h2,nN];exact q
theorem kn{α:Type}{l:List α}{k:Nat}{x:α}(h:l[k]?=some x):l.set k x=l:=by
 refine List.ext_getElem? fun j=>?_
 by_cases q:k=j
 ·subst q;rw[iD (eQ.1 h).1,h]
 ·rw[iF q]
theorem PO(n:Nat)(a:AV):Pure a→Bd n a:=by
 refine AV.rec (motive_1:=fun a=>Pure a→Bd n a) (motive_2:=fun l=>aV l→lL n l) (motive_3:=fun r=>cF r→wm n r) ?_ ?_ ?_ ?_ ?_ ?_ ?_ ?_ ?_ ?_ ?_ ?_ ?_ ?_ ?_ ?_ ?_ ?_ a;all_goals intros
 all_goals simp_all [Bd,lL,wm]
theorem kK(n:Nat)(l:List AV)(p:aV l):lL n l:=by
 have:=PO n (.agg l) (by rw[Pure];exact p)
 rwa [Bd]at this
variable [Laid]
theorem Wk.back{n M:Nat}{s s':List AV}{h h':aa}(hn:n≤M)(hM:M≤h.length)(e:h.take M=h')(es:s=s')(hb:∀x∈h',rM M x)(hs:∀a∈s',Bd M a):Wk n s h s' h':=by
 subst es;subst e;exact Wk.ZA hn hM hb hs
end
section
open Go Go.RowKit
mutual
inductive Ap:AV→AV→Prop
 | refl (a:AV):Ap a a
 | nil (s:Nat):Ap (.v (.slice none 0 0)) (.sl s [])
 | sl {s:Nat} {r r':List (List AV)}:nV r r'→Ap (.sl s r) (.sl s r')
 | aA {r r':List AV}:kv r r'→Ap (.aA r) (.aA r')
inductive kv:List AV→List AV→Prop
 | nil:kv [] []
 | cons {a b:AV} {as_ bs:List AV}:Ap a b→kv as_ bs→kv (a:: as_) (b:: bs)
inductive nV:List (List AV)→List (List AV)→Prop
 | nil:nV [] []
 | cons {a b:List AV} {as_ bs:List (List AV)}:kv a b→nV as_ bs→nV (a:: as_) (b:: bs)
end
theorem kv.length:∀{as_ bs:List AV},kv as_ bs→as_.length=bs.length
 | _,_,.nil=>rfl
 | _,_,.cons _ k=>by simp[kv.length k]
theorem nV.length:∀{as_ bs:List (List AV)},nV as_ bs→as_.length=bs.length
 | _,_,.nil=>rfl
 | _,_,.cons _ k=>by simp[nV.length k]
theorem kv.refl:∀as_:List AV,kv as_ as_
 | []=>.nil
 | a:: as_=>.cons (.refl a) (kv.refl as_)
variable {ι:List Ix} {S:ba} {w:World}
mutual
theorem au.qB:∀{a b:AV},Ap a b→∀v,au ι S w a v→au ι S w b v
 | _,_,.refl _,v,h=>h
 | _,_,.nil s,v,h=>by
   rw[cz]at h;subst h;rw[au];exact⟨none,0,rfl,by simp,by simp,.inl rfl⟩
 | _,_,.sl k,v,h=>by
   rw[au]at h ⊢;obtain⟨a,cap,rfl,h1,h2,h3⟩:=h;refine⟨a,cap,by rw[k.length],by rw[←k.length];exact h1,h2, ?_⟩;rcases h3 with rfl|⟨b,off,e,h3⟩
   ·left;cases k;rfl
   ·exact .inr ⟨b,off,e,cr.qB k _ _ h3⟩
 | _,_,.aA k,v,h=>by
   rw[au]at h ⊢;obtain⟨vs,e,h1⟩:=h;exact⟨vs,e,aE.qB k _ h1⟩
theorem aE.qB:∀{as_ bs:List AV},kv as_ bs→∀vs,aE ι S w as_ vs→aE ι S w bs vs
 | _,_,.nil,vs,h=>h
 | _,_,.cons k ks,vs,h=>by
   rw[aE]at h ⊢;obtain⟨u,us,e,h1,h2⟩:=h;exact⟨u,us,e,au.qB k _ h1,aE.qB ks _ h2⟩
theorem bD.qB:∀{as_ bs:List AV},kv as_ bs→∀b off,bD ι S w as_ b off→bD ι S w bs b off
 | _,_,.nil,b,off,h=>h
 | _,_,.cons k ks,b,off,h=>by
   rw[bD]at h ⊢;obtain⟨⟨u,h1,h2,h3⟩,h4⟩:=h;exact⟨⟨u,h1,h2,au.qB k _ h3⟩,bD.qB ks _ _ h4⟩
theorem cr.qB:∀{sz:Nat} {as_ bs:List (List AV)},nV as_ bs→∀b off,cr ι S w sz as_ b off→cr ι S w sz bs b off
 | _,_,_,.nil,b,off,h=>h
 | sz,_,_,.cons k ks,b,off,h=>by
   rw[cr]at h ⊢;obtain⟨h1,h2,h3⟩:=h;exact⟨by rw[←k.length];exact h1,bD.qB k _ _ h2,cr.qB ks _ _ h3⟩
end
variable [Laid]
theorem bn.qB{P:Program}{f:FuncId}{args:List AV}{r r':AV}(c:bn P f args r)(d:Ap r r')(p:Pure r'):bn P f args r':=by
 obtain⟨pa,pr,c⟩:=c;refine⟨pa,p, ?_⟩;intro base ι S w vs h1 h2;refine (c base ι S w vs h1 h2).mono ?_;rintro e w' ⟨v,ι',S',r2,h',e1,e2,e3,e4,e5,rfl⟩;exact⟨v,ι',S',r',h',e1,e2,au.qB d v e3,e4,e5,rfl⟩
end
section
open Go
variable{h:aa}
section
variable {h:aa} {K:AV→aa→Prop}
theorem vI:∀(b p a:List AV),a.length=b.length→bZ (p++a) p.length b=p++b
 | [],p,a,h=>by simp at h;subst h;rfl
 | c:: b,p,x:: a,h=>by
   rw[bZ];have e:(p++x:: a).set p.length c=(p++[c])++a:=by simp
   have:=vI b (p++[c]) a (by simpa using h);rw[e,show p.length+1=(p++[c]).length by simp,this];simp
theorem kQ{a b:List AV}(h:a.length=b.length):bZ a 0 b=b:=by simpa using vI b [] a h
theorem PT{t sz:Nat}{z:AV}(q:K .emp h):ou t 0 sz z [] h K:=q
theorem Tf{e sz bytes:Nat}{x y:AV}{rows:List (List AV)}(ex:x=.emp)(hs:jB h sz y=some rows)(hr:rows.all (dk sz)=true)(hm:jF bytes rows.length)(q:K (.sb h.length sz rows) (h++[.tok e sz rows.length])):bP false e sz bytes x y h K:=by
 subst ex;unfold bP eE;rw[hs];exact⟨hr,hm,q⟩
theorem Eg{own:Bool}{e sz bytes id k:Nat}{x y:AV}{base rows:List (List AV)}(ex:x=.sb id sz base)(ht:h[id]?=some (.tok e sz k))(hk:k=base.length)(hs:jB h sz y=some rows)(hr:rows.all (dk sz)=true)(hm:jF bytes (k+rows.length))(q:K (.sb id sz (base++rows)) (h.set id (.tok e sz (k+rows.length)))):bP own e sz bytes x y h K:=by
 subst ex;unfold bP eE;rw[hs];refine⟨hr, ?_⟩;simp only[xb];rw[ht];exact⟨by simp[hk],hm,q⟩
theorem Tg{own:Bool}{e sz bytes id len:Nat}{x y:AV}{cells:List AV}{rows:List (List AV)}(ex:x=.own id 0 len sz)(hb:h[id]?=some (.ah ⟨e,cells,true⟩))(hl:len*sz≤cells.length)(hp:0<len)(hs:jB h sz y=some rows)(hr:rows.all (dk sz)=true)(hm:jF bytes (len+rows.length))
 (q:K (.own h.length 0 (len+rows.length) sz) (h.set id .dead++[.ah ⟨e,cells.take (len*sz)++rows.flatten,true⟩])):bP own e sz bytes x y h K:=by
 subst ex;unfold bP eE;rw[hs];refine⟨hr, ?_⟩;simp only[xb];rw[hb];exact⟨by simp[hl],by omega,hm,q⟩
theorem jm{m id off len:Nat}{x i:AV}{K:AV→Prop}{n:Nat}(ex:x=.own id off len m)(ei:i=i_ n)(hn:n<len)(q:K (.op id (off+n*m))):aQ m x i K:=by
 subst ex;subst ei;exact⟨rfl,⟨by omega,by omega⟩,by simpa using q⟩
section
variable {h':aa} {n:Nat}
theorem Lq{e sz bytes k:Nat}{x y:AV}{rows:List (List AV)}(ex:x=.emp)(hs:jB h sz y=some rows)(hr:rows.all (dk sz)=true)(hk:rows.length=k)(hm:jF bytes k)(hn:h.length=n)(hh:h++[.tok e sz k]=h')(q:K (.sb n sz rows) h'):bP false e sz bytes x y h K:=by
 subst hn;subst hh;subst hk;exact Tf ex hs hr hm q
theorem xa{own:Bool}{e sz bytes id k:Nat}{x y:AV}{base rows:List (List AV)}(ex:x=.sb id sz base)(ht:h[id]?=some (.tok e sz k))(hk:k=base.length)(hs:jB h sz y=some rows)(hr:rows.all (dk sz)=true)(hm:jF bytes (k+rows.length))(hh:h.set id (.tok e sz (k+rows.length))=h')(q:K (.sb id sz (base++rows)) h'):bP own e sz bytes x y h K:=by
 subst hh;exact Eg ex ht hk hs hr hm q
theorem Lr{own:Bool}{e sz bytes id len:Nat}{x y:AV}{cells:List AV}{rows:List (List AV)}(ex:x=.own id 0 len sz)(hb:h[id]?=some (.ah ⟨e,cells,true⟩))(hl:len*sz≤cells.length)(hp:0<len)(hs:jB h sz y=some rows)(hr:rows.all (dk sz)=true)(hm:jF bytes (len+rows.length))(hn:h.length=n)
 (hh:h.set id .dead++[.ah ⟨e,cells.take (len*sz)++rows.flatten,true⟩]=h') (q:K (.own n 0 (len+rows.length) sz) h'):bP own e sz bytes x y h K:=by
 subst hn;subst hh;exact Tg ex hb hl hp hs hr hm q
theorem bW{t:TypeId}{v:AV}{cs:List AV}(hv:bl v=cs)(e:cs.all bQ=true)(hn:h.length=n)(hh:h++[.ah ⟨t,cs,true⟩]=h')(q:K (.op n 0) h'):aW t v h K:=by
 subst hv;subst hn;subst hh;exact fq e q
theorem aX{sz id o:Nat}{x v:AV}{b:jH}{cs:List AV}{KS:aa→Prop}(e:x=.op id o)(hb:h[id]?=some (.ah b))(hw:b.wr=true)(hv:bl v=cs)(hl:o+cs.length≤b.cells.length)(hz:cs.length=sz)(hs:cs.all bQ=true)
 (hh:h.set id (.ah ⟨b.ty,bZ b.cells o cs,b.wr⟩)=h') (q:KS h'):ao sz x v h KS:=by
 subst hh;exact dP e hb hw hv hl hz hs q
end
theorem fP{sz:Nat}{rows:List (List AV)}:jB h sz (.sl sz rows)=some rows:=by simp[jB,mZ]
theorem F9{sz id off len:Nat}{b:jH}(hb:h[id]?=some (.ah b))(hl:off+len*sz≤b.cells.length):jB h sz (.own id off len sz)=some (chunks sz len (b.cells.drop off)):=by
 rw[F8,hb];simp[hl]
theorem VG{n:Nat}{x:AV}{rows:List (List AV)}{K:AV→Prop}(ex:x=.sl n rows)(hl:1≤rows.length)(q:K (.sl n (rows.drop 1))):lg n x (some (i_ 1)) none K:=by
 subst ex;rw[Ph];simp only[eT];refine⟨by simp,⟨by omega,by omega,by omega⟩, ?_⟩;simpa using q
end
theorem MQ{n:Nat}{x:AV}{cs:List AV}{K:AV→Prop}(e:x=.ip cs)(hn:n≤cs.length)(q:K (.agg (cs.take n))):ak true n x h K:=by
 subst e;rw[HG];exact⟨hn,q⟩
theorem IQ{d id sz:Nat}{rows:List (List AV)}(p:cF rows):tl 0 h d (.sb id sz rows)=.sl sz rows:=by
 cases d<;>simp[tl,eM,Ak _ _ _ _ p]
theorem kV{d:Nat}{a:AV}(p:Aw.Pure a):tl 0 h d a=a:=by
 cases d<;>exact Aj _ _ _ _ p
theorem pH{sz:Nat}:∀rows:List (List AV),rows.all (dk sz)=true→chunks sz rows.length rows.flatten=rows
 | [],_=>rfl
 | r:: rows,h=>by
   simp only[aa2,NO,dk,beq_iff_eq]at h;rw[aaB,abc,chunks];have hr:=h.1.1;rw[abe (by omega),MK (by omega),List.drop_append_of_le_length (by omega),List.drop_of_length_le (by omega),List.nil_append,pH rows (by simpa[dk]using h.2)]
theorem Gm{d id len sz:Nat}{b:jH}{cells:List AV}(hb:h[id]?=some (.ah b))(hc:b.cells=cells)(hl:len*sz≤cells.length):tl 0 h (d+1) (.own id 0 len sz)=.sl sz ((chunks sz len cells).map (List.map (tl 0 h d))):=by
 subst hc;simp only[tl,eM];rw[if_neg (by omega),hb];simp only[aaQ,List.drop_zero];rw[if_pos hl]
theorem yj{α:Type}{f:α→List AV}{sz:Nat}(hf:∀x,(f x).length=sz∧(f x).all bQ=true)(l:List α):(l.map f).all (dk sz)=true:=by
 rw[List.all_map,At];intro x _;simp only[Function.comp,dk,NO,beq_iff_eq];exact hf x
end
end Go.Aw
namespace Go.Proofs.YtpcnidmmkknndaaGreatDoor
section
open Go Go.Aw
variable{K:AV→Prop}{m:List Nat}{s:List UInt8}{ts n v i id o:Nat}{tb:AV}
abbrev n8(n:Nat):AV:=.v (.int .u8 (Int.ofNat n))
def RC(tb:AV)(ts:Nat)(m:List Nat):List AV:=.str []:: i_ 0:: .str []:: .v (.pointer none):: tb:: i_ ts:: m.map n8
def HR(tb:AV)(ts:Nat)(m:List Nat)(t:aa):aa:=e0:: e1:: .ah (tq 0 1 (.v .nilIface) keys):: .ah ⟨252,RC tb ts m,true⟩:: t
abbrev wB:AV:=.v (.slice none 0 0)
abbrev mc:AV:=.v (.pointer none)
def T7:List (List UInt8):=[[13,10],[13],[12],[0]]
def Yr:List (List UInt8):=[[10],[10],[10],[239,191,189]]
def fl(m:List Nat)(s:List UInt8):List Nat:=s.foldl (fun m b=>m.set b.toNat 1) m
def mK(k:Nat):List Nat:=(T7.take k).foldl fl (List.replicate 256 0)
theorem EM:∀(s:List UInt8) (m:List Nat),(fl m s).length=m.length
 | [],_=>rfl
 | b:: s,m=>by
   have:=EM s (m.set b.toNat 1);rw[aaN]at this;exact this
theorem Fm:∀k,(mK k).length=256:=by
 have:∀(l:List (List UInt8)) (m:List Nat),(l.foldl fl m).length=m.length:=by
  intro l;induction l with
  | nil=>intro _;rfl
  | cons s l ih=>intro m;exact (ih _).trans (EM s m)
 intro k;exact (this _ _).trans (by simp)
theorem U8:bZ (RC tb ts m) (6+n) [n8 v]=RC tb ts (m.set n v):=by
 show (RC tb ts m).set (6+n) (n8 v)=_;unfold RC;rw[Nat.add_comm,List.map_set];rfl
theorem Au{ts:Nat}:(RC tb ts m).length=m.length+6:=by unfold RC;simp
theorem JF(h:[[AV.str [13,10]],[.str [10]],[.str [13]],[.str [10]],[.str [12]],[.str [10]],[.str [0]],[.str [239,191,189]]][i]?=some [.str s])(k:K (.ip [.str s])):aQ 1 keys (i_ i) K:=by
 have hi:=(eQ.1 h).1;refine⟨rfl,⟨by omega, ?_⟩, ?_⟩
 ·show (i:Int)<8;simp at hi;omega
 ·show K (.ip (([[AV.str [13,10]],[.str [10]],[.str [13]],[.str [10]],[.str [12]],[.str [10]],[.str [0]],[.str [239,191,189]]]:List (List AV)).getD (i:Int).toNat []));rw[Mk,nE,h];exact k
theorem Pn(k:Nat)(h:k<4):∃y v,T7[k]?=some y∧Yr[k]?=some v∧[[AV.str [13,10]],[.str [10]],[.str [13]],[.str [10]],[.str [12]],[.str [10]],[.str [0]],[.str [239,191,189]]][2*k]?=some [.str y]∧[[AV.str [13,10]],[.str [10]],[.str [13]],[.str [10]],[.str [12]],[.str [10]],[.str [0]],[.str [239,191,189]]][2*k+1]?=some [.str v]∧y.length≤2:=by
 match k,h with
 | 0,_|1,_|2,_|3,_=>exact⟨_,_,rfl,rfl,rfl,rfl,by decide⟩
theorem K6{j:Nat}{b:UInt8}(h:s[j]?=some b)(k:K (n8 b.toNat)):dH (.str s) (i_ j) K:=by
 have hj:=(eQ.1 h).1;refine⟨⟨by omega,by omega⟩, ?_⟩;rw[Mk,nE,h];exact k
theorem DN(k:K (i_ 8)):bu keys K:=fun _=>k
theorem Yn(h:n<256)(k:K (.op id (o+n))):eR 256 1 (.op id o) (n8 n) K:=⟨⟨Int.natCast_nonneg n,by show (n:Int)<256;omega⟩,by show K (.op id (o+(n:Int).toNat*1));rw[Mk,Nat.mul_one];exact k⟩
theorem TV(h:n<256)(k:K (.op id (o+n))):eR 256 1 (.op id o) (i_ n) K:=⟨⟨Int.natCast_nonneg n,by show (n:Int)<256;omega⟩,by show K (.op id (o+(n:Int).toNat*1));rw[Mk,Nat.mul_one];exact k⟩
theorem JY{t:aa}{KS:aa→Prop}(hm:m.length=256)(hn:n<256)(k:KS (HR tb ts (m.set n v) t)):ao 1 (.op 3 (6+n)) (n8 v) (HR tb ts m t) KS:=
 aX (cs:=[n8 v]) (h':=HR tb ts (m.set n v) t) rfl (by rfl) rfl rfl (by show 6+n+1≤(RC tb ts m).length;rw[Au];omega) rfl rfl (by show e0:: e1:: _:: .ah ⟨_,bZ (RC tb ts m) (6+n) [n8 v],true⟩:: t=_;rw[U8];rfl) k
abbrev nh(v:List UInt8)(p:Int)(pre:List UInt8)(nx:AV):aL:=.ah ⟨250,[.str v,i_ p,.str pre,nx,wB],true⟩
def HT(tbl:List AV)(t:aa):aa:=HR (.own 4 0 4 1) 4 fu (.ah ⟨247,tbl,true⟩:: t)
theorem kp{P:Program}{id o off:Nat}(k:K (.op id (o+off))):ca P (.op id o) fun a=>bp off a K:=k
theorem Uf(b:UInt8):fu[b.toNat]?=some (fu.getD b.toNat 0):=by
 have:fu.length=256:=by kernel_rfl
 rw[dO (by have:=b.toNat_lt;omega),nE,dO (by have:=b.toNat_lt;omega)];rfl
section
variable [Laid]
theorem rf{P:Program}{f:FuncId}{args:List AV}{h:aa}{K0 K:AV→aa→Prop}(hb:dr P f=true)(c:bV P f args h K0)(k:∀r h',K0 r h'→K r h'):bz P (.fn (.func f) [] []) args h K:=⟨hb,by simpa using c.mono k⟩
abbrev Ao(n:Nat)(k v:List UInt8)(p:Int)(h h':aa):Prop:=bV p_ 194 [.op n 0,.str k,.str v,i_ p,.op 3 0] h fun r H=>r=.aA []∧H=h'
theorem uN{n:Nat}{v v0 pre:List UInt8}{nx:AV}{p:Int}{h h':aa}(hn:h[n]?=some (nh v0 0 pre nx))(hh:h.set n (nh v p pre nx)=h'):Ao n [] v p h h':=by
 subst hh;have hlt:=(eQ.1 hn).1;refine (ML _ _ _ _ _).bI ?_;unfold I3;refine zzI (zzL rfl (kp (zzU hn rfl (zzG (zzL rfl (kp (aX (cs:=[.str v]) (h':=h.set n (nh v 0 pre nx)) rfl hn rfl rfl (lT rfl) rfl rfl rfl (kp ?_))))))));refine aX (cs:=[i_ p]) (h':=h.set n (nh v p pre nx)) rfl (iD hlt) rfl rfl (lT rfl) rfl rfl (by rw[aaM];rfl) ?_;exact⟨_,_,Wk.refl _ _ _ (by simp),rfl,rfl⟩
theorem Kv{n m:Nat}{c:UInt8}{v v0:List UInt8}{p p0:Int}{h h':aa}(hn:h[n]?=some (nh v0 p0 [] mc))(hl:h.length=m)(hh:h.set n (nh v0 p0 [c] (.op m 0))++[nh v p [] mc]=h'):Ao n [c] v p h h':=by
 subst hh;subst hl;have hlt:=(eQ.1 hn).1;refine (ML _ _ _ _ _).bI ?_;unfold I3;refine zzI (zzK (by simp) (kp (zzU hn rfl (zzJ (zzK rfl (kp (zzU hn rfl (zzK rfl (kp (aX (cs:=[.str [c]]) (h':=h.set n (nh v0 p0 [c] mc)) rfl hn rfl rfl (lT rfl) rfl rfl rfl (bW (cs:=[.str [],i_ 0,.str [],mc,wB]) (n:=h.length) (h':=h.set n (nh v0 p0 [c] mc)++[nh [] 0 [] mc]) rfl rfl (by simp) rfl (kp ?_))))))))))));refine aX (cs:=[.op h.length 0]) (h':=h.set n (nh v0 p0 [c] (.op h.length 0))++[nh [] 0 [] mc]) rfl (by rw[gO (by simpa using hlt),iD hlt]) rfl rfl (lT rfl) rfl rfl (by rw[IN _ _ (by simpa using hlt),aaM];rfl) ?_;refine kp ?_;refine zzU (by rw[gO (by simpa using hlt),iD hlt]) rfl ?_;refine rf (by kernel_rfl) (uN (v:=v) (p:=p) (pre:=[]) (nx:=mc) (v0:=[]) (h':=h.set n (nh v0 p0 [c] (.op h.length 0))++[nh v p [] mc]) (by rw[gT (by simp)];simp) (by rw[IF _ _ (by simp)];simp)) ?_;rintro _ _ ⟨rfl,rfl⟩;exact⟨_,_,Wk.refl _ _ _ (by simp),rfl,rfl⟩
omit [Laid] in
theorem T8{tbl:List AV}{t:aa}{b:UInt8}{K:AV→Prop}(k:K (n8 (fu.getD b.toNat 0))):ak false 1 (.op 3 (6+b.toNat)) (HT tbl t) K:=by
 refine zzU (b:=⟨252,RC (.own 4 0 4 1) 4 fu,true⟩) rfl ?_ k;show (RC (.own 4 0 4 1) 4 fu)[6+b.toNat]?=_;unfold RC;rw[Nat.add_comm,show b.toNat+6=b.toNat+1+1+1+1+1+1 from rfl];simp only[List.getElem?_cons_succ];rw[iN,Uf];rfl
theorem uO{b:UInt8}{r v:List UInt8}{p:Int}{m:Nat}{tbl tbl':List AV}{t t':aa}{h':aa}{n:Nat}(hm:fu.getD b.toNat 0=m)(h4:m<4)(hl:tbl.length=4)(hc:(tbl[m]?=some mc∧n=5+t.length∧tbl'=tbl.set m (.op n 0)∧t'=t++[nh [] 0 [] mc])∨(tbl[m]?=some (.op n 0)∧tbl'=tbl∧t'=t))
 (ha:Ao n r v p (HT tbl' t') h') (hh:5+t.length≤h'.length):Ao 3 (b:: r) v p (HT tbl t) h':=by
 have hlen:(HT tbl t).length=5+t.length:=by unfold HT HR;simp only[aaB];omega
 refine (ML _ _ _ _ _).bI ?_;unfold I3;have e3:∀(tbl:List AV) (t:aa),(HT tbl t)[3]?=some (.ah ⟨252,RC (.own 4 0 4 1) 4 fu,true⟩):=fun _ _=>rfl;have e4:∀(tbl:List AV) (t:aa),(HT tbl t)[4]?=some (.ah ⟨247,tbl,true⟩):=fun _ _=>rfl;refine zzI (zzK (by simp) (kp (zzU (e3 _ _) rfl (zzJ (zzK rfl (kp (zzU (e3 _ _) rfl (zzL rfl (K6 (j:=0) rfl (kp (Yn b.toNat_lt (T8 ?_))))))))))));rw[hm];have ix:∀{K:AV→Prop},K (.op 4 m)→aQ 1 (.own 4 0 4 1) (n8 m) K:=fun {K} k=>⟨rfl,⟨Int.natCast_nonneg m,by show (m:Int)<4;omega⟩,by show K (.op 4 (0+(m:Int).toNat*1));rw[Mk,aaQ,Nat.mul_one];exact k⟩;have fin:(tbl'[m]?=some (.op n 0))→ca p_ (.op 3 0) fun v163=>bp 4 v163 fun v164=>ak false 1 v164 (HT tbl' t') fun v165=>aQ 1 v165 (n8 m) fun v166=>ak false 1 v166 (HT tbl' t') fun v167=>eN (.str (b:: r)) (some (i_ 1)) none fun v168=>bz p_ (.fn (.func 194) [] []) [v167,v168,.str v,i_ p,.op 3 0] (HT tbl' t') fun _ g170=>∃r' h'',Wk (HT tbl t).length [.aA []] g170 [r'] h''∧r'=.aA []∧h''=h':=by
  intro hx;refine kp (zzU (e3 _ _) rfl (ix (zzU (e4 _ _) hx ?_)));have sl:∀{K:AV→Prop},K (.str r)→eN (.str (b:: r)) (some (i_ 1)) none K:=fun {K} k=>by
   unfold eN;refine⟨⟨by decide,by simp only[aaB];omega,by simp⟩, ?_⟩;have e:(((b:: r).take ((b:: r).length:Int).toNat).drop (1:Int).toNat)=r:=by rw[Mk,BY];rfl
   exact (congrArg K (congrArg AV.str e)).mpr k
  refine sl (rf (by kernel_rfl) ha ?_);rintro _ _ ⟨rfl,rfl⟩;exact⟨_,_,Wk.refl _ _ _ (by rw[hlen];exact hh),rfl,rfl⟩
 refine aH (kp (zzU (e3 _ _) rfl (ix ?_)));rcases hc with⟨hx,rfl,rfl,rfl⟩|⟨hx,rfl,rfl⟩
 ·refine zzU (e4 _ _) hx (zzL rfl (kp (zzU (e3 _ _) rfl (bW (cs:=[.str [],i_ 0,.str [],mc,wB]) (n:=5+t.length) (h':=HT tbl (t++[nh [] 0 [] mc])) rfl rfl hlen rfl (ix (aX (cs:=[.op (5+t.length) 0]) (h':=HT (tbl.set m (.op (5+t.length) 0)) (t++[nh [] 0 [] mc])) rfl (e4 _ _) rfl rfl (by show m+1≤tbl.length;omega) rfl rfl rfl (aq ?_)))))));exact fin (iD (by omega))
 ·refine zzU (e4 _ _) hx (zzK rfl (aq ?_));exact fin hx
end
def uC(k:Nat):List AV:=[if k=4 then .op 8 0 else mc,mc,if 3≤k then .op 7 0 else mc,if 1≤k then .op 5 0 else mc]
def wE(k:Nat):aa:=(if 1≤k then [nh (if 2≤k then [10] else []) (if 2≤k then 6 else 0) [10] (.op 6 0),nh [10] 8 [] mc] else [])++(if 3≤k then [nh [10] 4 [] mc] else [])++(if k=4 then [nh [239,191,189] 2 [] mc] else [])
def wR(i:Nat):List Nat:=fu.take i++(mK 4).drop i
theorem Hx{i v:Nat}(hi:i<256)(hv:fu.getD i 0=v):(wR i).set i v=wR (i+1):=by
 have h1:fu.length=256:=by kernel_rfl
 have h2:=Fm 4;have e:fu[i]?=some v:=by rw[dO (by omega)];rw[nE,dO (by omega)]at hv;exact congrArg some hv
 have hl:(fu.take i).length=i:=by rw[aaI];omega
 unfold wR;rw[IF _ _ (by omega),hl,Nat.sub_self,aba (by omega),List.set_cons_zero,By,e];simp
theorem TH:∀i,i<256→fu.getD i 0=if (mK 4).getD i 0=0 then 4 else ((mK 4).take i).sum:=fun i hi=>by
 have:=At.1 (show ((List.range 256).all fun i=>fu.getD i 0 == if (mK 4).getD i 0=0 then 4 else ((mK 4).take i).sum)=true by kernel_rfl) i (by simpa using hi);simpa using this
theorem Mg:∀i,i≤256→((mK 4).take i).sum≤4∧(mK 4).getD i 0≤1:=fun i hi=>by
 have:=At.1 (show ((List.range 257).all fun i=>decide (((mK 4).take i).sum≤4∧(mK 4).getD i 0≤1))=true by kernel_rfl) i (by simp;omega);simpa using this
theorem Gh(h:i<m.length):(m.take (i+1)).sum=(m.take i).sum+m.getD i 0:=by
 rw[By,dO h,Option.toList_some,List.sum_append,List.sum_cons,List.sum_nil,nE,dO h];rfl
theorem Pj(hm:m.length=256)(hi:i<256)(k:K (n8 (m.getD i 0))):mI false 1 256 (.agg (m.map n8)) (i_ i) K:=by
 refine⟨⟨by omega,by show (i:Int)<256;omega⟩, ?_⟩;rw[Mk,Nat.mul_one,aba (by rw[aaC];omega),List.getElem_map];have e:m.getD i 0=m[i]:=by rw[nE,dO (by omega)];rfl
 rw[←e];exact k
theorem Kx{k k':IntKind}{n m:Int}(hm:k.wrap n=m)(q:K (.v (.int k m))):cy k (.v (.int k' n)) K:=by subst hm;exact⟨k',n,rfl,q⟩
theorem Tx(h:n<255)(q:K (n8 (n+1))):ae .add (n8 n) (u8 1) K:=by
 refine⟨rfl, ?_⟩;show K (.v (.int .u8 (IntKind.wrap .u8 ((n:Int)+1))));rw[IntKind.wrap_u8,show ((n:Int)+1)%256=((n+1:Nat):Int) by omega];exact q
section
variable [Laid]
omit [Laid] in
theorem Lg{tb:AV}{ts:Nat}{m:List Nat}{t:aa}{K:AV→Prop}(hm:m.length=256)(k:K (.agg (m.map n8))):ak true 256 (.op 3 6) (HR tb ts m t) K:=by
 refine zzV (b:=⟨252,RC tb ts m,true⟩) rfl (by show 256≤((RC tb ts m).drop 6).length;rw[List.length_drop,Au];omega) ?_;show K (.agg ((m.map n8).take 256));rw[MK (by rw[aaC];omega)];exact k
omit [Laid] in
theorem Wv{tb:AV}{ts v:Nat}{m:List Nat}{t:aa}{KS:aa→Prop}(k:KS (HR tb v m t)):ao 1 (.op 3 5) (i_ v) (HR tb ts m t) KS:=
 aX (cs:=[i_ v]) (h':=HR tb v m t) rfl rfl rfl rfl (by show 6≤(RC tb ts m).length;rw[Au];omega) rfl rfl rfl k
omit [Laid] in
theorem kY{tb:AV}{ts:Nat}{m:List Nat}{t:aa}:(HR tb ts m t).length=4+t.length:=by unfold HR;simp only[aaB];omega
omit [Laid] in
theorem TU{K:AV→Prop}(k:K (i_ 8)):ja keys K:=k
omit [Laid] in
theorem TL(k:Nat):(HT (uC 0) (wE 0)).length≤(HT (uC k) (wE k)).length:=by
 unfold HT;rw[kY,kY,aaB,aaB];exact Nat.add_le_add_left (Nat.succ_le_succ (aaO _)) 4
theorem VH:∀k:Nat,k<4→∀{y v:List UInt8},T7[k]?=some y→Yr[k]?=some v→Ao 3 y v (8-2*(k:Int)) (HT (uC k) (wE k)) (HT (uC (k+1)) (wE (k+1))):=fun k h y v hy hv=>by
 match k,h with
 | 0,_ =>
   cases hy;cases hv;exact uO (m:=3) (n:=5) (tbl:=uC 0) (t:=[]) rfl (by decide) rfl (.inl ⟨rfl,rfl,rfl,rfl⟩) (Kv (n:=5) (m:=6) (v0:=[]) (p0:=0) rfl rfl rfl) (by decide)
 | 1,_ =>
   cases hy;cases hv;exact uO (m:=3) (n:=5) (tbl:=uC 1) (t:=wE 1) rfl (by decide) rfl (.inr ⟨rfl,rfl,rfl⟩) (uN (v0:=[]) (pre:=[10]) (nx:=.op 6 0) rfl rfl) (by decide)
 | 2,_ =>
   cases hy;cases hv;exact uO (m:=2) (n:=7) (tbl:=uC 2) (t:=wE 2) rfl (by decide) rfl (.inl ⟨rfl,rfl,rfl,rfl⟩) (uN (v0:=[]) (pre:=[]) (nx:=mc) rfl rfl) (by decide)
 | 3,_ =>
   cases hy;cases hv;exact uO (m:=0) (n:=8) (tbl:=uC 3) (t:=wE 3) rfl (by decide) rfl (.inl ⟨rfl,rfl,rfl,rfl⟩) (uN (v0:=[]) (pre:=[]) (nx:=mc) rfl rfl) (by decide)
theorem M0:bV p_ 163 [keys] (Hb 1) fun r H=>r=.op 3 0∧H=HT (uC 4) (wE 4):=by
 refine (Y4 _).bI ?_;unfold SM;refine bW (cs:=RC wB 0 (mK 0)) (n:=3) (h':=HR wB 0 (mK 0) []) (by rfl) (by rfl) rfl rfl (bc (α:=Nat) (fun k=>k≤4) (fun k=>[i_ ((2*k:Nat):Int)]) (fun k=>HR wB 0 (mK k) []) (fun k=>4-k) 0 (aaO _) (Wk.refl _ _ _ (bY _)) ?_);intro k hk;refine DN (zzC ?_);rcases uP k 4 with q|q
 ·obtain⟨y,v,hy,hv,h1,_,hl⟩:=Pn k q;refine zzL (oF (by omega)) (JF h1 (zzW ?_));have hm:=Fm k;have hlen:∀j,(fl (mK k) (y.take j)).length=256:=fun j=>by rw[EM];exact hm
  refine bc (α:=Nat) (fun j=>j≤y.length) (fun j=>[i_ j]) (fun j=>HR wB 0 (fl (mK k) (y.take j)) []) (fun j=>y.length-j) 0 (aaO _) (Wk.refl _ _ _ (bY _)) ?_;intro j hj;refine zzZ fun _=>?_;refine zzC ?_;rcases uP j y.length with z|z
  ·obtain⟨b,hb⟩:∃b,y[j]?=some b:=⟨_,dO z⟩;refine zzL (oF (by omega)) (K6 hb (kp (Yn b.toNat_lt (JY (v:=1) (hlen j) b.toNat_lt (zzP (by unfold aJ;omega) (aq ?_))))));refine⟨j+1,z, ?_,by omega⟩;have e:fl (mK k) (y.take (j+1))=(fl (mK k) (y.take j)).set b.toNat 1:=by
    rw[By,hb];unfold fl;rw[aaS];rfl
   rw[e];exact Wk.refl _ _ _ (by rw[kY,kY];exact bY _)
  ·obtain rfl:j=y.length:=by omega
   refine zzK (by simp) (zzP (by unfold aJ;omega) (aq ?_));refine⟨k+1,q, ?_,by omega⟩;have e:mK (k+1)=fl (mK k) (y.take y.length):=by
    unfold mK;rw[By,hy,aaS,BY];rfl
   rw[e,show (2*(k+1):Nat)=2*k+2 from rfl];exact Wk.refl _ _ _ (by rw[kY,kY];exact bY _)
 obtain rfl:k=4:=by omega
 refine zzK rfl ?_;have hm:=Fm 4;refine kp (Lg hm (bc (α:=Nat) (fun i=>i≤256) (fun i=>[i_ i]) (fun i=>HR wB ((mK 4).take i).sum (mK 4) []) (fun i=>256-i) 0 (aaO _) (Wk.refl _ _ _ (bY _)) ?_));intro i hi;refine zzC ?_;rcases uP i 256 with q|q
 ·have s1:=Mg i hi;refine zzL (oF (by show (i:Int)<256;omega)) (Pj hm q (kp (zzU rfl rfl (Kx (m:=(((mK 4).getD i 0:Nat):Int)) (by rw[IntKind.wrap_i64];show ((((mK 4).getD i 0:Nat):Int)+9223372036854775808)%18446744073709551616-9223372036854775808=_;omega) (zzP (by unfold aJ;omega) (kp ?_))))));have e:=Gh (m:=mK 4) (i:=i) (by omega);rw[show (((mK 4).take i).sum:Int)+(((mK 4).getD i 0:Nat):Int)=(((mK 4).take (i+1)).sum:Int) by rw[e];omega];refine Wv (zzP (by unfold aJ;omega) (aq ?_));exact⟨i+1,q,Wk.refl _ _ _ (by rw[kY,kY];exact bY _),by omega⟩
 obtain rfl:i=256:=by omega
 refine zzK rfl ?_;rw[show ((mK 4).take 256).sum=4 by kernel_rfl];refine kp (Lg hm ?_);have f0:wR 0=mK 4:=rfl;have fl8:∀i,i≤256→(wR i).length=256:=fun i hi=>by
  have h1:fu.length=256:=by kernel_rfl
  unfold wR;rw[AT,aaI,List.length_drop];omega
 refine bc (α:=Nat) (fun i=>i≤256) (fun i=>[n8 ((mK 4).take i).sum,i_ i]) (fun i=>HR wB 4 (wR i) []) (fun i=>256-i) 0 (aaO _) (by rw[f0];exact Wk.refl _ _ _ (bY _)) ?_;intro i hi;refine zzC ?_;rcases uP i 256 with q|q
 ·have s1:=Mg i hi;have s2:=TH i q;have e:=Gh (m:=mK 4) (i:=i) (by omega);refine zzL (oF (by show (i:Int)<256;omega)) (aH (Pj hm q (zzG ?_)))
  by_cases z:(mK 4).getD i 0=0
  ·rw[if_pos z]at s2;refine zzL (by rw[z];rfl) (kp (zzU rfl rfl (Kx (m:=4) rfl (kp (TV q (JY (v:=4) (fl8 i hi) q (aq (zzP (by unfold aJ;omega) (aq ?_)))))))));refine⟨i+1,q, ?_,by omega⟩;rw[Hx q s2,e,z];exact Wk.refl _ _ _ (by rw[kY,kY];exact bY _)
  ·rw[if_neg z]at s2;refine zzK (nO (by show ¬(((mK 4).getD i 0:Nat):Int)=0;omega)) (kp (TV q (JY (fl8 i hi) q (Tx (by omega) (aq (zzP (by unfold aJ;omega) (aq ?_)))))));refine⟨i+1,q, ?_,by omega⟩;rw[Hx q s2,e,show (mK 4).getD i 0=1 by omega];exact Wk.refl _ _ _ (by rw[kY,kY];exact bY _)
 obtain rfl:i=256:=by omega
 have f1:wR 256=fu:=by kernel_rfl
 rw[f1];refine zzK rfl (kp (zzU rfl rfl ?_));refine⟨⟨by decide,by decide,by decide,by decide⟩, ?_⟩;refine kp (zzA (aX (cs:=[.own 4 0 4 1]) (h':=HT (uC 0) (wE 0)) rfl rfl rfl rfl (by show 5≤(RC wB 4 fu).length;rw[Au];omega) rfl rfl rfl (bc (α:=Nat) (fun k=>k≤4) (fun k=>[i_ ((2*k:Nat):Int)]) (fun k=>HT (uC k) (wE k)) (fun k=>4-k) 0 (aaO _) (Wk.refl _ _ _ (by decide)) ?_)));intro k hk;refine DN (zzC ?_);rcases uP k 4 with q|q
 ·obtain⟨y,v,hy,hv,h1,h2,_⟩:=Pn k q;refine zzL (oF (by omega)) (kp (JF h1 (zzW (zzP (by unfold aJ;omega) (JF h2 (zzW (TU (zze (by unfold aJ;omega) (rf (by kernel_rfl) (VH k q hy hv) ?_)))))))));rintro _ _ ⟨rfl,rfl⟩;refine zzP (by unfold aJ;omega) (aq ?_);refine⟨k+1,q, ?_,by omega⟩;rw[show (2*(k+1):Nat)=2*k+2 from rfl];exact Wk.refl _ _ _ (TL _)
 ·obtain rfl:k=4:=by omega
  refine zzK rfl ?_;exact⟨_,_,Wk.refl _ _ _ (by decide),rfl,rfl⟩
theorem MT:bV p_ 93 [.op 2 0] (Hb 1) fun r hh=>r=.aA []∧hh=Ha 0 1:=by
 refine (V93 _).bI ?_;unfold Yg;have hb:bV p_ 131 [.op 2 0] (Hb 1) fun r hh=>r=.gV 212 (.op 3 0)∧hh=HT (uC 4) (wE 4):=by
  refine (YR _).bI ?_;unfold Sz;refine kp (zzU rfl rfl (DN (zzG (aH (zzM rfl (aq (zzQ (zzK rfl (bc (α:=Unit) (fun _=>True) (fun _=>[tt,i_ 0]) (fun _=>Hb 1) (fun _=>0) () trivial (Wk.refl _ _ _ (by decide)) ?_)))))))));intro _ _;refine DN (zzC (zzL rfl (aH (JF (i:=0) (s:=[13,10]) rfl (zzW ?_)))));refine zzZ fun _=>?_;refine zzH (zzL rfl (rf (by kernel_rfl) M0 ?_));rintro _ _ ⟨rfl,rfl⟩;exact⟨_,_,Wk.refl _ _ _ (by decide),rfl,rfl⟩
 refine rf (by kernel_rfl) hb ?_;rintro _ _ ⟨rfl,rfl⟩;refine kp (aX (cs:=[.gV 212 (.op 3 0)]) (h':=(HT (uC 4) (wE 4)).set 2 (.ah ⟨162,[.v (.int .u32 0),.v (.int .i32 1),.v (.int .u32 0),.gV 212 (.op 3 0),keys],true⟩)) rfl rfl rfl rfl (by decide) rfl rfl rfl (kp (aX (cs:=[wB]) (h':=Ha 0 1) rfl rfl rfl rfl (by decide) rfl rfl (by kernel_rfl) ?_)));exact⟨_,_,Wk.refl _ _ _ (by decide),rfl,rfl⟩
theorem PU:bV p_ 57 [] [] fun r hh=>r=.op 2 0∧hh=Hb 0:=by
 refine (V57).bI ?_;unfold XL;have mk:∀{K:AV→aa→Prop},K (.own 0 0 8 1) [e0]→ou 9 8 1 (.str []) [(0,1,(.str [13,10])),(1,1,(.str [10])),(2,1,(.str [13])),(3,1,(.str [10])),(4,1,(.str [12])),(5,1,(.str [10])),(6,1,(.str [0])),(7,1,(.str [239,191,189]))] [] K:=fun k=>k;refine mk ?_;have hn:bV p_ 91 [.own 0 0 8 1] [e0] fun r hh=>r=.op 2 0∧hh=Hb 0:=by
  refine (V91 _).bI ?_;unfold Ye;refine aH ?_;refine fun _=>?_;refine⟨rfl,by decide, ?_⟩;refine zzG (zzK rfl (aq ?_));have ap:∀{K:AV→aa→Prop},bP false 9 1 16 .emp (.own 0 0 8 1) [e0] K→bP false 9 1 16 wB (.own 0 0 8 1) [e0] K:=fun k=>k;refine ap (Lq (n:=1) (k:=8) (h':=[e0,e1]) rfl (F9 (b:=⟨9,[.str [13,10],.str [10],.str [13],.str [10],.str [12],.str [10],.str [0],.str [239,191,189]],true⟩) rfl (by decide)) rfl rfl ⟨by decide,by decide⟩ rfl rfl (bf rfl (bW (cs:=[.v (.int .u32 0),.v (.int .i32 0),.v (.int .u32 0),.v .nilIface,keys]) (n:=2) (h':=Hb 0) rfl rfl rfl rfl ?_)));exact⟨_,_,Wk.refl _ _ _ (by decide),rfl,rfl⟩
 refine rf (by kernel_rfl) hn ?_;rintro _ _ ⟨rfl,rfl⟩;exact⟨_,_,Wk.refl _ _ _ (aaO _),rfl,rfl⟩
end
end
section
open Go Go.Aw
variable [Laid]
theorem cell_of{base:Nat}{ι:List Ix}{S:ba}{w:World}{h:aa}(hh:cL base ι S w h){i b:Nat}{x:jH}(e:h[i]?=some (.ah x))(hi:ι[i]?=some (.ah b)){o:Nat}{c:AV}(hc:x.cells[o]?=some c):
 ∃v,w.cell? ⟨b,o,none⟩=some v∧au ι S w c v∧w.frozen? ⟨b,o,none⟩=false:=by
 obtain⟨b',arr,fz,k1,k2,k3,k4,k5,k6,_⟩:=hh.live i x e;rw[hi]at k1;cases k1;obtain⟨v,e1,r⟩:=k6 o c hc;refine⟨v,by rw[gb k3];exact e1,r, ?_⟩;have hlt:o<arr.size:=(AS.1 e1).1;have:=k4 o hlt;rw[qc k3];simpa using this
theorem MV:bV p_ 130 [.op 2 0,.fn (.func 93) [.op 2 0] []] (Hb 0) fun r hh=>r=.aA []∧hh=Ha 1 0:=by
 intro base ι S w vs h1 h2
 match vs,h1 with
 | [],h1=>simp at h1
 | [v],h1=>simp at h1
 | v:: u:: x:: vs,h1=>simp at h1
 | [v,u],h1 =>
   simp only[bO,dp,and_true]at h1;obtain⟨r1,r2⟩:=h1;rw[au]at r1;rw[au]at r2;obtain⟨b,hb,rfl⟩:=r1;obtain⟨ps,qs,rfl,r3,r4⟩:=r2
   match ps,r3 with
   | [],r3=>simp at r3
   | p:: q:: ps,r3=>simp at r3
   | [p],r3 =>
     simp only[bO,dp,and_true]at r3;rw[au]at r3;obtain⟨b',hb',rfl⟩:=r3;rw[hb]at hb';cases hb';simp only[dp]at r4;subst r4;have hx:(Hb 0)[2]?=some (.ah (tq 0 0 (.v .nilIface) keys)):=rfl;obtain⟨v0,g0,q0,z0⟩:=cell_of h2 hx hb (o:=0) (c:=.v (.int .u32 0)) rfl;obtain⟨v1,g1,q1,z1⟩:=cell_of h2 hx hb (o:=1) (c:=.v (.int .i32 0)) rfl;rw[cz]at q0 q1;subst q0;subst q1;obtain⟨hE1,hH1⟩:=h2.set hx rfl hb (o:=1) (by simp[tq]) (c:=.v (.int .i32 1)) (v:=.int .i32 1) (by simp);have hH1':cL base ι S (w.setCell ⟨b,1,none⟩ (.int .i32 1)) (Hb 1):=hH1;have hl:=h2.len;have hf:=MT base ι S _ [.pointer (some ⟨b,0,none⟩)] (by simp only[bO,dp,and_true];rw[au];exact⟨b,hb,rfl⟩) hH1';refine (OC b w (fun w' => ∃ι' S',bS 3 base ι S (w.setCell ⟨b,1,none⟩ (.int .i32 1)) ι' S' w'∧cL base ι' S' w' (Ha 0 1)∧ι'[2]?=some (.ah b)) g0 g1 z0 z1 (hf.mono ?_)).mono ?_
     ·rintro e w' ⟨v,ι',S',r,h',rfl,k1,k2,k3,k4,rfl,rfl⟩;rw[au]at k2;obtain⟨us,rfl,k2⟩:=k2;simp only[dp]at k2;subst k2;have hx':(Ha 0 1)[2]?=some (.ah (tq 0 1 (.gV 212 (.op 3 0)) (.v (.slice none 0 0)))):=rfl;have hb2:ι'[2]?=some (.ah b):=by
       obtain⟨b',arr,fz,m1,_⟩:=k3.live 2 _ hx';have:=k1.pre 2 (by decide);rw[hb,m1]at this;rw[m1];simpa[fX]using this
      obtain⟨v0,g0,q0,z0⟩:=cell_of k3 hx' hb2 (o:=0) (c:=.v (.int .u32 0)) rfl;obtain⟨v1,g1,q1,z1⟩:=cell_of k3 hx' hb2 (o:=1) (c:=.v (.int .i32 1)) rfl;rw[cz]at q1;subst q1;exact⟨rfl,⟨v0,g0⟩,g1,z0,z1,ι',S',k1,k3,hb2⟩
     ·rintro e w'' ⟨rfl,w',⟨ι',S',k1,k3,hb2⟩,rfl⟩;obtain⟨d1,d2⟩:=k3.drew;have hx':(Ha 0 1)[2]?=some (.ah (tq 0 1 (.gV 212 (.op 3 0)) (.v (.slice none 0 0)))):=rfl;obtain⟨s1,s2⟩:=d2.set hx' rfl hb2 (o:=0) (by simp[tq]) (c:=.v (.int .u32 1)) (v:=.int .u32 1) (by simp);have s2':cL base ι' S' (w'.drew.setCell ⟨b,0,none⟩ (.int .u32 1)) (Ha 1 1):=s2;have hx2:(Ha 1 1)[2]?=some (.ah (tq 1 1 (.gV 212 (.op 3 0)) (.v (.slice none 0 0)))):=rfl;obtain⟨t1,t2⟩:=s2'.set hx2 rfl hb2 (o:=1) (by simp[tq]) (c:=.v (.int .i32 0)) (v:=.int .i32 0) (by simp);have t2':cL base ι' S' ((w'.drew.setCell ⟨b,0,none⟩ (.int .u32 1)).setCell ⟨b,1,none⟩ (.int .i32 0)) (Ha 1 0):=t2;have hl3:ι.length=3:=hl;have hl9:3≤ι'.length:=by rw[k3.len];decide
      have E0:bS 3 base ι S w ι S (w.setCell ⟨b,1,none⟩ (.int .i32 1)):=hE1.mono (by omega) (bY _);exact⟨_,ι',S',.aA [],Ha 1 0,rfl,((((E0.trans k1).trans (d1.mono hl9 (bY _))).trans (s1.mono hl9 (bY _))).trans (t1.mono hl9 (bY _))),by rw[au];exact⟨[],rfl,by simp⟩,t2',by decide,rfl,rfl⟩
theorem MU:bV p_ 129 [.op 2 0] (Hb 0) fun r hh=>r=b_ false∧hh=Hb 0:=by
 intro base ι S w vs h1 h2
 match vs,h1 with
 | [],h1=>simp at h1
 | v:: u:: vs,h1=>simp at h1
 | [v],h1 =>
   simp only[bO,dp,and_true]at h1;rw[au]at h1;obtain⟨b,hb,rfl⟩:=h1;have hx:(Hb 0)[2]?=some (.ah (tq 0 0 (.v .nilIface) keys)):=rfl;obtain⟨v0,g0,q0,z0⟩:=cell_of h2 hx hb (o:=0) (c:=.v (.int .u32 0)) rfl;rw[cz]at q0;subst q0;refine (De _ w g0).mono ?_;rintro e w' ⟨rfl,rfl⟩;exact⟨_,ι,S,b_ false,_,rfl,bS.refl _ _ _ _ _,by simp,h2,bY _,rfl,rfl⟩
theorem MS:bV p_ 92 [.op 2 0,.fn (.func 93) [.op 2 0] []] (Hb 0) fun r hh=>r=.aA []∧hh=Ha 1 0:=by
 refine (V92 _ _).bI ?_;unfold Yf;simp only[nI,rQ];refine⟨by kernel_rfl,MU.mono ?_⟩;rintro r hh ⟨rfl,rfl⟩;simp only[TT,QB];refine⟨fun _=>⟨by kernel_rfl,MV.mono ?_⟩,fun q=>by cases q⟩;rintro r hh ⟨rfl,rfl⟩;exact⟨_,_,Wk.refl _ _ _ (by decide),rfl,rfl⟩
omit [Laid] in
theorem tM:rb.drop 4=.own 4 0 4 1:: rb.drop 5:=by kernel_rfl
omit [Laid] in
theorem tN:rb.drop 5=i_ 4:: rb.drop 6:=by kernel_rfl
omit [Laid] in
theorem UJ:rb.length=262:=by kernel_rfl
omit [Laid] in
theorem UK(n:Nat)(h:n<256):rb.drop (6+n)=u8 (fu.getD n 0):: rb.drop (6+n+1):=by
 have hl:6+n<rb.length:=by rw[UJ];omega
 rw[aba hl]
 congr 1
 have:fu.length=256:=by kernel_rfl
 simp[rb,show 6+n=n+1+1+1+1+1+1 by omega,this,h]
omit [Laid] in
theorem Ug(n:Nat)(h:n<256)(h0:n≠0)(h1:n≠12)(h2:n≠13):fu.getD n 0=4∨fu.getD n 0=1:=by
 have:=At.1 (show ((List.range 256).all fun n=>n == 0||n == 12||n == 13||fu.getD n 0 == 4||fu.getD n 0 == 1)=true by kernel_rfl) n (by simpa using h);simp only[aa7,beq_iff_eq]at this;omega
end
section
open Go Go.Aw
variable [bq]
def G(x y:aL):aa:=e0:: e1:: .ah (tq 1 0 (.gV 212 (.op 3 0)) (.v (.slice none 0 0))):: .ah ⟨252,rb,true⟩:: .ah ⟨247,tb,true⟩:: (PF++[x,y])
omit [bq] in
@[simp] theorem O3(x y:aL):(G x y).length=11:=rfl
omit [bq] in
@[simp] theorem G_3(x y:aL):(G x y)[3]?=some (.ah ⟨252,rb,true⟩):=rfl
omit [bq] in
@[simp] theorem G_4(x y:aL):(G x y)[4]?=some (.ah ⟨247,tb,true⟩):=rfl
omit [bq] in
@[simp] theorem G_9(x y:aL):(G x y)[9]?=some x:=rfl
omit [bq] in
@[simp] theorem acw(x y:aL):(G x y)[10]?=some y:=rfl
omit [bq] in
@[simp] theorem acy(x y z:aL):(G x y).set 9 z=G z y:=rfl
omit [bq] in
@[simp] theorem acr(x y z:aL):(G x y).set 10 z=G x z:=rfl
omit [bq] in
theorem sd:rb.tail=i_ 0:: rb.drop 2:=by kernel_rfl
omit [bq] in
@[simp] theorem acx(x y:aL)(l:aa):(G x y++l)[3]?=some (.ah ⟨252,rb,true⟩):=rfl
omit [bq] in
@[simp] theorem acp(x y:aL)(l:aa):(G x y++l)[10]?=some y:=rfl
omit [bq] in
@[simp] theorem acq(x y z:aL):(G x y++[z])[11]?=some z:=rfl
omit [bq] in
@[simp] theorem aaA(x y z:aL)(l:aa):(G x y++l).set 10 z=G x z++l:=rfl
omit [bq] in
theorem qK(s:List UInt8):(s.map fun b=>[bg b]).flatten=s.map bg:=by
 induction s with
 | nil=>rfl
 | cons b s ih=>simp[ih]
omit [bq] in
theorem Z4:tb.tail=.v (.pointer none):: tb.drop 2:=by kernel_rfl
omit [bq] in
theorem QU:pd p_ "WriteString" 321=some 282:=by kernel_rfl
omit [bq] in
theorem QT:pd p_ "Replace" 212=some 266:=by kernel_rfl
theorem Zn(h:aa):bV p_ 268 [.gV 321 (.op 10 0)] h fun r hh=>r=.gV 321 (.op 10 0)∧hh=h:=by
 refine (Zl _).bI ?_;unfold S6;have:EY p_ 325 321=true:=by kernel_rfl
 simp[this];exact Wk.refl _ _ _ (bY _)
omit [bq] in
theorem nN_(s:List UInt8):wG (s.map bg)=some s:=by
 induction s with
 | nil=>rfl
 | cons b s ih=>simp[wG,bg]at ih ⊢;simp[ih]
theorem Jf(s:List UInt8)(hl:4000<s.length):bn p_ 42 [.str s] (.aA [.str [],i_ 28]):=by
 refine (WU _).bj (by simp) (by simp) ?_;unfold S8;have hn:(4000:Int)<(s.length:Int):=by omega
 simp[hn];exact fun _=>.pure (by simp) rfl
end
section
open Go Go.Aw Go.RowKit
variable [bq]
section
variable [Laid]
omit [Laid] in
omit [bq] in
theorem OV{x y:AV}{a b:Int}{K:AV→Prop}(ex:x=i_ a)(ey:y=i_ b)(q:K (i_ (di .or .i64 a b))):ae .or x y K:=by
 subst ex;subst ey;simpa[ae]using q
def jv(b f t:Int):Bool:=decide (f≤b)&&decide (b≤t)
omit [bq] in
theorem pI(b f t:Int):bn p_ 137 [i_ b,i_ f,i_ t] (b_ (jv b f t)):=by
 refine (YU _ _ _).bj (by simp) (by simp) ?_;unfold SC
 by_cases h1:f≤b
 ·simp[h1];exact .pure (by simp) (by simp[jv,h1])
 ·simp[h1];exact .pure (by simp) (by simp[jv,h1])
omit [bq] in
theorem nG(n:Int):bn p_ 98 [i_ n] (b_ (jv n 48 57)):=by
 refine (V98 _).bj (by simp) (by simp) ?_;unfold Yj;refine uCon (pI n 48 57) ?_;exact .pure (by simp) rfl
def fi_(n:Int):Bool:=(jv (di .or .i64 n 32) 97 122&&decide (n<128)&&decide (64<n))||decide (n=95)||decide (128≤n)
omit [bq] in
theorem wN(n:Int):bn p_ 97 [i_ n] (b_ (fi_ n)):=by
 refine (V97 _).bj (by simp) (by simp) ?_;unfold Yi;refine OV rfl rfl (uCon (pI (di .or .i64 n 32) 97 122) ?_)
 by_cases c1:n<128
 all_goals by_cases c2:64<n
 all_goals by_cases c3:n=95
 all_goals cases h1:jv (di .or .i64 n 32) 97 122
 all_goals
  repeat first|((with_reducible apply aH))|((with_reducible apply aq))|((with_reducible apply jk);rfl)|((with_reducible apply jX);rfl)|((with_reducible apply dc);rfl)|((with_reducible apply aM);rfl)|((with_reducible apply aO);rfl)|((with_reducible apply oK true);rfl;rfl;exact oF (by omega))|((with_reducible apply oK false);rfl;rfl;exact nO (by omega))|((with_reducible apply qW true);rfl;rfl;exact oF (by omega))|((with_reducible apply qW false);rfl;rfl;exact nO (by omega))|((with_reducible apply pT true);rfl;rfl;exact oF (by omega))|((with_reducible apply pT false);rfl;rfl;exact nO (by omega))|((with_reducible apply pS true);rfl;rfl;exact oF (by omega))|((with_reducible apply pS false);rfl;rfl;exact nO (by omega))|((with_reducible apply pR true);rfl;rfl;exact oF (by omega))|((with_reducible apply pR false);rfl;rfl;exact nO (by omega))
  exact .pure (by simp) (by first|(simp[fi_,h1,c1,c2,c3];done)|(simp[fi_,h1,c1,c2,c3];omega)|(exfalso;omega))
def uA(n:Int):Bool:=decide (n=32)||decide (n=9)||decide (n=10)
omit [bq] in
theorem sQ(n:Int):bn p_ 62 [i_ n] (b_ (uA n)):=by
 refine (V62 _).bj (by simp) (by simp) ?_;unfold XO
 by_cases c1:n=32
 all_goals by_cases c2:n=9
 all_goals by_cases c3:n=10
 all_goals
  repeat first|((with_reducible apply aH))|((with_reducible apply aq))|((with_reducible apply jk);rfl)|((with_reducible apply jX);rfl)|((with_reducible apply dc);rfl)|((with_reducible apply aM);rfl)|((with_reducible apply aO);rfl)|((with_reducible apply oK true);rfl;rfl;exact oF (by omega))|((with_reducible apply oK false);rfl;rfl;exact nO (by omega))|((with_reducible apply qW true);rfl;rfl;exact oF (by omega))|((with_reducible apply qW false);rfl;rfl;exact nO (by omega))|((with_reducible apply pT true);rfl;rfl;exact oF (by omega))|((with_reducible apply pT false);rfl;rfl;exact nO (by omega))|((with_reducible apply pS true);rfl;rfl;exact oF (by omega))|((with_reducible apply pS false);rfl;rfl;exact nO (by omega))|((with_reducible apply pR true);rfl;rfl;exact oF (by omega))|((with_reducible apply pR false);rfl;rfl;exact nO (by omega))
  exact .pure (by simp) (by first|(simp[uA,c1,c2,c3];done)|(exfalso;omega))
omit [bq] in
theorem AL(n:Int):bn p_ 65 [i_ n] (b_ (fi_ n||jv n 48 57||decide (n=45))):=by
 refine (V65 _).bj (by simp) (by simp) ?_;unfold XR;refine uCon (wN n) ?_;cases h1:fi_ n
 ·repeat first|((with_reducible apply aH))|((with_reducible apply aq))|((with_reducible apply jk);rfl)|((with_reducible apply jX);rfl)|((with_reducible apply dc);rfl)|((with_reducible apply aM);rfl)|((with_reducible apply aO);rfl)|((with_reducible apply oK true);rfl;rfl;exact oF (by omega))|((with_reducible apply oK false);rfl;rfl;exact nO (by omega))|((with_reducible apply qW true);rfl;rfl;exact oF (by omega))|((with_reducible apply qW false);rfl;rfl;exact nO (by omega))|((with_reducible apply pT true);rfl;rfl;exact oF (by omega))|((with_reducible apply pT false);rfl;rfl;exact nO (by omega))|((with_reducible apply pS true);rfl;rfl;exact oF (by omega))|((with_reducible apply pS false);rfl;rfl;exact nO (by omega))|((with_reducible apply pR true);rfl;rfl;exact oF (by omega))|((with_reducible apply pR false);rfl;rfl;exact nO (by omega))
  refine uCon (nG n) ?_;cases h2:jv n 48 57;all_goals by_cases c1:n=45
  all_goals
   repeat first|((with_reducible apply aH))|((with_reducible apply aq))|((with_reducible apply jk);rfl)|((with_reducible apply jX);rfl)|((with_reducible apply dc);rfl)|((with_reducible apply aM);rfl)|((with_reducible apply aO);rfl)|((with_reducible apply oK true);rfl;rfl;exact oF (by omega))|((with_reducible apply oK false);rfl;rfl;exact nO (by omega))|((with_reducible apply qW true);rfl;rfl;exact oF (by omega))|((with_reducible apply qW false);rfl;rfl;exact nO (by omega))|((with_reducible apply pT true);rfl;rfl;exact oF (by omega))|((with_reducible apply pT false);rfl;rfl;exact nO (by omega))|((with_reducible apply pS true);rfl;rfl;exact oF (by omega))|((with_reducible apply pS false);rfl;rfl;exact nO (by omega))|((with_reducible apply pR true);rfl;rfl;exact oF (by omega))|((with_reducible apply pR false);rfl;rfl;exact nO (by omega))
   exact .pure (by simp) (by simp[c1])
 ·repeat first|((with_reducible apply aH))|((with_reducible apply aq))|((with_reducible apply jk);rfl)|((with_reducible apply jX);rfl)|((with_reducible apply dc);rfl)|((with_reducible apply aM);rfl)|((with_reducible apply aO);rfl)|((with_reducible apply oK true);rfl;rfl;exact oF (by omega))|((with_reducible apply oK false);rfl;rfl;exact nO (by omega))|((with_reducible apply qW true);rfl;rfl;exact oF (by omega))|((with_reducible apply qW false);rfl;rfl;exact nO (by omega))|((with_reducible apply pT true);rfl;rfl;exact oF (by omega))|((with_reducible apply pT false);rfl;rfl;exact nO (by omega))|((with_reducible apply pS true);rfl;rfl;exact oF (by omega))|((with_reducible apply pS false);rfl;rfl;exact nO (by omega))|((with_reducible apply pR true);rfl;rfl;exact oF (by omega))|((with_reducible apply pR false);rfl;rfl;exact nO (by omega))
  exact .pure (by simp) (by simp)
omit [bq] in
theorem Qb(l m:List UInt8):bn p_ 94 [.str l,.str m] (b_ (decide (m.length≤l.length)&&decide (l.take m.length=m))):=by
 refine (WX _ _).bj (by simp) (by simp) ?_;unfold Tc
 by_cases h1:m.length≤l.length
 ·simp[h1];refine fun _ _=>.pure (by simp) (by simp)
 ·simp[h1];refine fun _ _=>.pure (by simp) (by simp)
omit [bq] in
theorem rI(l m:List UInt8):bn p_ 59 [.str l,.str m] (b_ (decide (m.length≤l.length)&&decide (l.take m.length=m))):=by
 refine (WW _ _).bj (by simp) (by simp) ?_;unfold Ta;refine uCon (Qb l m) ?_;exact .pure (by simp) rfl
end
/-! Forms that the kernel runs. -/
def kF_(m:List UInt8):List UInt8→Bool:=List.rec (motive:=fun _=>List UInt8→Bool) (fun _=>true) (fun y _ ih l=>match l with|[]=>false|x:: l=>match Nat.beq x.toNat y.toNat with|true=>ih l|false=>false) m
end
section
open Go Go.Aw Go.RowKit
abbrev af:=List UInt8
def pk(s:af)(i:Nat):Int:=match s[i]? with|some b=>(b.toNat:Int)|none=>-1
abbrev ek(s:af)(a:Nat):aL:=.ah ⟨101,[.str s,i_ a],true⟩
def Sc(id:Nat)(h:aa)(s:af)(a:Nat):Prop:=h[id]?=some (ek s a)
theorem Rb{s:af}{i:Nat}{b:UInt8}(h:s[i]?=some b):pk s i=(b.toNat:Int):=by unfold pk;rw[h]
theorem Ik{s:af}{i:Nat}(h:s.length≤i):pk s i=-1:=by unfold pk;rw[iS h]
theorem V5(s:af)(i:Nat):pk s i<256:=by
 unfold pk;split
 ·rename_i b _;have:=b.toNat_lt;omega
 ·omega
theorem V3(s:af)(i:Nat):-1≤pk s i:=by
 unfold pk;split<;>omega
theorem Sc.lt{id:Nat}{h:aa}{s:af}{a:Nat}(sc:Sc id h s a):id<h.length:=(eQ.1 sc).1
theorem Sc.set{id:Nat}{h:aa}{s:af}{a:Nat}(sc:Sc id h s a)(b:Nat):Sc id (h.set id (ek s b)) s b:=iD sc.lt
theorem Sc.app{id:Nat}{h:aa}{s:af}{a:Nat}(sc:Sc id h s a)(j:aa):Sc id (h++j) s a:=by
 unfold Sc;rw[gO sc.lt];exact sc
def Mv(id:Nat)(s:af)(a:Nat)(h h':aa):Prop:=∃j,h'=h.set id (ek s a)++j
theorem Mv.other{id a:Nat}{s:af}{h h':aa}(g:Mv id s a h h'){i:Nat}(hi:i<h.length)(hne:i≠id):h'[i]?=h[i]?:=by
 obtain⟨j,rfl⟩:=g;rw[gO (by simpa using hi),iF (Ne.symm hne)]
theorem Mv.set(id:Nat)(s:af)(a:Nat)(h:aa):Mv id s a h (h.set id (ek s a)):=⟨[],by simp⟩
theorem IK{x:AV}{l:af}{K:AV→Prop}(e:x=.str l)(q:K (i_ l.length)):kZ x K:=by subst e;exact q
theorem fk{k k':IntKind}{x:AV}{n m:Int}{K:AV→Prop}(e:x=.v (.int k' n))(hm:k.wrap n=m)(q:K (.v (.int k m))):cy k x K:=by subst hm;exact⟨k',n,e,q⟩
theorem Mz(b:UInt8):IntKind.i64.wrap (b.toNat:Int)=(b.toNat:Int):=by rw[IntKind.wrap_i64];have:=b.toNat_lt;omega
variable [Laid]
theorem cB{P:Program}{f:FuncId}{args args':List AV}{h:aa}{K0 K:AV→aa→Prop}(hb:dr P f=true)(e:args=args')(c:bV P f args' h K0)(k:∀r h',K0 r h'→K r h'):bz P (.fn (.func f) [] []) args h K:=by
 subst e;exact⟨hb,by simpa using c.mono k⟩
theorem M3{id:Nat}{h:aa}{s:af}{a:Nat}(sc:Sc id h s a)(n:Nat)(hn:a+n≤2^40):bV p_ 61 [.op id 0,i_ n] h fun r h' => r=i_ (pk s (a+n))∧h'=h:=by
 refine (V61 _ _).bI ?_;unfold XN;have hin:aJ ((a:Int)+(n:Int)):=by unfold aJ;omega
 refine enil (zzA (zzU sc rfl (zzP hin (enil (zzA (zzU sc rfl (IK rfl (zzC ?_))))))));refine ct rfl (fun q=>?_) fun q=>?_
 ·have q:a+n<s.length:=by have:=oN q;omega
  refine enil (zzA (zzU sc rfl (enil (zzA (zzU sc rfl (zzP hin ?_))))));refine tW (n:=a+n) rfl (by simp) (dO q) ?_;refine fk rfl (Mz _) ?_;exact⟨_,_,Wk.refl _ _ _ (bY _),by rw[Rb (dO q)],rfl⟩
 ·have q:s.length≤a+n:=by have:=tO q;omega
  exact⟨_,_,Wk.refl _ _ _ (bY _),by rw[Ik q],rfl⟩
theorem dx{id:Nat}{h:aa}{s:af}{a:Nat}{x:AV}{m:Int}{K:AV→aa→Prop}(n:Nat)(sc:Sc id h s a)(ex:x=.op id 0)(hm:m=(n:Int))(hn:a+n≤2^40)(k:K (i_ (pk s (a+n))) h):bz p_ (.fn (.func 61) [] []) [x,i_ m] h K:=by
 subst ex;subst hm;refine cB (by kernel_rfl) rfl (M3 sc n hn) ?_;rintro _ _ ⟨rfl,rfl⟩;exact k
def wQ(s:af)(i:Nat):Bool:=decide (pk s i=92)&&!decide (pk s (i+1)=10)
theorem xO{id:Nat}{h:aa}{s:af}{a:Nat}{x:AV}{m:Int}{K:AV→aa→Prop}(n:Nat)(sc:Sc id h s a)(ex:x=.op id 0)(hm:m=(n:Int))(hn:a+n<2^40)(k:K (b_ (wQ s (a+n))) h):bz p_ (.fn (.func 66) [] []) [x,i_ m] h K:=by
 subst ex;subst hm;refine cB (by kernel_rfl) rfl (K0:=fun r h' => r=b_ (wQ s (a+n))∧h'=h) ?_ ?_
 ·refine (V66 _ _).bI ?_;unfold XS;refine dx n sc rfl rfl (by omega) (zzG (aH ?_));refine cE rfl (fun q=>?_) fun q=>?_
  ·refine zzP (by unfold aJ;omega) (dx (n+1) sc rfl (by simp) (by omega) (zzH (zzR ?_)));exact⟨_,_,Wk.refl _ _ _ (bY _),by unfold wQ;rw[q];rfl,rfl⟩
  ·refine zzQ ?_;exact⟨_,_,Wk.refl _ _ _ (bY _),by unfold wQ;rw[q];rfl,rfl⟩
 ·rintro _ _ ⟨rfl,rfl⟩;exact k
def vr(s:af)(i:Nat):Bool:=if pk s i=45 then fi_ (pk s (i+1))||decide (pk s (i+1)=45)||wQ s (i+1) else fi_ (pk s i)||wQ s i
theorem A8{id:Nat}{h:aa}{s:af}{a:Nat}{x:AV}{m:Int}{K:AV→aa→Prop}(n:Nat)(sc:Sc id h s a)(ex:x=.op id 0)(hm:m=(n:Int))(hn:a+n<2^39)(k:K (b_ (vr s (a+n))) h):bz p_ (.fn (.func 67) [] []) [x,i_ m] h K:=by
 subst ex;subst hm;refine cB (by kernel_rfl) rfl (K0:=fun r h' => r=b_ (vr s (a+n))∧h'=h) ?_ ?_
 ·refine (V67 _ _).bI ?_;unfold XT;have hin:aJ ((n:Int)+1):=by unfold aJ;omega
  refine dx n sc rfl rfl (by omega) (zzH ?_);refine ct rfl (fun q=>?_) fun q=>?_
  ·have q:¬pk s (a+n)=45:=by simpa using q
   refine dx n sc rfl rfl (by omega) (uCon (wN _) (aH ?_));refine cE rfl (fun q1=>?_) fun q1=>?_
   ·refine xO n sc rfl rfl (by omega) (zzQ ?_);exact⟨_,_,Wk.refl _ _ _ (bY _),by unfold vr;rw[if_neg q,q1];rfl,rfl⟩
   ·refine zzR ?_;exact⟨_,_,Wk.refl _ _ _ (bY _),by unfold vr;rw[if_neg q,q1];rfl,rfl⟩
  ·have q:pk s (a+n)=45:=by simpa using q
   refine zzP hin (dx (n+1) sc rfl (by simp) (by omega) (uCon (wN _) (aH ?_)));have rest:∀(c:Bool),c=(fi_ (pk s (a+(n+1)))||decide (pk s (a+(n+1))=45))→aw (fun J27=>ar (b_ c) false (ae .add (i_ n) (i_ 1) fun v28=>bz p_ (.fn (.func 66) [] []) [(.op id 0),v28] h fun v29 g30=>J27 [ff,v29] g30) (J27 [(aN false (b_ c)),un] h)) fun s31 g32=>aI (nx s31 0) tt (nx s31 1) fun v33=>∃r' h'',Wk h.length [v33] g32 [r'] h''∧r'=b_ (vr s (a+n))∧h''=h:=by
    intro c hc;refine aH ?_;refine cE rfl (fun q1=>?_) fun q1=>?_
    ·refine zzP hin (xO (n+1) sc rfl (by simp) (by omega) (zzQ ?_));exact⟨_,_,Wk.refl _ _ _ (bY _),by unfold vr;rw[if_pos q,Nat.add_assoc,←hc,q1];rfl,rfl⟩
    ·refine zzR ?_;exact⟨_,_,Wk.refl _ _ _ (bY _),by unfold vr;rw[if_pos q,Nat.add_assoc,←hc,q1];rfl,rfl⟩
   refine cE rfl (fun q1=>?_) fun q1=>?_
   ·refine zzP hin (dx (n+1) sc rfl (by simp) (by omega) (zzG (aq (zzQ ?_))));exact rest _ (by rw[q1];rfl)
   ·refine aq (zzR ?_);exact rest true (by rw[q1];rfl)
 ·rintro _ _ ⟨rfl,rfl⟩;exact k
def mX(p:Int→Bool)(s:af)(a:Nat):Nat:=((s.drop a).takeWhile fun b=>p (b.toNat:Int)).length
omit [Laid] in
theorem L0{p:Int→Bool}{s:af}{a k:Nat}(hk:k<mX p s a):a+k<s.length∧p (pk s (a+k))=true:=by
 have key:∀(l:af) (k:Nat),k<(l.takeWhile fun b=>p (b.toNat:Int)).length→k<l.length∧p (pk l k)=true:=by
  intro l;induction l with
  | nil=>intro k hk;simp at hk
  | cons b l ih =>
    intro k hk
    by_cases hb:p (b.toNat:Int)=true
    ·have e:(b:: l).takeWhile (fun b=>p (b.toNat:Int))=b:: l.takeWhile (fun b=>p (b.toNat:Int)):=List.takeWhile_cons_of_pos hb;rw[e]at hk
     match k,hk with
     | 0,_=>exact⟨by simp,by simpa[pk]using hb⟩
     | k+1,hk =>
       have ⟨h1,h2⟩:=ih k (by simpa using hk);exact⟨by simpa using h1,by simpa[pk]using h2⟩
    ·have e:(b:: l).takeWhile (fun b=>p (b.toNat:Int))=[]:=List.takeWhile_cons_of_neg hb;rw[e]at hk;simp at hk
 have ⟨h1,h2⟩:=key (s.drop a) k hk;refine⟨by rw[List.length_drop]at h1;omega, ?_⟩;unfold pk at h2 ⊢
 rwa [aaG]at h2
omit [Laid] in
theorem Cq{p:Int→Bool}(hp:p (-1)=false)(s:af)(a:Nat):p (pk s (a+mX p s a))=false:=by
 unfold mX;have key:∀l:af,p (pk l ((l.takeWhile fun b=>p (b.toNat:Int)).length))=false:=by
  intro l;induction l with
  | nil=>simpa[pk]using hp
  | cons b l ih =>
    by_cases hb:p (b.toNat:Int)=true
    ·have e:(b:: l).takeWhile (fun b=>p (b.toNat:Int))=b:: l.takeWhile (fun b=>p (b.toNat:Int)):=List.takeWhile_cons_of_pos hb;rw[e,aaB];simpa[pk]using ih
    ·have e:(b:: l).takeWhile (fun b=>p (b.toNat:Int))=[]:=List.takeWhile_cons_of_neg hb;rw[e];simpa[pk]using hb
 have:=key (s.drop a);unfold pk at this ⊢
 rwa [aaG]at this
omit [Laid] in
theorem UO(p:Int→Bool)(s:af)(a:Nat):mX p s a≤s.length-a:=by
 unfold mX;have hle:((s.drop a).takeWhile fun b=>p (b.toNat:Int)).length≤(s.drop a).length:=(List.takeWhile_prefix _).length_le;simpa using hle
theorem HQ{id:Nat}{h:aa}{s:af}{a:Nat}{x:AV}{f:FuncId}{p:Int→Bool}{K:AV→aa→Prop}(sc:Sc id h s a)(ex:x=.op id 0)(hb:dr p_ f=true)(hc:∀n,bn p_ f [i_ n] (b_ (p n)))(hp:p (-1)=false)(ha:a≤s.length)(hl:s.length≤2^32)
 (k:K (.aA []) (h.set id (ek s (a+mX p s a)))):bz p_ (.fn (.func 63) [] []) [x,.fn (.func f) [] []] h K:=by
 subst ex;refine cB (by kernel_rfl) rfl (K0:=fun r h' => r=.aA []∧h'=h.set id (ek s (a+mX p s a))) ?_ ?_
 ·refine (V63 _ _).bI ?_;unfold XP;have hr:=UO p s a;refine bc (α:=Nat) (fun k=>k≤mX p s a) (fun _=>[]) (fun k=>h.set id (ek s (a+k))) (fun k=>mX p s a-k) 0 (aaO _) (by rw[Nat.add_zero,kn sc];exact Wk.refl _ _ _ (bY _)) ?_;intro k hk;have sc':=sc.set (a+k);refine dx 0 sc' rfl rfl (by omega) (sZ hb (hc _) ?_);rw[Nat.add_zero]
  by_cases q:k<mX p s a
  ·have ⟨q1,q2⟩:=L0 q;refine zzL q2 (enil (zzA (zzU sc' rfl (zzP (by unfold aJ;omega) (enil (zzA ?_))))));refine aX (cs:=[i_ ((a+k:Nat)+1:Int)]) (h':=h.set id (ek s (a+(k+1)))) rfl sc' rfl rfl (by simp) rfl rfl ?_ ?_
   ·rw[aaM];have e:((a+k:Nat):Int)+1=((a+(k+1):Nat):Int):=by omega
    show _=List.set h id (.ah ⟨101,[.str s,i_ ((a+(k+1):Nat):Int)],true⟩);rw[←e];rfl
   ·refine aq ⟨k+1,by omega,Wk.refl _ _ _ (by simp),by omega⟩
  ·obtain rfl:k=mX p s a:=by omega
   refine zzK (Cq hp s a) ?_;exact⟨_,_,Wk.refl _ _ _ (by simp),rfl,rfl⟩
 ·rintro _ _ ⟨rfl,rfl⟩;exact k
def FA(s:af)(a:Nat):Bool:=
 let n:=if pk s a=43∨pk s a=45 then 1 else 0
 let m:=if pk s (a+n)=46 then n+1 else n
 jv (pk s (a+m)) 48 57
theorem N6{id:Nat}{h:aa}{s:af}{a:Nat}{x:AV}{K:AV→aa→Prop}(sc:Sc id h s a)(ex:x=.op id 0)(hn:a<2^39)(k:K (b_ (FA s a)) h):bz p_ (.fn (.func 69) [] []) [x] h K:=by
 subst ex;refine cB (by kernel_rfl) rfl (K0:=fun r h' => r=b_ (FA s a)∧h'=h) ?_ ?_
 ·refine (V69 _).bI ?_;unfold XV;refine Gu [i_ ((if pk s a=43∨pk s a=45 then 1 else 0:Nat):Int)] h ?_ fun F hF=>?_
  ·have hle:(if pk s a=43∨pk s a=45 then 1 else 0:Nat)≤1:=by split<;>omega
   generalize hnn:(if pk s a=43∨pk s a=45 then 1 else 0:Nat)=n at hle;refine Gu [i_ ((if pk s (a+n)=46 then n+1 else n:Nat):Int)] h ?_ fun F hF=>?_
   ·have hle2:(if pk s (a+n)=46 then n+1 else n:Nat)≤2:=by split<;>omega
    refine dx (if pk s (a+n)=46 then n+1 else n) sc rfl rfl (by omega) (uCon (nG _) ?_);exact⟨_,_,Wk.refl _ _ _ (bY _),by unfold FA;rw[hnn],rfl⟩
   ·refine dx n sc rfl rfl (by omega) (zzG ?_);refine ct rfl (fun q=>?_) fun q=>?_
    ·have q:pk s (a+n)=46:=oN q;refine zzP (by unfold aJ;omega) (aq ?_);rw[if_pos q]at hF;exact hF
    ·have q:¬pk s (a+n)=46:=tO q;refine aq ?_;rw[if_neg q]at hF;exact hF
  ·refine dx 0 sc rfl rfl (by omega) ?_;rw[Nat.add_zero];refine zzG ?_;have fin:∀c:Bool,(c=true↔(pk s a=43∨pk s a=45))→ag (b_ c) (ae .add (i_ 0) (i_ 1) fun v10=>[AV.op id 0]=[AV.op id 0]∧F [v10] h) ([AV.op id 0]=[AV.op id 0]∧F [(i_ 0)] h):=by
    intro c hc;refine ct rfl (fun q=>?_) fun q=>?_
    ·refine zzP (by unfold aJ;omega) (aq ?_);rw[if_pos (hc.1 q)]at hF;exact hF
    ·refine aq ?_;rw[if_neg (fun z=>by rw[hc.2 z]at q;cases q)]at hF;exact hF
   refine aH ?_;refine cE rfl (fun q1=>?_) fun q1=>?_
   ·have q1:¬pk s a=43:=tO q1;refine zzG (aq (zzQ ?_));exact fin _ (by simp[q1])
   ·have q1:pk s a=43:=by simpa using q1
    refine aq (zzR ?_);exact fin true (by simp[q1])
 ·rintro _ _ ⟨rfl,rfl⟩;exact k
end
section
open Go Go.Aw Go.RowKit
abbrev zt(l:List UInt8):List (List AV):=l.map fun b=>[bg b]
theorem G5(l:List UInt8):(zt l).all (dk 1)=true:=yj (f:=fun b=>[bg b]) (fun _=>⟨rfl,rfl⟩) l
theorem Gf{x:Int}{K:AV→Prop}(q:K (.sl 1 [[u8 x]])):br 1 1 (u8 0) [(0,1,u8 x)] K:=by
 have e:dQ (gQ 1 (bl (u8 0))) [(0,1,u8 x)]=some [u8 x]:=by simp[dQ,gQ,bl,bZ,bQ]
 unfold br;rw[e];exact q
theorem Tm{K:AV→Prop}{h:aa}{id:Nat}{x:AV}{l:List UInt8}(e:x=.sb id 1 (zt l))(q:K (.str l)):cJ x h K:=by
 subst e;have h2:∀l:List UInt8,(zt l).flatten=l.map bg:=by
  intro l;induction l with
  | nil=>rfl
  | cons b l ih=>show bg b:: (zt l).flatten=_;rw[ih];rfl
 unfold cJ;rw[Md];simp only[Option.bind_some];rw[h2,nN_];exact q
def T9(n:Int):Bool:=fi_ n||jv n 48 57||decide (n=45)
variable [Laid]
def qn(l:af):Prop:=l≠[]∧∀b∈l,48≤b.toNat∧b.toNat≤57
end
section
open Go.Shelf
theorem uSo1{α:Type}{a b:α}(h:a=b:=by kernel_rfl):some a=some b:=congrArg some h
def lays161_ren:Go.Shelf.Ren:=⟨fun|161=>138|231=>166|227=>167|233=>168|235=>169|228=>172|197=>195|151=>196|260=>213|152=>170|137=>72|119=>197|224=>133|225=>132|217=>103|266=>142|n=>n,fun|9=>9|4=>4|3=>3|5=>5|117=>226|116=>225|0=>0|124=>229|105=>254|21=>21|119=>214|46=>188|139=>289|138=>288|n=>n,fun|3=>4|4=>5|n=>n⟩
theorem lays161:Go.Proofs.Lays.n161 p_ lays161_ren:={
 mixed:=by kernel_rfl
 f119:=Tryz.func197.trans uSo1
 f137:=Tryz.func72.trans uSo1
 f151:=Tryz.func196.trans uSo1
 f152:=Tryz.func170.trans uSo1
 f161:=Tryz.func138.trans uSo1
 f197:=Tryz.func195.trans uSo1
 f217:=Tryz.func103.trans uSo1
 f224:=Tryz.func133.trans uSo1
 f225:=Tryz.func132.trans uSo1
 f227:=Tryz.func167.trans uSo1
 f228:=Tryz.func172.trans uSo1
 f231:=Tryz.func166.trans uSo1
 f233:=Tryz.func168.trans uSo1
 f235:=Tryz.func169.trans uSo1
 f260:=Tryz.func213.trans uSo1
 f266:=Tryz.func142.trans uSo1
 t0:=Tryz.underlying0
 a0:=Tryz.isAgg0
 z0:=Tryz.sizeOf0
 v0:=Tryz.zeroValue0
 t3:=Tryz.underlying3
 a3:=Tryz.isAgg3
 z3:=Tryz.sizeOf3
 v3:=Tryz.zeroValue3
 t4:=Tryz.underlying4
 a4:=Tryz.isAgg4
 z4:=Tryz.sizeOf4
 v4:=Tryz.zeroValue4
 t5:=Tryz.underlying5
 a5:=Tryz.isAgg5
 z5:=Tryz.sizeOf5
 v5:=Tryz.zeroValue5
 t9:=Tryz.underlying9
 a9:=Tryz.isAgg9
 z9:=Tryz.sizeOf9
 v9:=Tryz.zeroValue9
 t21:=Tryz.underlying21
 a21:=Tryz.isAgg21
 z21:=Tryz.sizeOf21
 v21:=Tryz.zeroValue21
 t46:=Tryz.underlying188
 a46:=Tryz.isAgg188
 z46:=Tryz.sizeOf188
 v46:=Tryz.zeroValue188
 t105:=Tryz.underlying254
 a105:=Tryz.isAgg254
 z105:=Tryz.sizeOf254
 v105:=Tryz.zeroValue254
 t116:=Tryz.underlying225
 a116:=Tryz.isAgg225
 z116:=Tryz.sizeOf225
 t117:=Tryz.underlying226
 a117:=Tryz.isAgg226
 z117:=Tryz.sizeOf226
 v117:=Tryz.zeroValue226
 t119:=Tryz.underlying214
 a119:=Tryz.isAgg214
 z119:=Tryz.sizeOf214
 t124:=Tryz.underlying229
 a124:=Tryz.isAgg229
 z124:=Tryz.sizeOf229
 v124:=Tryz.zeroValue229
 t138:=Tryz.underlying288
 a138:=Tryz.isAgg288
 z138:=Tryz.sizeOf288
 v138:=Tryz.zeroValue288
 t139:=Tryz.underlying289
 a139:=Tryz.isAgg289
 z139:=Tryz.sizeOf289
 v139:=Tryz.zeroValue289
 g3:=by kernel_rfl
 g4:=by kernel_rfl }
def lays160_ren:Go.Shelf.Ren:=⟨fun|160=>228|232=>181|231=>166|227=>167|234=>182|233=>168|236=>183|235=>169|228=>172|271=>201|151=>196|197=>195|120=>219|152=>170|260=>213|137=>72|119=>197|224=>133|225=>132|217=>103|266=>142|n=>n,fun|9=>9|4=>4|3=>3|5=>5|117=>226|116=>225|0=>0|124=>229|21=>21|105=>254|46=>188|119=>214|139=>289|138=>288|n=>n,fun|3=>4|4=>5|n=>n⟩
theorem lays160:Go.Proofs.Lays.n160 p_ lays160_ren:={
 mixed:=by kernel_rfl
 f119:=Tryz.func197.trans uSo1
 f120:=Tryz.func219.trans uSo1
 f137:=Tryz.func72.trans uSo1
 f151:=Tryz.func196.trans uSo1
 f152:=Tryz.func170.trans uSo1
 f160:=Tryz.func228.trans uSo1
 f197:=Tryz.func195.trans uSo1
 f217:=Tryz.func103.trans uSo1
 f224:=Tryz.func133.trans uSo1
 f225:=Tryz.func132.trans uSo1
 f227:=Tryz.func167.trans uSo1
 f228:=Tryz.func172.trans uSo1
 f231:=Tryz.func166.trans uSo1
 f232:=Tryz.func181.trans uSo1
 f233:=Tryz.func168.trans uSo1
 f234:=Tryz.func182.trans uSo1
 f235:=Tryz.func169.trans uSo1
 f236:=Tryz.func183.trans uSo1
 f260:=Tryz.func213.trans uSo1
 f266:=Tryz.func142.trans uSo1
 f271:=Tryz.func201.trans uSo1
 t0:=Tryz.underlying0
 a0:=Tryz.isAgg0
 z0:=Tryz.sizeOf0
 v0:=Tryz.zeroValue0
 t3:=Tryz.underlying3
 a3:=Tryz.isAgg3
 z3:=Tryz.sizeOf3
 v3:=Tryz.zeroValue3
 t4:=Tryz.underlying4
 a4:=Tryz.isAgg4
 z4:=Tryz.sizeOf4
 v4:=Tryz.zeroValue4
 t5:=Tryz.underlying5
 a5:=Tryz.isAgg5
 z5:=Tryz.sizeOf5
 v5:=Tryz.zeroValue5
 t9:=Tryz.underlying9
 a9:=Tryz.isAgg9
 z9:=Tryz.sizeOf9
 v9:=Tryz.zeroValue9
 t21:=Tryz.underlying21
 a21:=Tryz.isAgg21
 z21:=Tryz.sizeOf21
 v21:=Tryz.zeroValue21
 t46:=Tryz.underlying188
 a46:=Tryz.isAgg188
 z46:=Tryz.sizeOf188
 v46:=Tryz.zeroValue188
 t105:=Tryz.underlying254
 a105:=Tryz.isAgg254
 z105:=Tryz.sizeOf254
 v105:=Tryz.zeroValue254
 t116:=Tryz.underlying225
 a116:=Tryz.isAgg225
 z116:=Tryz.sizeOf225
 t117:=Tryz.underlying226
 a117:=Tryz.isAgg226
 z117:=Tryz.sizeOf226
 v117:=Tryz.zeroValue226
 t119:=Tryz.underlying214
 a119:=Tryz.isAgg214
 z119:=Tryz.sizeOf214
 t124:=Tryz.underlying229
 a124:=Tryz.isAgg229
 z124:=Tryz.sizeOf229
 v124:=Tryz.zeroValue229
 t138:=Tryz.underlying288
 a138:=Tryz.isAgg288
 z138:=Tryz.sizeOf288
 v138:=Tryz.zeroValue288
 t139:=Tryz.underlying289
 a139:=Tryz.isAgg289
 z139:=Tryz.sizeOf289
 v139:=Tryz.zeroValue289
 g3:=by kernel_rfl
 g4:=by kernel_rfl }
def lays103_ren:Go.Shelf.Ren:=⟨fun|103=>216|210=>227|206=>94|n=>n,fun|9=>9|4=>4|24=>279|3=>3|n=>n,fun|n=>n⟩
theorem lays103:Go.Proofs.Lays.n103 p_ lays103_ren:={
 mixed:=by kernel_rfl
 f103:=Tryz.func216.trans uSo1
 f206:=Tryz.func94.trans uSo1
 f210:=Tryz.func227.trans uSo1
 t3:=Tryz.underlying3
 a3:=Tryz.isAgg3
 z3:=Tryz.sizeOf3
 v3:=Tryz.zeroValue3
 t4:=Tryz.underlying4
 a4:=Tryz.isAgg4
 z4:=Tryz.sizeOf4
 v4:=Tryz.zeroValue4
 t9:=Tryz.underlying9
 a9:=Tryz.isAgg9
 z9:=Tryz.sizeOf9
 v9:=Tryz.zeroValue9
 t24:=Tryz.underlying279
 a24:=Tryz.isAgg279
 z24:=Tryz.sizeOf279
 v24:=Tryz.zeroValue279 }
def laysC174_ren:Go.Shelf.Ren:=⟨fun|174=>229|247=>230|245=>231|287=>232|279=>233|280=>234|281=>235|282=>236|321=>237|322=>238|316=>239|171=>241|205=>240|243=>242|246=>122|283=>151|284=>152|285=>153|286=>154|129=>185|317=>184|318=>186|319=>187|320=>188|337=>202|338=>203|n=>n,fun|9=>9|3=>3|2=>2|75=>86|85=>290|4=>4|167=>293|5=>5|53=>196|175=>294|46=>188|168=>296|37=>35|0=>0|210=>300|21=>21|127=>93|145=>304|143=>302|171=>199|173=>202|212=>237|51=>150|20=>20|213=>238|232=>283|233=>284|80=>66|n=>n,fun|15=>6|16=>7|17=>1|18=>2|19=>3|n=>n⟩
theorem laysC174:Go.Proofs.LaysC.n174 p_ laysC174_ren:={
 mixed:=by kernel_rfl
 f129:=Tryz.func185.trans uSo1
 f171:=Tryz.func241.trans uSo1
 f174:=Tryz.func229.trans uSo1
 f205:=Tryz.func240.trans uSo1
 f243:=Tryz.func242.trans uSo1
 f245:=Tryz.func231.trans uSo1
 f246:=Tryz.func122.trans uSo1
 f247:=Tryz.func230.trans uSo1
 f279:=Tryz.func233.trans uSo1
 f280:=Tryz.func234.trans uSo1
 f281:=Tryz.func235.trans uSo1
 f282:=Tryz.func236.trans uSo1
 f283:=Tryz.func151.trans uSo1
 f284:=Tryz.func152.trans uSo1
 f285:=Tryz.func153.trans uSo1
 f286:=Tryz.func154.trans uSo1
 f287:=Tryz.func232.trans uSo1
 f316:=Tryz.func239.trans uSo1
 f317:=Tryz.func184.trans uSo1
 f318:=Tryz.func186.trans uSo1
 f319:=Tryz.func187.trans uSo1
 f320:=Tryz.func188.trans uSo1
 f321:=Tryz.func237.trans uSo1
 f322:=Tryz.func238.trans uSo1
 f337:=Tryz.func202.trans uSo1
 f338:=Tryz.func203.trans uSo1
 t0:=Tryz.underlying0
 a0:=Tryz.isAgg0
 z0:=Tryz.sizeOf0
 v0:=Tryz.zeroValue0
 t2:=Tryz.underlying2
 a2:=Tryz.isAgg2
 z2:=Tryz.sizeOf2
 v2:=Tryz.zeroValue2
 t3:=Tryz.underlying3
 a3:=Tryz.isAgg3
 z3:=Tryz.sizeOf3
 v3:=Tryz.zeroValue3
 t4:=Tryz.underlying4
 a4:=Tryz.isAgg4
 z4:=Tryz.sizeOf4
 v4:=Tryz.zeroValue4
 t5:=Tryz.underlying5
 a5:=Tryz.isAgg5
 z5:=Tryz.sizeOf5
 v5:=Tryz.zeroValue5
 t9:=Tryz.underlying9
 a9:=Tryz.isAgg9
 z9:=Tryz.sizeOf9
 v9:=Tryz.zeroValue9
 t20:=Tryz.underlying20
 a20:=Tryz.isAgg20
 z20:=Tryz.sizeOf20
 v20:=Tryz.zeroValue20
 t21:=Tryz.underlying21
 a21:=Tryz.isAgg21
 z21:=Tryz.sizeOf21
 v21:=Tryz.zeroValue21
 t37:=Tryz.underlying35
 a37:=Tryz.isAgg35
 z37:=Tryz.sizeOf35
 v37:=Tryz.zeroValue35
 t46:=Tryz.underlying188
 a46:=Tryz.isAgg188
 z46:=Tryz.sizeOf188
 v46:=Tryz.zeroValue188
 t51:=Tryz.underlying150
 a51:=Tryz.isAgg150
 z51:=Tryz.sizeOf150
 v51:=Tryz.zeroValue150
 t53:=Tryz.underlying196
 a53:=Tryz.isAgg196
 z53:=Tryz.sizeOf196
 v53:=Tryz.zeroValue196
 t75:=Tryz.underlying86
 a75:=Tryz.isAgg86
 z75:=Tryz.sizeOf86
 v75:=Tryz.zeroValue86
 t85:=Tryz.underlying290
 a85:=Tryz.isAgg290
 z85:=Tryz.sizeOf290
 v85:=Tryz.zeroValue290
 t127:=Tryz.underlying93
 a127:=Tryz.isAgg93
 z127:=Tryz.sizeOf93
 v127:=Tryz.zeroValue93
 t143:=Tryz.underlying302
 a143:=Tryz.isAgg302
 z143:=Tryz.sizeOf302
 v143:=Tryz.zeroValue302
 t145:=Tryz.underlying304
 a145:=Tryz.isAgg304
 z145:=Tryz.sizeOf304
 v145:=Tryz.zeroValue304
 t167:=Tryz.underlying293
 a167:=Tryz.isAgg293
 z167:=Tryz.sizeOf293
 v167:=Tryz.zeroValue293
 t168:=Tryz.underlying296
 a168:=Tryz.isAgg296
 z168:=Tryz.sizeOf296
 v168:=Tryz.zeroValue296
 t171:=Tryz.underlying199
 a171:=Tryz.isAgg199
 z171:=Tryz.sizeOf199
 v171:=Tryz.zeroValue199
 t173:=Tryz.underlying202
 a173:=Tryz.isAgg202
 z173:=Tryz.sizeOf202
 v173:=Tryz.zeroValue202
 t175:=Tryz.underlying294
 a175:=Tryz.isAgg294
 z175:=Tryz.sizeOf294
 v175:=Tryz.zeroValue294
 t210:=Tryz.underlying300
 a210:=Tryz.isAgg300
 z210:=Tryz.sizeOf300
 v210:=Tryz.zeroValue300
 t212:=Tryz.underlying237
 a212:=Tryz.isAgg237
 z212:=Tryz.sizeOf237
 v212:=Tryz.zeroValue237
 t213:=Tryz.underlying238
 a213:=Tryz.isAgg238
 z213:=Tryz.sizeOf238
 t232:=Tryz.underlying283
 a232:=Tryz.isAgg283
 z232:=Tryz.sizeOf283
 v232:=Tryz.zeroValue283
 t233:=Tryz.underlying284
 a233:=Tryz.isAgg284
 z233:=Tryz.sizeOf284
 v233:=Tryz.zeroValue284
 g15:=by kernel_rfl
 g16:=by kernel_rfl
 g17:=by kernel_rfl
 g18:=by kernel_rfl
 g19:=by kernel_rfl
 t80:=Tryz.underlying66
 a80:=Tryz.isAgg66
 z80:=Tryz.sizeOf66
 v80:=Tryz.zeroValue66
 i0:=by kernel_rfl
 i2:=by kernel_rfl
 i3:=by kernel_rfl
 i4:=by kernel_rfl
 i5:=by kernel_rfl
 i9:=by kernel_rfl
 i20:=by kernel_rfl
 i21:=by kernel_rfl
 i37:=by kernel_rfl
 i46:=by kernel_rfl
 i51:=by kernel_rfl
 i53:=by kernel_rfl
 i75:=by kernel_rfl
 i80:=by kernel_rfl
 i85:=by kernel_rfl
 i127:=by kernel_rfl
 i143:=by kernel_rfl
 i145:=by kernel_rfl
 i167:=by kernel_rfl
 i168:=by kernel_rfl
 i171:=by kernel_rfl
 i173:=by kernel_rfl
 i175:=by kernel_rfl
 i210:=by kernel_rfl
 i212:=by kernel_rfl
 i232:=by kernel_rfl
 i233:=by kernel_rfl
 m15:=by kernel_rfl
 m16:=by kernel_rfl
 m17:=by kernel_rfl
 m18:=by kernel_rfl
 m19:=by kernel_rfl
 c0:=by kernel_rfl
 c2:=by kernel_rfl
 c3:=by kernel_rfl
 c4:=by kernel_rfl
 c5:=by kernel_rfl
 c9:=by kernel_rfl
 c20:=by kernel_rfl
 c21:=by kernel_rfl
 c37:=by kernel_rfl
 c46:=by kernel_rfl
 c51:=by kernel_rfl
 c53:=by kernel_rfl
 c75:=by kernel_rfl
 c80:=by kernel_rfl
 c85:=by kernel_rfl
 c127:=by kernel_rfl
 c143:=by kernel_rfl
 c145:=by kernel_rfl
 c167:=by kernel_rfl
 c168:=by kernel_rfl
 c171:=by kernel_rfl
 c173:=by kernel_rfl
 c175:=by kernel_rfl
 c210:=by kernel_rfl
 c212:=by kernel_rfl
 c213:=by kernel_rfl
 c232:=by kernel_rfl
 c233:=by kernel_rfl }
def lays145_ren:Go.Shelf.Ren:=⟨fun|145=>140|220=>173|219=>95|217=>103|225=>132|224=>133|267=>134|266=>142|314=>164|n=>n,fun|9=>9|4=>4|59=>191|3=>3|5=>5|46=>188|146=>221|51=>150|n=>n,fun|1=>0|n=>n⟩
theorem lays145:Go.Proofs.Lays.n145 p_ lays145_ren:={
 mixed:=by kernel_rfl
 f145:=Tryz.func140.trans uSo1
 f217:=Tryz.func103.trans uSo1
 f219:=Tryz.func95.trans uSo1
 f220:=Tryz.func173.trans uSo1
 f224:=Tryz.func133.trans uSo1
 f225:=Tryz.func132.trans uSo1
 f266:=Tryz.func142.trans uSo1
 f267:=Tryz.func134.trans uSo1
 f314:=Tryz.func164.trans uSo1
 t3:=Tryz.underlying3
 a3:=Tryz.isAgg3
 z3:=Tryz.sizeOf3
 v3:=Tryz.zeroValue3
 t4:=Tryz.underlying4
 a4:=Tryz.isAgg4
 z4:=Tryz.sizeOf4
 v4:=Tryz.zeroValue4
 t5:=Tryz.underlying5
 a5:=Tryz.isAgg5
 z5:=Tryz.sizeOf5
 v5:=Tryz.zeroValue5
 t9:=Tryz.underlying9
 a9:=Tryz.isAgg9
 z9:=Tryz.sizeOf9
 v9:=Tryz.zeroValue9
 t46:=Tryz.underlying188
 a46:=Tryz.isAgg188
 z46:=Tryz.sizeOf188
 v46:=Tryz.zeroValue188
 t51:=Tryz.underlying150
 a51:=Tryz.isAgg150
 z51:=Tryz.sizeOf150
 v51:=Tryz.zeroValue150
 t59:=Tryz.underlying191
 a59:=Tryz.isAgg191
 z59:=Tryz.sizeOf191
 v59:=Tryz.zeroValue191
 t146:=Tryz.underlying221
 a146:=Tryz.isAgg221
 z146:=Tryz.sizeOf221
 v146:=Tryz.zeroValue221
 g1:=by kernel_rfl }
end
section
open Go Go.Aw Go.RowKit
def sI(l:af):Prop:=∀b∈l,b.toNat<128
theorem uR{l:af}(h:sI l):∀(j:Nat) b,l[j]?=some b→b.toNat<128:=fun j b hb=>h b (gE hb)
variable [bq]
omit [bq] in
theorem CU[Laid](l m:af)(hl:l.length≤2^31)(hm:m.length≤2^31)(am:sI m):bn p_ 138 [.str l,.str m] (.str (Lib.trimLeftS l m)):=by
 have hle:(Lib.trimLeftS l m).length≤l.length:=(List.dropWhile_suffix _).length_le;refine iu (v:=.string ⟨(Lib.trimLeftS l m).toArray⟩) (by simp[aV]) (by simp) (by simp) (fun w=>by simp[maxLen];omega) ?_;intro ι S w vs h1 hg
 match vs,h1 with
 | [],h1=>simp at h1
 | [v],h1=>simp at h1
 | v:: u:: x:: vs,h1=>simp at h1
 | [v,u],h1 =>
   simp only[bO,dp,and_true,eA]at h1;obtain⟨⟨rfl,_⟩,rfl,_⟩:=h1;refine (Any.strings_TrimLeft_laid lays161 (by kernel_rfl) ⟨l.toArray⟩ ⟨m.toArray⟩ w (by simp[ByteArray.size];omega) (fun j b hb=>uR am j b (by simpa using hb))).mono fun e w' q=>by simpa using q
omit [bq] in
theorem KF[Laid](l m:af)(hl:l.length≤2^31)(hm:m.length≤2^31)(am:sI m)(hle:(Lib.trimS l m).length≤2^31):bn p_ 228 [.str l,.str m] (.str (Lib.trimS l m)):=by
 refine iu (v:=.string ⟨(Lib.trimS l m).toArray⟩) (by simp[aV]) (by simp) (by simp) (fun w=>by simp[maxLen];omega) ?_;intro ι S w vs h1 hg
 match vs,h1 with
 | [],h1=>simp at h1
 | [v],h1=>simp at h1
 | v:: u:: x:: vs,h1=>simp at h1
 | [v,u],h1 =>
   simp only[bO,dp,and_true,eA]at h1;obtain⟨⟨rfl,_⟩,rfl,_⟩:=h1;refine (Any.strings_Trim_laid lays160 (by kernel_rfl) ⟨l.toArray⟩ ⟨m.toArray⟩ w (by simp[ByteArray.size];omega) (by simp[ByteArray.size];omega) (fun j b hb=>uR am j b (by simpa using hb))).mono fun e w' q=>by simpa using q
omit [bq] in
theorem EA[Laid](l m:af)(hl:l.length≤2^31)(hm:m.length≤2^31)(al:sI l)(am:sI m):bn p_ 139 [.str l,.str m] (i_ (Lib.indexAny l m)):=by
 refine iu (v:=.int .i64 (Lib.indexAny l m)) (by simp[aV]) (by simp) (by simp) (fun w=>by simp) ?_;intro ι S w vs h1 hg
 match vs,h1 with
 | [],h1=>simp at h1
 | [v],h1=>simp at h1
 | v:: u:: x:: vs,h1=>simp at h1
 | [v,u],h1 =>
   simp only[bO,dp,and_true,eA]at h1;obtain⟨⟨rfl,_⟩,rfl,_⟩:=h1;refine (DG ⟨l.toArray⟩ ⟨m.toArray⟩ w (by simp[ByteArray.size];omega) (by simp[ByteArray.size];omega) (fun j b hb=>uR al j b (by simpa using hb)) (fun j b hb=>uR am j b (by simpa using hb))).mono fun e w' q=>by simpa using q
omit [bq] in
theorem uX[Laid](l m:af)(hl:l.length≤2^31):bn p_ 216 [.str l,.str m] (.aA [.str (Lib.trimPrefix l m),b_ (Lib.hasPrefix l m)]):=by
 have hle:(Lib.trimPrefix l m).length≤l.length:=by unfold Lib.trimPrefix;split<;>simp
 refine iu (v:=.tuple #[.string ⟨(Lib.trimPrefix l m).toArray⟩,.bool (Lib.hasPrefix l m)]) (by simp[aV]) (by simp) (by simp[aV]) (fun w=>by rw[au];exact⟨[.string ⟨(Lib.trimPrefix l m).toArray⟩,.bool (Lib.hasPrefix l m)],rfl,by simp[maxLen];omega⟩) ?_;intro ι S w vs h1 hg
 match vs,h1 with
 | [],h1=>simp at h1
 | [v],h1=>simp at h1
 | v:: u:: x:: vs,h1=>simp at h1
 | [v,u],h1 =>
   simp only[bO,dp,and_true,eA]at h1;obtain⟨⟨rfl,_⟩,rfl,_⟩:=h1;refine (Any.strings_CutPrefix lays103 ⟨l.toArray⟩ ⟨m.toArray⟩ w).mono ?_;rintro e w' ⟨rfl,rfl⟩;exact⟨rfl,Below.refl _ _⟩
omit [bq] in
theorem EB[Laid](l:af)(v:Int)(hl:l.length≤2^31)(h:Lib.parseIntB 64 l=.ok v):bn p_ 229 [.str l,i_ 10,i_ 64] (.aA [i_ v,.v .nilIface]):=by
 refine iu (v:=.tuple #[.int .i64 v,.nilIface]) (by simp[aV]) (by simp) (by simp[aV]) (fun w=>by rw[au];exact⟨[.int .i64 v,.nilIface],rfl,by simp⟩) ?_;intro ι S w vs h1 hg
 match vs,h1 with
 | [],h1=>simp at h1
 | [v],h1=>simp at h1
 | [v,u],h1=>simp at h1
 | v:: u:: x:: y:: vs,h1=>simp at h1
 | [v,u,x],h1 =>
   simp only[bO,dp,and_true,eA,cz]at h1;obtain⟨⟨rfl,_⟩,rfl,rfl⟩:=h1;refine (Any.strconv_ParseInt_10_at64_ok laysC174 ⟨l.toArray⟩ (by simp[ByteArray.size];omega) _ (by simpa using h) w).mono ?_;rintro e w' ⟨rfl,rfl|⟨t,rfl⟩⟩
   ·exact⟨rfl,Below.refl _ _⟩
   ·exact⟨rfl,Lib.bytesWorld_below _ _ _⟩
end
section
open Go Go.Aw Go.RowKit
/-! ### Plain -/
def oP(b:UInt8):Nat:=b.toNat-48
def ie(l:af):Nat:=l.foldl (fun n b=>10*n+oP b) 0
theorem Mq(l:af)(b:UInt8):ie (l++[b])=10*ie l+oP b:=by unfold ie;rw[aaS];rfl
theorem GK{l m:af}(h:∀b∈l,m.contains b=false):Lib.indexAny l m=-1:=by
 induction l with
 | nil=>rfl
 | cons b l ih =>
   have h1:=ih fun x hx=>h x (Lt _ hx);unfold Lib.indexAny;rw[h b (aa9 ..),h1];rfl
/-! ### The walk -/
theorem J6{K:AV→Prop}{x y:AV}{a b:Int}(ex:x=i_ a)(ey:y=i_ b)(c:aJ (a*b))(q:K (i_ (a*b))):ae .mul x y K:=by subst ex;subst ey;simpa using⟨c,q⟩
theorem Mi{K:AV→Prop}{k:IntKind}{x y:AV}{a b c:Int}(hk:k≠.i64)(ex:x=.v (.int k a))(ey:y=.v (.int k b))(hc:k.wrap (a-b)=c)(q:K (.v (.int k c))):ae .sub x y K:=by
 subst ex;subst ey;subst hc;refine⟨rfl, ?_⟩;unfold qo qD;cases k<;>first|exact q|exact absurd rfl hk
theorem tU{K:AV→Prop}{x y:AV}{a b:af}(ex:x=.str a)(ey:y=.str b)(h:a.length+b.length≤2^40)(q:K (.str (a++b))):ae .add x y K:=by
 subst ex;subst ey;rw[QA];exact⟨by unfold maxLen;omega,q⟩
theorem O9{e:Nat}{x:AV}{l:af}{h:aa}{KH:AV→aa→Prop}(ex:x=.str l)(q:KH (.own h.length 0 l.length 1) (h++[.ah ⟨e,l.map bg,true⟩])):iP e x h KH:=by subst ex;exact q
theorem Kk{K:AV→Prop}{x:AV}{id off len sz:Nat}(ex:x=.own id off len sz)(q:K (i_ len)):bu x K:=by subst ex;rw[uj];exact fun _=>q
variable [bq]
end
section
open Go.Shelf
theorem uSo3{α:Type}{a b:α}(h:a=b:=by kernel_rfl):some a=some b:=congrArg some h
def lays137_ren:Go.Shelf.Ren:=⟨fun|137=>72|217=>103|266=>142|n=>n,fun|9=>9|5=>5|3=>3|n=>n,fun|n=>n⟩
theorem lays137:Go.Proofs.Lays.n137 p_ lays137_ren:={
 mixed:=by kernel_rfl
 f137:=Tryz.func72.trans uSo3
 f217:=Tryz.func103.trans uSo3
 f266:=Tryz.func142.trans uSo3
 t3:=Tryz.underlying3
 a3:=Tryz.isAgg3
 z3:=Tryz.sizeOf3
 v3:=Tryz.zeroValue3
 t5:=Tryz.underlying5
 a5:=Tryz.isAgg5
 z5:=Tryz.sizeOf5
 v5:=Tryz.zeroValue5
 t9:=Tryz.underlying9
 a9:=Tryz.isAgg9
 z9:=Tryz.sizeOf9
 v9:=Tryz.zeroValue9 }
end
section
open Go Go.Aw Go.RowKit
variable{K:AV→Prop}
abbrev vW(k:Int)(t:af)(n:Int)(u:af)(f:Bool):AV:=.agg [u8 k,.str t,i_ n,.str u,b_ f]
abbrev cx(k:Int)(t:af)(n:Int)(u:af)(f:Bool):aL:=.ah ⟨70,[u8 k,.str t,i_ n,.str u,b_ f],true⟩
theorem nw{x:AV}{lo hi:Option AV}{l r:af}{a b:Nat}(ex:x=.str l)(ha:eT lo 0=some (a:Int))(hb:eT hi l.length=some (b:Int))(hab:a≤b)(hl:b≤l.length)(hr:(l.take b).drop a=r)(q:K (.str r)):eN x lo hi K:=by
 subst ex;subst hr;unfold eN;simp only[ha,hb];exact⟨⟨by omega,by omega,by omega⟩,by simpa using q⟩
theorem qS[Laid]{V:Nat}{H:aa}{K:AV→aa→Prop}{k0 n0 k n:Int}{t0 u0 t u:af}{f0 f:Bool}(hv:H[V]?=some (cx k0 t0 n0 u0 f0))(q:K (vW k t n u f) (H.set V (cx k t n u f))):
 ao 5 (.op V 0) (vW k t n u f) H fun g=>ak true 5 (.op V 0) g fun r=>K r g:=by
 have hlt:=(eQ.1 hv).1;refine aX (cs:=[u8 k,.str t,i_ n,.str u,b_ f]) (h':=H.set V (cx k t n u f)) rfl hv rfl rfl (by simp) rfl (by simp[bQ]) rfl ?_;refine zzV (iD hlt) (by simp) ?_;exact q
theorem KE[Laid](s:af)(b:UInt8):bn p_ 72 [.str s,bg b] (i_ (Lib.indexByte s b)):=by
 refine iu (v:=.int .i64 (Lib.indexByte s b)) (by simp[aV,bg]) (by simp) (by simp) (fun w=>by simp) ?_;intro ι S w vs h1 hg
 match vs,h1 with
 | [],h1=>simp at h1
 | [v],h1=>simp at h1
 | v:: u:: x:: vs,h1=>simp at h1
 | [v,u],h1 =>
   simp only[bO,dp,and_true,eA,bg,cz]at h1;obtain⟨⟨rfl,_⟩,rfl⟩:=h1;refine (Any.strings_IndexByte lays137 ⟨s.toArray⟩ (b.toNat:Int) w).mono ?_;rintro e w' ⟨rfl,rfl⟩;exact⟨by simp,Below.refl _ _⟩
theorem bx{P:Program}{id o:Nat}(q:K (.op id o)):ca P (.op id o) K:=q
structure Tok where
 k:Int
 t:af
 n:Int
 u:af
 f:Bool
abbrev Tok.row(x:Tok):List AV:=[u8 x.k,.str x.t,i_ x.n,.str x.u,b_ x.f]
abbrev Tok.av(x:Tok):AV:=vW x.k x.t x.n x.u x.f
abbrev cQ(l:List Tok):List (List AV):=l.map Tok.row
theorem pq(l:List Tok):(cQ l).all (dk 5)=true:=yj (f:=Tok.row) (fun x=>⟨rfl,by simp[bQ]⟩) l
theorem kP:∀l:List Tok,cF (cQ l)
 | []=>by simp[cF]
 | x:: l=>by show cF (x.row:: cQ l);rw[cF];exact⟨by simp[aV],kP l⟩
end
end Go.Proofs.YtpcnidmmkknndaaGreatDoor
namespace Go.Rt
section
open Go
abbrev af:=List UInt8
def aB(s:af)(i:Nat):UInt8:=s.getD i 0
def cn(c:UInt8):Bool:=decide (48≤c.toNat)&&decide (c.toNat≤57)
def xl(c:UInt8):UInt8:=if 65≤c.toNat∧c.toNat≤90 then c+32 else c
def iZ(c:UInt8):Int:=if cn c=true then (c.toNat:Int)-48 else if 97≤(xl c).toNat∧(xl c).toNat≤102 then ((xl c).toNat:Int)-97+10 else -1
def eY(c:UInt8):Bool:=decide (c=10)||decide (c=9)||decide (c=32)
def tQ(c:UInt8):Bool:=(decide (97≤(xl c).toNat)&&decide ((xl c).toNat≤122))||decide (c=95)||decide (128≤c.toNat)
def eX(c:UInt8):Bool:=tQ c||cn c||decide (c=45)
def cC(s:af)(i:Nat):Bool:=decide (aB s i=92)&&!decide (aB s (i+1)=10)
def lG:af:=[239,191,189]
def sx(n:Nat):af:=if n=0∨(55296≤n∧n≤57343)∨1114111<n then lG else if n<128 then [UInt8.ofNat n] else if n<2048 then [UInt8.ofNat (192+n/64),UInt8.ofNat (128+n%64)] else if n<65536 then [UInt8.ofNat (224+n/4096),UInt8.ofNat (128+n/64%64),UInt8.ofNat (128+n%64)] else [UInt8.ofNat (240+n/262144),UInt8.ofNat (128+n/4096%64),UInt8.ofNat (128+n/64%64),UInt8.ofNat (128+n%64)]
def kA(s:af):Nat→Nat→Nat→Nat×Nat
 | 0,i,n=>(n,i)
 | k+1,i,n=>match s[i]? with
   | some c=>if 0≤iZ c then kA s k (i+1) (16*n+(iZ c).toNat) else (n,i)
   | none=>(n,i)
theorem HB(s:af):∀k i n,i≤(kA s k i n).2
 | 0,i,n=>Nat.le_refl _
 | k+1,i,n=>by
   rw[kA];split
   ·split
    ·exact Nat.le_trans (Nat.le_succ _) (HB s k _ _)
    ·exact Nat.le_refl _
   ·exact Nat.le_refl _
def cU(s:af)(i:Nat):af×Nat:=match s[i+1]? with
 | none=>(lG,i+1)
 | some c=>if iZ c<0 then ([c],i+2) else
   let r:=kA s 6 (i+1) 0
   (sx r.1,if eY (aB s r.2)=true then r.2+1 else r.2)
theorem gd(s:af)(i:Nat):i<(cU s i).2:=by
 unfold cU;split
 ·exact Nat.lt_succ_self _
 ·split
  ·exact Nat.lt_succ_of_lt (Nat.lt_succ_self _)
  ·have:=HB s 6 (i+1) 0;dsimp only;split<;>omega
def gM(s:af)(i:Nat):Bool:=if aB s i=45 then tQ (aB s (i+1))||decide (aB s (i+1)=45)||cC s (i+1) else tQ (aB s i)||cC s i
def cY(s:af)(i:Nat):af×Nat:=
 if h:i<s.length then
  if eX s[i]=true then let r:=cY s (i+1);(s[i]:: r.1,r.2)
  else if cC s i=true then let r:=cY s (cU s i).2;((cU s i).1++r.1,r.2)
  else ([],i)
 else ([],i)
termination_by s.length-i
decreasing_by
 ·omega
 ·have:=gd s i;omega
def kD(s:af)(i:Nat):Bool:=
 let j:=if aB s i=43∨aB s i=45 then i+1 else i
 cn (aB s (if aB s j=46 then j+1 else j))
def gL(s:af)(i:Nat):Nat:=i+((s.drop i).takeWhile cn).length
def iz(s:af)(i:Nat):Nat×Bool:=
 let i1:=gL s (if aB s i=43∨aB s i=45 then i+1 else i)
 let r:=if aB s i1=46∧cn (aB s (i1+1))=true then (gL s (i1+1),false) else (i1,true)
 if aB s r.1=101∨aB s r.1=69 then
  let k:=if aB s (r.1+1)=43∨aB s (r.1+1)=45 then r.1+2 else r.1+1
  if cn (aB s k)=true then (gL s k,false) else r
 else r
def tw(most:Nat):Nat→Nat→Nat
 | 0,n=>n
 | p+1,n=>if 0<n∧n<most then tw most p (min most (10*n)) else n
def kF(x:af)(r:Option af×Nat):Option af×Nat:=(r.1.map (x++·),r.2)
def ic(mark:UInt8)(s:af)(i:Nat):Option af×Nat:=
 if h:i<s.length then
  if s[i]=mark then (some [],i+1)
  else if s[i]=10 then (none,i)
  else if s[i]=92 then
   if i+1=s.length then (some [],i+1)
   else if aB s (i+1)=10 then ic mark s (i+2)
   else kF (cU s i).1 (ic mark s (cU s i).2)
  else kF [s[i]] (ic mark s (i+1))
 else (some [],i)
termination_by s.length-i
decreasing_by
 ·omega
 ·have:=gd s i;omega
 ·omega
def eO(s:af)(i:Nat):Nat:=i+((s.drop i).takeWhile eY).length
def mT(s:af)(i:Nat):Nat:=
 if h:i<s.length then
  if s[i]=41 then i+1
  else if cC s i=true then mT s (cU s i).2 else mT s (i+1)
 else min s.length (i+1)
termination_by s.length-i
decreasing_by
 ·have:=gd s i;omega
 ·omega
def Gr(c:UInt8):Bool:=decide (c.toNat≤8)||decide (c.toNat=11)||(decide (14≤c.toNat)&&decide (c.toNat≤31))||decide (c.toNat=127)
def jd(s:af)(i:Nat):Option af×Nat:=
 if h:i<s.length then
  if s[i]=41 then (some [],i+1)
  else if eY s[i]=true then
   if eO s i<s.length∧aB s (eO s i)≠41 then (none,mT s (eO s i)) else (some [],min s.length (eO s i+1))
  else if s[i]=34∨s[i]=39∨s[i]=40∨Gr s[i]=true∨(s[i]=92∧cC s i=false) then (none,mT s i)
  else if s[i]=92 then kF (cU s i).1 (jd s (cU s i).2)
  else kF [s[i]] (jd s (i+1))
 else (some [],min s.length (i+1))
termination_by s.length-i
decreasing_by
 ·have:=gd s i;omega
 ·omega
def xv:af:=[117,114,108]
def lZ:af:=[58,59,44,91,93,40,41,123,125]
def hasB(s:af)(i:Nat)(x:af):Bool:=decide ((s.drop i).take x.length=x)
def kb(s:af)(i:Nat):Nat:=if h:i<s.length then (if hasB s i [42,47]=true then i+2 else kb s (i+1)) else s.length
termination_by s.length-i
theorem xH(s:af)(i:Nat):min s.length i≤kb s i:=by
 rw[kb];split
 ·split
  ·omega
  ·have:=xH s (i+1);omega
 ·omega
termination_by s.length-i
def gr(s:af)(i:Nat):Nat:=if h:i<s.length∧hasB s i [47,42]=true then gr s (kb s (i+2)) else i
termination_by s.length-i
decreasing_by
 have:=xH s (i+2);omega
end
end Go.Rt
namespace Go.fg
section
open Go Go.Aw
abbrev af:=List UInt8
inductive Vl where
 | mk (kind:Int) (text:af) (num:Int) (unit:af) (flag:Bool) (list:List Vl)
def Vl.kind:Vl→Int|.mk k _ _ _ _ _=>k
def Vl.text:Vl→af|.mk _ t _ _ _ _=>t
def Vl.num:Vl→Int|.mk _ _ n _ _ _=>n
def Vl.unit:Vl→af|.mk _ _ _ u _ _=>u
def Vl.flag:Vl→Bool|.mk _ _ _ _ f _=>f
def Vl.list:Vl→List Vl|.mk _ _ _ _ _ l=>l
abbrev u1(n:Int):AV:=.v (.int .u8 n)
mutual
def jt:Vl→List AV
 | .mk k t n u f l=>[u1 k,.str t,i_ n,.str u,b_ f,.sl 6 (cA l)]
def cA:List Vl→List (List AV)
 | []=>[]
 | v:: l=>jt v:: cA l
end
theorem eg:∀l,cA l=l.map jt
 | []=>by simp[cA]
 | p:: l=>by simp[cA,eg l]
theorem lq(v:Vl):jt v=[u1 v.kind,.str v.text,i_ v.num,.str v.unit,b_ v.flag,.sl 6 (v.list.map jt)]:=by
 cases v;simp[jt,eg,Vl.kind,Vl.text,Vl.num,Vl.unit,Vl.flag,Vl.list]
mutual
theorem Pw:∀x:Vl,aV (jt x)
 | .mk k t n u f l=>by simp[jt,aV,Aw.Pure,lj l]
theorem lj:∀l:List Vl,cF (cA l)
 | []=>by simp[cA,cF]
 | v:: l=>by simp[cA,cF,Pw v,lj l]
end
def cG(k:Int):Int:=if k=2 then 22 else if k=19∨k=21∨k=23 then k+1 else 0
mutual
def pJ:Vl→Nat
 | .mk k _ _ _ _ l=>if cG k=0 then 0 else dw l+1
def dw:List Vl→Nat
 | []=>0
 | v:: l=>max (pJ v) (dw l)
end
mutual
def uV:Vl→Nat
 | .mk k _ _ _ _ l=>if cG k=0 then 1 else dh l+2
def dh:List Vl→Nat
 | []=>0
 | v:: l=>uV v+dh l
end
mutual
def wJ(c:Int):Vl→Bool
 | .mk k _ _ _ _ l=>!decide (c=0)&&decide (k=c)||(if cG k=0 then !l.isEmpty else fh (cG k) l)
def fh(c:Int):List Vl→Bool
 | []=>false
 | v:: l=>wJ c v||fh c l
end
def jr(l:List Vl):Int:=if 16<dw l then 20 else if 1500<dh l then 4 else if fh 0 l then 8 else 0
/-! ### A size -/
mutual
def zV:Vl→Nat
 | .mk _ t _ u _ l=>1+t.length+u.length+bU l
def bU:List Vl→Nat
 | []=>0
 | v:: l=>zV v+bU l
end
theorem VB:∀v,0<zV v
 | .mk _ _ _ _ _ _=>by rw[zV];omega
theorem uH{l:List Vl}{v:Vl}(h:v∈l):zV v≤bU l:=by
 induction l with
 | nil=>cases h
 | cons y l ih =>
   rw[bU];rcases ID.1 h with rfl|h
   ·omega
   ·have:=ih h;omega
theorem mM:∀l:List Vl,l.length≤bU l
 | []=>by simp
 | v:: l=>by have:=mM l;have:=VB v;rw[bU,aaB];omega
mutual
theorem P2:∀v,uV v≤2*zV v
 | .mk k t n u f l=>by
   have:=uW l;rw[uV,zV];split<;>omega
theorem uW:∀l,dh l≤2*bU l
 | []=>by simp[dh]
 | v:: l=>by have:=P2 v;have:=uW l;rw[dh,bU];omega
end
mutual
theorem NA:∀v,pJ v≤zV v
 | .mk k t n u f l=>by
   have:=sR l;rw[pJ,zV];split<;>omega
theorem sR:∀l,dw l≤bU l
 | []=>by simp[dw]
 | v:: l=>by have:=NA v;have:=sR l;rw[dw,bU];omega
end
theorem nn:∀a b:List Vl,dw (a++b)=max (dw a) (dw b)
 | [],b=>by simp[dw]
 | v:: a,b=>by simp[dw,nn a b,Nat.max_assoc]
theorem oh:∀a b:List Vl,dh (a++b)=dh a+dh b
 | [],b=>by simp[dh]
 | v:: a,b=>by simp[dh,oh a b,Nat.add_assoc]
theorem od(c:Int):∀a b:List Vl,fh c (a++b)=(fh c a||fh c b)
 | [],b=>by simp[fh]
 | v:: a,b=>by simp[fh,od c a b,Bool.or_assoc]
theorem mL:∀a b:List Vl,bU (a++b)=bU a+bU b
 | [],b=>by simp[bU]
 | v:: a,b=>by simp[bU,mL a b,Nat.add_assoc]
section
variable {l:List Vl} {k:Nat} {v:Vl}
theorem GI(h:l[k]?=some v):dw (l.take (k+1))=max (dw (l.take k)) (pJ v):=by
 rw[By,h,nn];simp[dw]
theorem Jd(h:l[k]?=some v):dh (l.take (k+1))=dh (l.take k)+uV v:=by
 rw[By,h,oh];simp[dh]
theorem Ja(c:Int)(h:l[k]?=some v):fh c (l.take (k+1))=(fh c (l.take k)||wJ c v):=by
 rw[By,h,od];simp[fh]
end
theorem pU(l:List Vl)(k:Nat):bU (l.take k)≤bU l:=by
 have:=mL (l.take k) (l.drop k);rw[List.take_append_drop]at this;omega
end
end Go.fg
end
