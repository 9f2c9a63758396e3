/-
 What functions of the translation ask,held against their code by the kernel. Printed by a program.
 No conditions.
-/
import Derived.Test.YtldpambpnajgiaaGreatDoorProg
import Derived.KernelRfl
import Derived.ScopeJumps
import Derived.Test.YtldpambpnajgiaaGreatDoorZc
import Derived.Test.YtldpambpnajgiaaGreatDoorZe
import Derived.Test.YtldpambpnajgiaaGreatDoorZd
set_option linter.unusedVariables false
set_option linter.unusedSimpArgs false
set_option maxRecDepth 1000000
set_option maxHeartbeats 16000000
open Go.Proofs.Tryz renaming prog→p_
noncomputable section
namespace Go.Proofs.YtldpambpnajgiaaGreatDoor
section
open Go Go.Aw
variable [Laid]
def XF(x0 x1:AV)(h:aa)(K:AV→aa→Prop):Prop:=
 iC p_ 153 [x0,x1] h fun a b=>ab .geq a (i_ 0) fun c=>K c b
theorem adK(x0 x1:AV):Body p_ 101 [x0,x1] (XF x0 x1):=mkB Tryz.func101 .nil 9 [.tmp 4] (by kernel_rfl) fun _ _=>by kernel_rfl
def W65(x0 x1:AV)(h:aa)(K:AV→aa→Prop):Prop:=
 iC p_ 105 [x0,x1] h fun a b=>ab .geq a (i_ 0) fun c=>K c b
theorem V65(x0 x1:AV):Body p_ 65 [x0,x1] (W65 x0 x1):=mkB Tryz.func65 .nil 9 [.tmp 4] (by kernel_rfl) fun _ _=>by kernel_rfl
def Ya(x0 x1:AV)(h:aa)(K:AV→aa→Prop):Prop:=
 bu x0 fun c=>bJ [(i_ 0)] h fun e a b =>
 ab .lss (nx a 0) c fun f=>ae f (aG 6 x0 (nx a 0) fun g=>ag true 6 g b fun i=>eJ p_ x1 [i] b fun j d=>ae j (K (nx a 0) d) (ab .add (nx a 0) (i_ 1) fun k=>eC [x0,x1,c] (e [k] d))) (K (i_ (-1)) b)
theorem aeg(x0 x1:AV):Body p_ 153 [x0,x1] (Ya x0 x1):=mkB Tryz.func153 (sn (.seq (sn (.one (.loop [0,1,7] [8] .nil))) .nil)) 19 [.tmp 4] (by kernel_rfl) fun _ _=>by kernel_rfl
def XI(x0 x1:AV)(h:aa)(K:AV→aa→Prop):Prop:=
 bu x0 fun c=>bJ [(i_ 0)] h fun d a b =>
 ab .lss (nx a 0) c fun e=>ae e (aG 1 x0 (nx a 0) fun f=>ag false 1 f b fun g=>ab .eql x1 g fun i=>ae i (K (nx a 0) b) (ab .add (nx a 0) (i_ 1) fun j=>eC [x0,x1,c] (d [j] b))) (K (i_ (-1)) b)
theorem adO(x0 x1:AV):Body p_ 105 [x0,x1] (XI x0 x1):=mkB Tryz.func105 (sn (.seq (sn (.one (.loop [0,1,7] [8] .nil))) .nil)) 19 [.tmp 4] (by kernel_rfl) fun _ _=>by kernel_rfl
def W8(x0:AV)(h:aa)(K:AV→aa→Prop):Prop:=
 br 26 x0 h fun a g=>iFL 0 false 1 a g fun G=>bu G fun H=>ab .neq H (i_ 18) fun m=>aB (fun n=>au m false (iFL 1 false 1 a g fun I=>iC p_ 30 [I] g fun J L=>ab .neq J (i_ 0) fun M=>eC [a] (n [ff,M] L)) (eC [a] (n [(aQ false m),un] g))) fun o j=>aH (nx o 0) tt (nx o 1) fun N=>ae N (K (i_ 8) j) (iFL 0 false 1 a j fun d=>bu d fun e=>bJ [(i_ 0)] j fun O b c =>
 ab .lss (nx b 0) e fun P=>ae P (aG 7 d (nx b 0) fun Q=>ag true 7 Q c fun R=>br 37 (.agg [(u8 0),(.str []),(i_ 0),(u8 0),(u8 0),(u8 0),(u8 0)]) c fun f S=>aE 7 f R S fun p=>ag true 7 f p fun T=>iC p_ 31 [(nx b 0),T] p fun q k=>aK 0 q fun U=>aK 1 q fun a9=>fe U fun r=>aB (fun s=>au r false (iFL 0 false 1 f k fun V=>ab .eql V (u8 3) fun W=>eC [a,f,d,e,(nx b 0)] (s [ff,W] k)) (eC [a,f,d,e,(nx b 0)] (s [(aQ false r),un] k))) fun t l=>aH (nx t 0) tt (nx t 1) fun u=>aB (fun v=>au u false (iFL 0 false 1 f l fun X=>ab .eql X (u8 4) fun Y=>eC [a,d,e,(nx b 0)] (v [ff,Y] l)) (eC [a,d,e,(nx b 0)] (v [(aQ false u),un] l))) fun w x=>aH (nx w 0) tt (nx w 1) fun Z=>ae Z (K (i_ 8) x) (ab .add (nx b 0) (i_ 1) fun a0=>eC [a,d,e] (O [a0] x))) (iFL 0 false 1 a c fun a1=>aG 7 a1 (i_ 15) fun a2=>iFL 2 false 1 a2 c fun i=>iFL 0 false 1 a c fun a3=>aG 7 a3 (i_ 0) fun a4=>iFL 0 false 1 a4 c fun a5=>ab .neq a5 (u8 7) fun y=>aB (fun z=>au y false (ab .lss i (i_ 0) fun a6=>eC [i] (z [ff,a6] c)) (eC [i] (z [(aQ false y),un] c))) fun A B=>aH (nx A 0) tt (nx A 1) fun C=>aB (fun D=>au C false (ab .gtr i (i_ 1000) fun a7=>D [ff,a7] B) (D [(aQ false C),un] B)) fun E F=>aH (nx E 0) tt (nx E 1) fun a8=>ae a8 (K (i_ 8) F) (K (i_ 0) F)))
theorem V8(x0:AV):Body p_ 8 [x0] (W8 x0):=mkB Tryz.func8 (sn (.seq (.seq (.bz (oR 0 5 (.bj 4 false (fR 5 4) [1] [12,16]::.op 9 false::[]))) .nil) (.seq (sn (.one (.loop [1,19,20] [21] (sn (sn (.seq (.one (sn (sn (.seq (.bz (oR 0 3 (.bj 2 false (fR 3 3) [1,4,19,20,21] [34,37]::oR 6 2 (.bj 7 false (fR 8 3) [1,19,20,21] [39,42]::.op 11 false::[])))) .nil)))) .nil)))))) (.seq (sn (.seq (.bz (oR 0 7 (.bj 6 false (fR 7 2) [7] [56,58]::oR 9 2 (.bj 10 false (fR 11 2) [] [60,62]::.op 13 false::[])))) .nil)) .nil)))) 64 [.tmp 2] (by kernel_rfl) fun _ _=>by kernel_rfl
def W63(x0:AV)(h:aa)(K:AV→aa→Prop):Prop:=
 br 37 x0 h fun a l=>iFL 0 false 1 a l fun x=>aY (.agg [(u8 0),(.str []),(i_ 0),(u8 0),(u8 0),(u8 0),(u8 0)]) [(0,1,x)] fun y=>br 37 (.agg [(u8 0),(.str []),(i_ 0),(u8 0),(u8 0),(u8 0),(u8 0)]) l fun b z=>aE 7 b y z fun d=>aB (fun i=>iFL 0 false 1 a d fun c=>aB (fun m=>ab .eql c (u8 1) fun A=>ae A (iFL 1 false 1 a d fun B=>bh 1 b fun C=>aE 1 C B d fun D=>eC [a,b] (i [] D)) (ab .eql c (u8 6) fun E=>ae E (ab .quo (i_ 1000000000000) (i_ 1000) fun F=>eC [a,b] (m [F] d)) (aB (fun j=>ab .eql c (u8 2) fun G=>ae G (eC [a,b,(i_ 1000000000000),c] (j [tt] d)) (ab .eql c (u8 3) fun H=>ae H (eC [a,b,(i_ 1000000000000),c] (j [tt] d)) (ab .eql c (u8 4) fun I=>ae I (eC [a,b,(i_ 1000000000000),c] (j [tt] d)) (ab .eql c (u8 5) fun J=>eC [a,b,(i_ 1000000000000),c] (j [J] d))))) fun L f=>ae (nx L 0) (eC [a,b] (m [(i_ 1000000000000)] f)) (ab .eql c (u8 7) fun M=>ae M (iFL 3 true 4 a f fun N=>bh 3 b fun O=>aE 4 O N f fun P=>eC [a,b] (i [] P)) (ab .eql c (u8 8) fun Q=>ae Q (eC [a,b] (i [] f)) (K (i_ 8) f)))))) fun n o=>mR (nx n 0) fun R=>iFL 2 false 1 a o fun S=>mg (nx n 0) S fun T=>iY R T fun U=>bh 2 b fun V=>aE 1 V U o fun W=>eC [a,b] (i [] W)) fun a5 g=>ag true 7 a g fun X=>ag true 7 b g fun Y=>lQ true [1,2,1,1,1,1,1] X Y fun p=>aB (fun q=>au p false (iFL 0 false 1 a g fun Z=>ab .eql Z (u8 1) fun a0=>eC [a] (q [ff,a0] g)) (eC [a] (q [(aQ false p),un] g))) fun e k=>aB (fun r=>au (nx e 1) true (iFL 1 false 1 a k fun a1=>ab .eql a1 (.str []) fun a2=>eC [(nx e 0)] (r [tt,a2] k)) (eC [(nx e 0)] (r [(aQ true (nx e 1)),un] k))) fun s t=>aB (fun u=>au (nx e 0) false (aH (nx s 0) (nx s 1) ff fun a3=>u [ff,a3] t) (u [(aQ false (nx e 0)),un] t)) fun v w=>aH (nx v 0) tt (nx v 1) fun a4=>ae a4 (K (i_ 8) w) (K (i_ 0) w)
theorem V63(x0:AV):Body p_ 63 [x0] (W63 x0):=mkB Tryz.func63 (sn (sn (sn (.join [1,3] [] (sn (.one (.seq (.one (.seq (.one (.seq (.one (.join [1,3] [4] (.one (.seq (.one (.seq (.one (.seq (sn (sn (.seq (.join [1,3,4,9] [14] .nil .nil) .nil))) .nil)) .nil)) .nil)) .nil)) .nil)) .nil)) .nil))) (.seq (.seq (.bz (oR 0 4 (.bj 3 false (fR 4 4) [1] [42,46]::.bj 7 true (fR 8 3) [42] [46,49]::.bj 3 false [(11,false)] [] [42,50]::.op 12 false::[]))) .nil) .nil))))) 52 [.tmp 2] (by kernel_rfl) fun _ _=>by kernel_rfl
def W31(x0 x1:AV)(h:aa)(K:AV→aa→Prop):Prop:=
 br 37 x1 h fun a g=>ab .lss x0 (i_ 0) fun i=>aB (fun j=>au i false (ab .geq x0 (i_ 18) fun v=>eC [x0,a] (j [ff,v] g)) (eC [x0,a] (j [(aQ false i),un] g))) fun k l=>aH (nx k 0) tt (nx k 1) fun w=>ae w (K (.aF [ff,(i_ 2)]) l) (iC p_ 28 [] l fun x m=>aG 12 x x0 fun y=>ag true 12 y m fun z=>br 41 (.agg [(.str []),ff,(u8 0),(.str []),(i_ 0),(u8 0),(u8 0),(u8 0),(u8 0),nS,nS,ff]) m fun d A=>aE 12 d z A fun n=>ag true 7 a n fun B=>iC p_ 63 [B] n fun C b=>ab .neq C (i_ 0) fun D=>ae D (K (.aF [ff,(i_ 0)]) b) (iFL 0 false 1 a b fun E=>ab .eql E (u8 1) fun F=>ae F (iFL 9 false 1 d b fun G=>iFL 1 false 1 a b fun H=>iC p_ 64 [G,H] b fun I J=>K (.aF [I,(i_ 0)]) J) (iFL 10 false 1 d b fun L=>iFL 0 false 1 a b fun M=>iC p_ 65 [L,M] b fun o e=>aB (fun p=>au o true (iFL 11 false 1 d e fun N=>fe N fun O=>eC [a] (p [tt,O] e)) (eC [a] (p [(aQ true o),un] e))) fun c f=>aB (fun q=>au (nx c 1) false (iFL 2 false 1 a f fun P=>ab .geq P (i_ 0) fun Q=>eC [(nx c 0)] (q [ff,Q] f)) (eC [(nx c 0)] (q [(aQ false (nx c 1)),un] f))) fun r s=>aB (fun t=>au (nx c 0) true (aH (nx r 0) tt (nx r 1) fun R=>t [tt,R] s) (t [(aQ true (nx c 0)),un] s)) fun u S=>aH (nx u 0) (nx u 1) ff fun T=>K (.aF [T,(i_ 0)]) S)))
theorem V31(x0 x1:AV):Body p_ 31 [x0,x1] (W31 x0 x1):=mkB Tryz.func31 (sn (.seq (.seq (.bz (oR 0 3 (.bj 2 false (fR 3 2) [0,3] [9,11]::.op 5 false::[]))) .nil) (sn (sn (.seq (.bz (oR 0 6 (.bj 5 true (fR 6 4) [3] [35,39]::.bj 9 false (fR 10 3) [35] [39,42]::.bj 5 true [(13,false)] [] [35,43]::oR 14 3 []))) .nil))))) 45 [.tmp 4,.tmp 5] (by kernel_rfl) fun _ _=>by kernel_rfl
def XG(x0:AV)(h:aa)(K:AV→aa→Prop):Prop:=
 br 100 x0 h fun a b=>bh 0 a fun k=>iFL 0 false 1 k b fun l=>ab .eql l (u8 2) fun d=>aB (fun e=>au d true (bh 0 a fun m=>iFL 1 false 1 m b fun n=>iC p_ 103 [n] b fun o p=>ab .eql o (.str [118,97,114]) fun q=>eC [a] (e [tt,q] p)) (eC [a] (e [(aQ true d),un] b))) fun f c=>aH (nx f 0) (nx f 1) ff fun g=>aB (fun i=>au g false (iFL 5 false 1 a c fun r=>iC p_ 61 [r] c fun s t=>i [ff,s] t) (i [(aQ false g),un] c)) fun j u=>aH (nx j 0) tt (nx j 1) fun v=>K v u
theorem adL(x0:AV):Body p_ 102 [x0] (XG x0):=mkB Tryz.func102 (sn (.seq (.bz (oR 0 5 (.bj 4 true (fR 5 5) [1] [7,12]::oR 10 2 (.bj 11 false (fR 12 3) [] [14,17]::oR 15 2 [])))) .nil)) 19 [.tmp 2] (by kernel_rfl) fun _ _=>by kernel_rfl
def W61(x0:AV)(h:aa)(K:AV→aa→Prop):Prop:=
 iC p_ 101 [x0,(.fn (.func 102) [] [])] h fun a b=>K a b
theorem V61(x0:AV):Body p_ 61 [x0] (W61 x0):=mkB Tryz.func61 .nil 5 [.tmp 2] (by kernel_rfl) fun _ _=>by kernel_rfl
def QK(x0:AV)(h:aa)(K:AV→aa→Prop):Prop:=
 kK 5 x0 h fun a l=>bu a fun c=>bJ [(i_ 0)] l fun m b d =>
 ab .lss (nx b 0) c fun n=>ae n (aB (fun f=>aG 1 a (nx b 0) fun o=>ag false 1 o d fun e=>ab .geq e (u8 65) fun g=>aB (fun i=>au g true (ab .leq e (u8 90) fun p=>eC [a,(nx b 0),e,a,c,(nx b 0)] (i [tt,p] d)) (eC [a,(nx b 0),e,a,c,(nx b 0)] (i [(aQ true g),un] d))) fun j k=>aH (nx j 0) (nx j 1) ff fun q=>ae q (ab .add e (u8 97) fun r=>ab .sub r (u8 65) fun s=>aG 1 a (nx b 0) fun t=>aE 1 t s k fun u=>eC [a,a,c,(nx b 0)] (f [] u)) (eC [a,a,c,(nx b 0)] (f [] k))) fun y v=>ab .add (nx b 0) (i_ 1) fun w=>eC [a,a,c] (m [w] v)) (jV a d fun x=>K x d)
theorem adM(x0:AV):Body p_ 103 [x0] (QK x0):=mkB Tryz.func103 (sn (sn (.seq (sn (.one (.loop [3,8,9] [10] (sn (sn (.join [3,8,9,10] [] (.one (sn (.seq (.bz (oR 0 3 (.bj 2 true (fR 3 2) [3,4,5,8,9,10] [17,19]::.op 5 false::[]))) .nil))) .nil)))))) .nil))) 30 [.tmp 2] (by kernel_rfl) fun _ _=>by kernel_rfl
def W30(x0:AV)(h:aa)(K:AV→aa→Prop):Prop:=
 bu x0 fun t=>ab .gtr t (i_ 64) fun g=>aB (fun i=>au g false (iC p_ 60 [x0] h fun u v=>fe u fun w=>eC [x0] (i [ff,w] v)) (eC [x0] (i [(aQ false g),un] h))) fun j k=>aH (nx j 0) tt (nx j 1) fun x=>ae x (K (i_ 8) k) (bu x0 fun b=>bJ [(i_ 0)] k fun y a d =>
 ab .lss (nx a 0) b fun z=>ae z (aG 2 x0 (nx a 0) fun A=>ag true 2 A d fun B=>br 86 (.agg [(.str []),nS]) d fun c C=>aE 2 c B C fun l=>iFL 1 false 1 c l fun D=>iC p_ 40 [D] l fun E e=>ab .neq E (i_ 0) fun m=>aB (fun n=>au m false (iFL 1 false 1 c e fun F=>iC p_ 61 [F] e fun G H=>eC [c,x0,b,(nx a 0)] (n [ff,G] H)) (eC [c,x0,b,(nx a 0)] (n [(aQ false m),un] e))) fun o f=>aH (nx o 0) tt (nx o 1) fun p=>aB (fun q=>au p false (iFL 1 false 1 c f fun I=>iC p_ 62 [I] f fun J L=>ab .gtr J (i_ 2000) fun M=>eC [x0,b,(nx a 0)] (q [ff,M] L)) (eC [x0,b,(nx a 0)] (q [(aQ false p),un] f))) fun r s=>aH (nx r 0) tt (nx r 1) fun N=>ae N (K (i_ 8) s) (ab .add (nx a 0) (i_ 1) fun O=>eC [x0,b] (y [O] s))) (K (i_ 0) d))
theorem V30(x0:AV):Body p_ 30 [x0] (W30 x0):=mkB Tryz.func30 (sn (.seq (.seq (.bz (oR 0 4 (.bj 3 false (fR 4 3) [0] [8,11]::.op 7 false::[]))) .nil) (.seq (sn (.one (.loop [13,14] [15] (sn (sn (.seq (.one (sn (.seq (.bz (oR 0 5 (.bj 4 false (fR 5 3) [4,13,14,15] [23,26]::oR 8 2 (.bj 9 false (fR 10 4) [13,14,15] [28,32]::.op 14 false::[])))) .nil))) .nil)))))) .nil))) 35 [.tmp 2] (by kernel_rfl) fun _ _=>by kernel_rfl
def W62(x0:AV)(h:aa)(K:AV→aa→Prop):Prop:=
 bu x0 fun e=>bJ [(i_ 0),(i_ 0)] h fun f a d =>
 ab .lss (nx a 1) e fun g=>ae g (aG 6 x0 (nx a 1) fun i=>ag true 6 i d fun j=>br 100 (.agg [(u8 0),(.str []),(i_ 0),(.str []),ff,nS]) d fun c k=>aE 6 c j k fun b=>bh 0 c fun l=>iFL 1 false 1 l b fun m=>ni m fun n=>ab .add (i_ 1) n fun o=>bh 0 c fun p=>iFL 3 false 1 p b fun q=>ni q fun r=>ab .add o r fun s=>iFL 5 false 1 c b fun t=>iQ p_ 62 [t] b fun u=>ab .add s u fun v=>ab .add (nx a 0) v fun w=>ab .add (nx a 1) (i_ 1) fun x=>eC [x0,e] (f [w,x] b)) (K (nx a 0) d)
theorem V62(x0:AV):Body p_ 62 [x0] (W62 x0):=mkB Tryz.func62 (sn (sn (.seq (sn (.one (.loop [6,7] [3,8] (sn (sn (.seq (.one (sn (.draw 17 (oR 0 17 []) [] []))) .nil)))))) .nil))) 30 [.tmp 2] (by kernel_rfl) fun _ _=>by kernel_rfl
def W60(x0:AV)(h:aa)(K:AV→aa→Prop):Prop:=
 bu x0 fun c=>bJ [(.str []),(i_ 0)] h fun l a d =>
 ab .lss (nx a 1) c fun m=>ae m (aG 2 x0 (nx a 1) fun n=>ag true 2 n d fun o=>br 86 (.agg [(.str []),nS]) d fun b p=>aE 2 b o p fun g=>iFL 0 false 1 b g fun q=>iC p_ 73 [q] g fun r e=>fe r fun i=>aB (fun j=>au i false (iFL 0 false 1 b e fun s=>ab .leq s (nx a 0) fun t=>eC [b,x0,c,(nx a 1)] (j [ff,t] e)) (eC [b,x0,c,(nx a 1)] (j [(aQ false i),un] e))) fun k f=>aH (nx k 0) tt (nx k 1) fun u=>ae u (K ff f) (iFL 0 false 1 b f fun v=>ab .add (nx a 1) (i_ 1) fun w=>eC [x0,c] (l [v,w] f))) (K tt d)
theorem V60(x0:AV):Body p_ 60 [x0] (W60 x0):=mkB Tryz.func60 (sn (sn (.seq (sn (.one (.loop [6,7] [3,8] (sn (sn (.seq (.one (sn (.seq (.seq (.bz (oR 0 5 (.bj 4 false (fR 5 4) [5,6,7,8] [16,20]::.op 9 false::[]))) .nil) .nil))) .nil)))))) .nil))) 25 [.tmp 2] (by kernel_rfl) fun _ _=>by kernel_rfl
def W70(x0:AV)(h:aa)(K:AV→aa→Prop):Prop:=
 br 37 x0 h fun a m=>iFL 0 false 1 a m fun u=>aY (.agg [(u8 0),(.str []),(i_ 0),(u8 0),(u8 0),(u8 0),(u8 0)]) [(0,1,u)] fun v=>br 37 (.agg [(u8 0),(.str []),(i_ 0),(u8 0),(u8 0),(u8 0),(u8 0)]) m fun b w=>aE 7 b v w fun e=>aB (fun f=>iFL 0 false 1 a e fun c=>ab .eql c (u8 1) fun x=>ae x (iFL 1 false 1 a e fun y=>bh 1 b fun z=>aE 1 z y e fun k=>iFL 1 false 1 a k fun A=>ab .eql A (.str []) fun B=>ae B (K (i_ 8) k) (eC [a,b] (f [(i_ 1000000000000)] k))) (aB (fun i=>ab .eql c (u8 2) fun C=>ae C (eC [a,b,(i_ 1000000000000),c] (i [tt] e)) (ab .eql c (u8 3) fun D=>ae D (eC [a,b,(i_ 1000000000000),c] (i [tt] e)) (ab .eql c (u8 4) fun E=>ae E (eC [a,b,(i_ 1000000000000),c] (i [tt] e)) (ab .eql c (u8 5) fun F=>eC [a,b,(i_ 1000000000000),c] (i [F] e))))) fun G d=>ae (nx G 0) (iFL 2 false 1 a d fun H=>bh 2 b fun I=>aE 1 I H d fun J=>eC [a,b] (f [(i_ 1000000000000)] J)) (ab .eql c (u8 6) fun L=>ae L (iFL 2 false 1 a d fun M=>bh 2 b fun N=>aE 1 N M d fun O=>eC [a,b] (f [(i_ 1000000000)] O)) (ab .eql c (u8 7) fun P=>ae P (iFL 3 true 4 a d fun Q=>bh 3 b fun R=>aE 4 R Q d fun S=>eC [a,b] (f [(i_ 1000000000000)] S)) (ab .eql c (u8 8) fun T=>ae T (eC [a,b] (f [(i_ 1000000000000)] d)) (K (i_ 8) d)))))) fun j g=>ag true 7 a g fun U=>ag true 7 b g fun V=>lQ true [1,2,1,1,1,1,1] U V fun n=>aB (fun o=>au n false (iFL 2 false 1 a g fun W=>ab .gtr W (nx j 0) fun X=>eC [a,(nx j 0)] (o [ff,X] g)) (eC [a,(nx j 0)] (o [(aQ false n),un] g))) fun p l=>aH (nx p 0) tt (nx p 1) fun q=>aB (fun r=>au q false (iFL 2 false 1 a l fun Y=>mR (nx j 0) fun Z=>ab .lss Y Z fun a0=>r [ff,a0] l) (r [(aQ false q),un] l)) fun s t=>aH (nx s 0) tt (nx s 1) fun a1=>ae a1 (K (i_ 8) t) (K (i_ 0) t)
theorem V70(x0:AV):Body p_ 70 [x0] (W70 x0):=mkB Tryz.func70 (sn (sn (sn (.join [1,3] [4] (sn (.one (sn (.two .nil (.join [1,3,4,9] [18] .nil .nil))))) (.seq (.seq (.bz (oR 0 4 (.bj 3 false (fR 4 4) [1,4] [41,45]::oR 8 2 (.bj 9 false (fR 10 5) [] [47,52]::.op 15 false::[])))) .nil) .nil))))) 54 [.tmp 2] (by kernel_rfl) fun _ _=>by kernel_rfl
def W33(x0 x1:AV)(h:aa)(K:AV→aa→Prop):Prop:=
 br 37 x1 h fun b s=>iC p_ 10 [] s fun e l=>ab .lss x0 (i_ 0) fun m=>aB (fun n=>au m false (bu e fun t=>ab .geq x0 t fun u=>eC [x0,b,e] (n [ff,u] l)) (eC [x0,b,e] (n [(aQ false m),un] l))) fun o f=>aH (nx o 0) tt (nx o 1) fun v=>ae v (K (.aF [ff,(i_ 2)]) f) (ag true 7 b f fun w=>iC p_ 70 [w] f fun x g=>ab .neq x (i_ 0) fun y=>ae y (K (.aF [ff,(i_ 0)]) g) (aG 12 e x0 fun z=>ag true 12 z g fun A=>br 41 (.agg [(.str []),ff,(u8 0),(.str []),(i_ 0),(u8 0),(u8 0),(u8 0),(u8 0),nS,nS,ff]) g fun c B=>aE 12 c A B fun i=>iFL 0 false 1 b i fun C=>ab .eql C (u8 1) fun D=>ae D (bJ [(i_ 0)] i fun E j d =>
 iFL 9 false 1 c d fun F=>bu F fun G=>ab .lss (nx j 0) G fun H=>ae H (iFL 9 false 1 c d fun I=>aG 1 I (nx j 0) fun J=>ag false 1 J d fun L=>iFL 1 false 1 b d fun M=>ab .eql L M fun N=>ae N (K (.aF [tt,(i_ 0)]) d) (ab .add (nx j 0) (i_ 1) fun O=>eC [b,c] (E [O] d))) (K (.aF [ff,(i_ 0)]) d)) (bJ [(i_ 0)] i fun P k a =>
 iFL 10 false 1 c a fun Q=>bu Q fun R=>ab .lss (nx k 0) R fun S=>ae S (iFL 10 false 1 c a fun T=>aG 1 T (nx k 0) fun U=>ag false 1 U a fun V=>iFL 0 false 1 b a fun W=>ab .eql V W fun X=>ae X (iFL 11 false 1 c a fun Y=>fe Y fun p=>aB (fun q=>au p false (iFL 2 false 1 b a fun Z=>ab .geq Z (i_ 0) fun a0=>q [ff,a0] a) (q [(aQ false p),un] a)) fun r a1=>aH (nx r 0) tt (nx r 1) fun a2=>K (.aF [a2,(i_ 0)]) a1) (ab .add (nx k 0) (i_ 1) fun a3=>eC [b,c] (P [a3] a))) (K (.aF [ff,(i_ 0)]) a))))
theorem V33(x0 x1:AV):Body p_ 33 [x0,x1] (W33 x0 x1):=mkB Tryz.func33 (sn (sn (.seq (.seq (.bz (oR 0 3 (.bj 2 false (fR 3 4) [0,3,6] [13,17]::.op 7 false::[]))) .nil) (sn (sn (.seq (sn (.two (.seq (sn (.one (.loop [3,7] [8] (sn (.seq (.one (.seq (.draw 8 (oR 0 8 []) [] []) .nil)) .nil))))) .nil) .nil)) (.seq (sn (.one (.loop [3,7] [9] (sn (.seq (.one (.seq (.draw 8 (oR 0 8 []) [] []) (.two (.seq (.bz (oR 0 4 (.bj 3 false (fR 4 3) [] [62,65]::oR 7 3 []))) .nil) .nil))) .nil))))) .nil))))))) 67 [.tmp 4,.tmp 5] (by kernel_rfl) fun _ _=>by kernel_rfl
def XL(x0:AV)(h:aa)(K:AV→aa→Prop):Prop:=
 kK 5 x0 h fun a j=>bJ [(i_ 0)] j fun k b c =>
 bu a fun l=>ab .lss (nx b 0) l fun m=>ae m (aB (fun e=>aG 1 a (nx b 0) fun n=>ag false 1 n c fun o=>ab .geq o (u8 65) fun f=>aB (fun g=>au f true (aG 1 a (nx b 0) fun p=>ag false 1 p c fun q=>ab .leq q (u8 90) fun r=>eC [a,(nx b 0)] (g [tt,r] c)) (eC [a,(nx b 0)] (g [(aQ true f),un] c))) fun i d=>aH (nx i 0) (nx i 1) ff fun s=>ae s (aG 1 a (nx b 0) fun t=>ag false 1 t d fun u=>ab .add u (u8 32) fun v=>aG 1 a (nx b 0) fun w=>aE 1 w v d fun x=>eC [a,(nx b 0)] (e [] x)) (eC [a,(nx b 0)] (e [] d))) fun B y=>ab .add (nx b 0) (i_ 1) fun z=>eC [a] (k [z] y)) (jV a c fun A=>K A c)
theorem adR(x0:AV):Body p_ 108 [x0] (XL x0):=mkB Tryz.func108 (sn (sn (.seq (sn (.one (.loop [3] [4] (sn (.join [3,4] [] (.one (.seq (.bz (oR 0 6 (.bj 5 true (fR 6 5) [3,4] [18,23]::.op 11 false::[]))) .nil)) .nil))))) .nil))) 33 [.tmp 2] (by kernel_rfl) fun _ _=>by kernel_rfl
def W68(x0:AV)(h:aa)(K:AV→aa→Prop):Prop:=
 bJ [(i_ 0)] h fun n a c =>
 bu x0 fun o=>ab .lss (nx a 0) o fun p=>ae p (aG 6 x0 (nx a 0) fun q=>iFL 0 true 5 q c fun r=>br 98 (.agg [(u8 0),(.str []),(i_ 0),(.str []),ff]) c fun d s=>aE 5 d r s fun b=>iFL 0 false 1 d b fun t=>ab .eql t (u8 2) fun f=>aB (fun g=>au f true (iFL 1 false 1 d b fun u=>iC p_ 108 [u] b fun v w=>ab .eql v (.str [118,97,114]) fun x=>eC [x0,(nx a 0)] (g [tt,x] w)) (eC [x0,(nx a 0)] (g [(aQ true f),un] b))) fun i e=>aH (nx i 0) (nx i 1) ff fun j=>aB (fun k=>au j false (aG 6 x0 (nx a 0) fun y=>iFL 5 false 1 y e fun z=>iC p_ 68 [z] e fun A B=>eC [x0,(nx a 0)] (k [ff,A] B)) (eC [x0,(nx a 0)] (k [(aQ false j),un] e))) fun l m=>aH (nx l 0) tt (nx l 1) fun C=>ae C (K tt m) (ab .add (nx a 0) (i_ 1) fun D=>eC [x0] (n [D] m))) (K ff c)
theorem V68(x0:AV):Body p_ 68 [x0] (W68 x0):=mkB Tryz.func68 (sn (.seq (sn (.one (.loop [0] [3] (sn (.seq (.one (sn (.seq (.bz (oR 0 4 (.bj 3 true (fR 4 4) [0,3] [19,23]::oR 8 2 (.bj 9 false (fR 10 6) [0,3] [25,31]::.op 16 false::[])))) .nil))) .nil))))) .nil)) 33 [.tmp 2] (by kernel_rfl) fun _ _=>by kernel_rfl
def W32(x0:AV)(h:aa)(K:AV→aa→Prop):Prop:=
 bu x0 fun q=>ab .gtr q (i_ 64) fun e=>aB (fun f=>au e false (iC p_ 66 [x0] h fun r s=>fe r fun t=>eC [x0] (f [ff,t] s)) (eC [x0] (f [(aQ false e),un] h))) fun g i=>aH (nx g 0) tt (nx g 1) fun u=>ae u (K (i_ 8) i) (bJ [(i_ 0)] i fun v a b =>
 bu x0 fun w=>ab .lss (nx a 0) w fun x=>ae x (aG 2 x0 (nx a 0) fun y=>iFL 1 false 1 y b fun z=>iC p_ 67 [z] b fun A c=>ab .neq A (i_ 0) fun j=>aB (fun k=>au j false (aG 2 x0 (nx a 0) fun B=>iFL 1 false 1 B c fun C=>iC p_ 68 [C] c fun D E=>eC [x0,(nx a 0)] (k [ff,D] E)) (eC [x0,(nx a 0)] (k [(aQ false j),un] c))) fun l d=>aH (nx l 0) tt (nx l 1) fun m=>aB (fun n=>au m false (aG 2 x0 (nx a 0) fun F=>iFL 1 false 1 F d fun G=>iC p_ 69 [G] d fun H I=>ab .gtr H (i_ 2000) fun J=>eC [x0,(nx a 0)] (n [ff,J] I)) (eC [x0,(nx a 0)] (n [(aQ false m),un] d))) fun o p=>aH (nx o 0) tt (nx o 1) fun L=>ae L (K (i_ 8) p) (ab .add (nx a 0) (i_ 1) fun M=>eC [x0] (v [M] p))) (K (i_ 0) b))
theorem V32(x0:AV):Body p_ 32 [x0] (W32 x0):=mkB Tryz.func32 (sn (.seq (.seq (.bz (oR 0 4 (.bj 3 false (fR 4 3) [0] [7,10]::.op 7 false::[]))) .nil) (.seq (sn (.one (.loop [0] [3] (sn (.seq (.one (.seq (.bz (oR 0 8 (.bj 7 false (fR 8 6) [0,3] [25,31]::oR 14 2 (.bj 15 false (fR 16 7) [0,3] [33,40]::.op 23 false::[])))) .nil)) .nil))))) .nil))) 42 [.tmp 2] (by kernel_rfl) fun _ _=>by kernel_rfl
def W49(x0:AV)(h:aa)(K:AV→aa→Prop):Prop:=
 bJ [(i_ 0),(i_ 0)] h fun p a e =>
 bu x0 fun q=>ab .lss (nx a 1) q fun f=>aB (fun g=>au f true (ab .leq (nx a 1) (i_ 70) fun r=>eC [x0,(nx a 0),(nx a 1)] (g [tt,r] e)) (eC [x0,(nx a 0),(nx a 1)] (g [(aQ true f),un] e))) fun i b=>aH (nx i 0) (nx i 1) ff fun s=>ae s (aG 2 x0 (nx a 1) fun t=>iFL 1 false 1 t b fun u=>iC p_ 47 [u] b fun j c=>aB (fun k=>au j false (aG 2 x0 (nx a 1) fun v=>iFL 0 false 1 v c fun w=>gQ w fun x=>ab .gtr x (i_ 100) fun y=>eC [x0,(nx a 0),(nx a 1)] (k [ff,y] c)) (eC [x0,(nx a 0),(nx a 1)] (k [(aQ false j),un] c))) fun l d=>aH (nx l 0) tt (nx l 1) fun z=>ae z (K tt d) (aG 2 x0 (nx a 1) fun A=>iFL 1 false 1 A d fun B=>iC p_ 48 [B,(i_ 300)] d fun C D=>ab .add (nx a 0) C fun E=>ab .add (nx a 1) (i_ 1) fun F=>eC [x0] (p [E,F] D))) (bu x0 fun G=>ab .gtr G (i_ 70) fun m=>aB (fun n=>au m false (ab .gtr (nx a 0) (i_ 1500) fun H=>n [ff,H] b) (n [(aQ false m),un] b)) fun o I=>aH (nx o 0) tt (nx o 1) fun J=>K J I)
theorem V49(x0:AV):Body p_ 49 [x0] (W49 x0):=mkB Tryz.func49 (sn (sn (.seq (sn (.one (.loop [0] [3,4] (.seq (.seq (.bz (oR 0 5 (.bj 4 true (fR 5 2) [0,3,4] [9,11]::.op 7 false::[]))) .nil) (.seq (.one (.seq (.seq (.bz (oR 0 7 (.bj 6 false (fR 7 7) [0,3,4] [21,28]::.op 14 false::[]))) .nil) .nil)) .nil))))) (.seq (.bz (oR 0 4 (.bj 3 false (fR 4 2) [] [41,43]::oR 6 2 []))) .nil)))) 45 [.tmp 2] (by kernel_rfl) fun _ _=>by kernel_rfl
def W69(x0:AV)(h:aa)(K:AV→aa→Prop):Prop:=
 bJ [(i_ 0),(i_ 0)] h fun c a b =>
 bu x0 fun d=>ab .lss (nx a 1) d fun e=>ae e (aG 6 x0 (nx a 1) fun f=>bh 0 f fun g=>iFL 1 false 1 g b fun i=>ni i fun j=>ab .add (i_ 1) j fun k=>aG 6 x0 (nx a 1) fun l=>bh 0 l fun m=>iFL 3 false 1 m b fun n=>ni n fun o=>ab .add k o fun p=>aG 6 x0 (nx a 1) fun q=>iFL 5 false 1 q b fun r=>iQ p_ 69 [r] b fun s=>ab .add p s fun t=>ab .add (nx a 0) t fun u=>ab .add (nx a 1) (i_ 1) fun v=>eC [x0] (c [u,v] b)) (K (nx a 0) b)
theorem V69(x0:AV):Body p_ 69 [x0] (W69 x0):=mkB Tryz.func69 (sn (sn (.seq (sn (.one (.loop [0] [3,4] (sn (.seq (.one (.draw 26 (oR 0 26 []) [] [])) .nil))))) .nil))) 37 [.tmp 2] (by kernel_rfl) fun _ _=>by kernel_rfl
def W66(x0:AV)(h:aa)(K:AV→aa→Prop):Prop:=
 bJ [(i_ 0)] h fun q b a =>
 bu x0 fun r=>ab .lss (nx b 0) r fun s=>ae s (aG 2 x0 (nx b 0) fun t=>iFL 0 false 1 t a fun u=>iQ p_ 11 [u] a fun v=>fe v fun c=>aB (fun d=>au c false (ab .gtr (nx b 0) (i_ 0) fun e=>d [(nx b 0),e,e] a) (d [un,un,un] a)) fun f _=>aB (fun g=>au (nx f 2) true (ab .sub (nx b 0) (i_ 1) fun i=>aG 2 x0 i fun j=>bh 0 j fun k=>ag false 1 k a fun l=>aG 2 x0 (nx b 0) fun m=>bh 0 m fun n=>ag false 1 n a fun o=>ab .geq l o fun w=>g [x0,(nx b 0),i,j,k,l,x0,(nx b 0),m,n,o,w] a) (g [un,un,un,un,un,un,un,un,un,un,un,un] a)) fun x _=>aB (fun p=>au c false (aH (nx f 2) (nx x 11) ff fun y=>p [y] a) (p [un] a)) fun z _=>aH c tt (nx z 0) fun A=>ae A (K ff a) (ab .add (nx b 0) (i_ 1) fun B=>eC [x0] (q [B] a))) (K tt a)
theorem V66(x0:AV):Body p_ 66 [x0] (W66 x0):=mkB Tryz.func66 (sn (.seq (sn (.one (.loop [0] [3] (sn (.seq (.one (.seq (.draw 25 (oR 0 8 (.bj 7 false (fR 8 3) [] [18,19,20]::.bj 10 true (fR 11 12) [] [21,22,23,24,25,26,27,28,29,30,31,32]::.bj 7 false [(23,false)] [] [33]::.op 24 false::[])) [] []) .nil)) .nil))))) .nil)) 35 [.tmp 2] (by kernel_rfl) fun _ _=>by kernel_rfl
def W9(x0:AV)(h:aa)(K:AV→aa→Prop):Prop:=
 br 26 x0 h fun a e=>iFL 0 false 1 a e fun D=>bu D fun E=>ab .neq E (i_ 18) fun j=>aB (fun k=>au j false (iFL 1 false 1 a e fun F=>iC p_ 32 [F] e fun G H=>ab .neq G (i_ 0) fun I=>eC [a] (k [ff,I] H)) (eC [a] (k [(aQ false j),un] e))) fun l m=>aH (nx l 0) tt (nx l 1) fun J=>ae J (K (i_ 8) m) (bJ [(i_ 0)] m fun L c b =>
 iFL 0 false 1 a b fun M=>bu M fun N=>ab .lss (nx c 0) N fun O=>ae O (iFL 0 false 1 a b fun P=>aG 7 P (nx c 0) fun Q=>ag true 7 Q b fun R=>br 37 (.agg [(u8 0),(.str []),(i_ 0),(u8 0),(u8 0),(u8 0),(u8 0)]) b fun d S=>aE 7 d R S fun n=>ag true 7 d n fun T=>iC p_ 33 [(nx c 0),T] n fun o g=>aK 0 o fun U=>aK 1 o fun b3=>fe U fun p=>aB (fun q=>au p false (iFL 0 false 1 d g fun V=>ab .eql V (u8 3) fun W=>eC [a,(nx c 0),d] (q [ff,W] g)) (eC [a,(nx c 0),d] (q [(aQ false p),un] g))) fun r i=>aH (nx r 0) tt (nx r 1) fun s=>aB (fun t=>au s false (iFL 0 false 1 d i fun X=>ab .eql X (u8 4) fun Y=>eC [a,(nx c 0)] (t [ff,Y] i)) (eC [a,(nx c 0)] (t [(aQ false s),un] i))) fun u v=>aH (nx u 0) tt (nx u 1) fun Z=>ae Z (K (i_ 8) v) (ab .add (nx c 0) (i_ 1) fun a0=>eC [a] (L [a0] v))) (iFL 0 false 1 a b fun a1=>aG 7 a1 (i_ 0) fun a2=>iFL 0 false 1 a2 b fun a3=>ab .neq a3 (u8 7) fun w=>aB (fun x=>au w false (iFL 0 false 1 a b fun a4=>aG 7 a4 (i_ 15) fun a5=>iFL 2 false 1 a5 b fun a6=>ab .lss a6 (i_ 0) fun a7=>eC [a] (x [ff,a7] b)) (eC [a] (x [(aQ false w),un] b))) fun y f=>aH (nx y 0) tt (nx y 1) fun z=>aB (fun A=>au z false (iFL 0 false 1 a f fun a8=>aG 7 a8 (i_ 15) fun a9=>iFL 2 false 1 a9 f fun b0=>ab .gtr b0 (i_ 1000) fun b1=>A [ff,b1] f) (A [(aQ false z),un] f)) fun B C=>aH (nx B 0) tt (nx B 1) fun b2=>ae b2 (K (i_ 8) C) (K (i_ 0) C)))
theorem V9(x0:AV):Body p_ 9 [x0] (W9 x0):=mkB Tryz.func9 (sn (.seq (.seq (.bz (oR 0 5 (.bj 4 false (fR 5 4) [1] [11,15]::.op 9 false::[]))) .nil) (.seq (sn (.one (.loop [1] [3] (sn (.seq (.one (sn (sn (.seq (.bz (oR 0 3 (.bj 2 false (fR 3 3) [1,3,4] [37,40]::oR 6 2 (.bj 7 false (fR 8 3) [1,3] [42,45]::.op 11 false::[])))) .nil)))) .nil))))) (.seq (.seq (.bz (oR 0 7 (.bj 6 false (fR 7 6) [1] [53,59]::oR 13 2 (.bj 14 false (fR 15 6) [] [61,67]::.op 21 false::[])))) .nil) .nil)))) 69 [.tmp 2] (by kernel_rfl) fun _ _=>by kernel_rfl
def W25(x0:AV)(h:aa)(K:AV→aa→Prop):Prop:=
 br 26 x0 h fun b l=>bJ [(i_ 0)] l fun m c d =>
 iFL 0 false 1 b d fun n=>bu n fun o=>ab .lss (nx c 0) o fun e=>aB (fun f=>au e true (ab .leq (nx c 0) (i_ 30) fun p=>eC [b,(nx c 0)] (f [tt,p] d)) (eC [b,(nx c 0)] (f [(aQ true e),un] d))) fun g a=>aH (nx g 0) (nx g 1) ff fun q=>ae q (iFL 0 false 1 b a fun r=>aG 7 r (nx c 0) fun s=>iFL 1 false 1 s a fun t=>gQ t fun u=>ab .gtr u (i_ 100) fun v=>ae v (K tt a) (ab .add (nx c 0) (i_ 1) fun w=>eC [b] (m [w] a))) (iFL 0 false 1 b a fun x=>bu x fun y=>ab .gtr y (i_ 30) fun i=>aB (fun j=>au i false (iFL 1 false 1 b a fun z=>iC p_ 49 [z] a fun A B=>j [ff,A] B) (j [(aQ false i),un] a)) fun k C=>aH (nx k 0) tt (nx k 1) fun D=>K D C)
theorem V25(x0:AV):Body p_ 25 [x0] (W25 x0):=mkB Tryz.func25 (sn (.seq (sn (.one (.loop [1] [3] (.seq (.seq (.bz (oR 0 6 (.bj 5 true (fR 6 2) [1,3] [9,11]::.op 8 false::[]))) .nil) .nil)))) (.seq (.bz (oR 0 5 (.bj 4 false (fR 5 3) [] [27,30]::oR 8 2 []))) .nil))) 32 [.tmp 2] (by kernel_rfl) fun _ _=>by kernel_rfl
end
section
open Go Go.Aw Go.dz
def Xq(n:Nat):Prop:=∀(l:List Vl),aW l≤n→aP p_ 62 [.sl 6 (ar l)] (i_ (aW l))
theorem We{n:Nat}(hn:n<2^39)(hP:∀n',n'<n→Xq n'):Xq n:=by
 intro l hz;refine (V62 _).gives (by simp[dd]) (by simp) ?_;unfold W62;have hlen:(ar l).length=l.length:=by simp[aJ]
 have hll:=fu l;try refine zzk (n:=l.length) hlen fun _=>?_
 refine aU (α:=Nat) (fun k=>k≤l.length) (fun k=>[i_ (aW (l.take k)),i_ k]) (fun _=>[]) (fun k=>l.length-k) 0 (by simp) (by simpa[aW]using Wk.refl _ _ _ (by simp)) ?_;intro k hk;try refine zzk (n:=l.length) hlen fun _=>?_
 refine zzC ?_;rcases AT k l.length with q|q
 ·obtain⟨⟨kd,tx,nu,un',fl,l2⟩,hx⟩:∃x,l[k]?=some x:=⟨l[k],dO q⟩;have hin:aN ((k:Int)+1):=by unfold aN;omega
  have hzv:=gX (gO hx);have q1:decide ((k:Int)<l.length)=true:=by simpa using q
  have b0:=jG l (k+1);have d1:aW (l.take (k+1))=aW (l.take k)+zV (.mk kd tx nu un' fl l2):=by
   rw[Gt,hx,oS];simp[aW]
  rw[zV]at d1 hzv;obtain⟨S,hS⟩:∃S,aW (l.take k)=S:=⟨_,rfl⟩;rw[hS]at d1 ⊢;obtain⟨S2,hS2⟩:∃S,aW l2=S:=⟨_,rfl⟩;have hrec:aP p_ 62 [.sl 6 (ar l2)] (i_ (aW l2)):=hP (aW l2) (by omega) l2 (aS _);rw[hS2]at d1 hrec hzv;have i1:aN ((1:Int)+tx.length):=by unfold aN;omega
  have i2:aN ((1:Int)+tx.length+un'.length):=by unfold aN;omega
  have i3:aN ((1:Int)+tx.length+un'.length+S2):=by unfold aN;omega
  have i4:aN ((S:Int)+(1+tx.length+un'.length+S2)):=by unfold aN;omega
  have e:(((S:Int)+(1+tx.length+un'.length+S2)))=((aW (l.take (k+1)):Nat):Int):=by rw[d1];omega
  have ed:=cK (.mk kd tx nu un' fl l2);repeat' (first|(with_reducible apply af)|((with_reducible apply di);rfl;rfl;first|assumption|(unfold aN;omega))|((with_reducible apply ao);rfl;first|rfl|assumption)|((with_reducible apply aV);rfl)|((with_reducible apply aR);rfl;rfl;rfl)|((with_reducible apply dV);rfl;first|rfl|simp)|((with_reducible apply dr);first|rfl|simp)|((with_reducible apply eS);rfl;rfl;rfl;rfl;(first|exact aS _|simp);(first|rfl|simp);(first|rfl|simp))|(refine zzg (aJ l) rfl hx ?_)|(refine D9 rfl ?_)|(refine zzT (by kernel_rfl) hrec ?_))
  rw[e];first
   | exact⟨k+1,q,Wk.refl _ _ _ (by simp),by omega⟩
   | exact⟨k+1,q,Wk.back (M:=0) (by simp) (by simp) rfl rfl (by simp[gr]) (by simp[Bd]),by omega⟩
   | exact⟨k+1,q,Wk.le (by simp) (by simp),by omega⟩
 ·have hk:k=l.length:=by omega
  subst hk;rw[GO];have q1:decide ((l.length:Int)<l.length)=false:=by simp
  repeat' (first|((with_reducible apply ah);rfl;first|rfl|assumption))
  exact .pure (by simp) rfl
theorem wJ(l:List Vl)(hz:aW l<2^39):aP p_ 62 [.sl 6 (ar l)] (i_ (aW l)):=by
 have:∀n,n<2^39→Xq n:=by
  intro n;induction n using Nat.strongRecOn with
  | _ n ih=>exact fun hn=>We hn fun n' h=>ih n' h (by omega)
 exact this _ hz l (aS _)
def Xo(n:Nat):Prop:=∀(l:List Vl),aW l≤n→aP p_ 69 [.sl 6 (ar l)] (i_ (aW l))
theorem Wc{n:Nat}(hn:n<2^39)(hP:∀n',n'<n→Xo n'):Xo n:=by
 intro l hz;refine (V69 _).gives (by simp[dd]) (by simp) ?_;unfold W69;have hlen:(ar l).length=l.length:=by simp[aJ]
 have hll:=fu l;try refine zzk (n:=l.length) hlen fun _=>?_
 refine aU (α:=Nat) (fun k=>k≤l.length) (fun k=>[i_ (aW (l.take k)),i_ k]) (fun _=>[]) (fun k=>l.length-k) 0 (by simp) (by simpa[aW]using Wk.refl _ _ _ (by simp)) ?_;intro k hk;try refine zzk (n:=l.length) hlen fun _=>?_
 refine zzC ?_;rcases AT k l.length with q|q
 ·obtain⟨⟨kd,tx,nu,un',fl,l2⟩,hx⟩:∃x,l[k]?=some x:=⟨l[k],dO q⟩;have hin:aN ((k:Int)+1):=by unfold aN;omega
  have hzv:=gX (gO hx);have q1:decide ((k:Int)<l.length)=true:=by simpa using q
  have b0:=jG l (k+1);have d1:aW (l.take (k+1))=aW (l.take k)+zV (.mk kd tx nu un' fl l2):=by
   rw[Gt,hx,oS];simp[aW]
  rw[zV]at d1 hzv;obtain⟨S,hS⟩:∃S,aW (l.take k)=S:=⟨_,rfl⟩;rw[hS]at d1 ⊢;obtain⟨S2,hS2⟩:∃S,aW l2=S:=⟨_,rfl⟩;have hrec:aP p_ 69 [.sl 6 (ar l2)] (i_ (aW l2)):=hP (aW l2) (by omega) l2 (aS _);rw[hS2]at d1 hrec hzv;have i1:aN ((1:Int)+tx.length):=by unfold aN;omega
  have i2:aN ((1:Int)+tx.length+un'.length):=by unfold aN;omega
  have i3:aN ((1:Int)+tx.length+un'.length+S2):=by unfold aN;omega
  have i4:aN ((S:Int)+(1+tx.length+un'.length+S2)):=by unfold aN;omega
  have e:(((S:Int)+(1+tx.length+un'.length+S2)))=((aW (l.take (k+1)):Nat):Int):=by rw[d1];omega
  have ed:=cK (.mk kd tx nu un' fl l2);repeat' (first|(with_reducible apply af)|((with_reducible apply di);rfl;rfl;first|assumption|(unfold aN;omega))|((with_reducible apply ao);rfl;first|rfl|assumption)|((with_reducible apply dX);rfl)|((with_reducible apply de);rfl)|(refine zzg (aJ l) rfl hx ?_)|(refine D9 rfl ?_)|(refine zzT (by kernel_rfl) hrec ?_))
  rw[e];first
   | exact⟨k+1,q,Wk.refl _ _ _ (by simp),by omega⟩
   | exact⟨k+1,q,Wk.back (M:=0) (by simp) (by simp) rfl rfl (by simp[gr]) (by simp[Bd]),by omega⟩
   | exact⟨k+1,q,Wk.le (by simp) (by simp),by omega⟩
 ·have hk:k=l.length:=by omega
  subst hk;rw[GO];have q1:decide ((l.length:Int)<l.length)=false:=by simp
  repeat' (first|((with_reducible apply ah);rfl;first|rfl|assumption))
  exact .pure (by simp) rfl
theorem Q1(l:List Vl)(hz:aW l<2^39):aP p_ 69 [.sl 6 (ar l)] (i_ (aW l)):=by
 have:∀n,n<2^39→Xo n:=by
  intro n;induction n using Nat.strongRecOn with
  | _ n ih=>exact fun hn=>Wc hn fun n' h=>ih n' h (by omega)
 exact this _ hz l (aS _)
end
section
open Go Go.Aw
variable [Laid]
end
section
open Go Go.Aw
abbrev zO:=Op.bytesLess
def ae9(l:List aD)(k:Nat):Bool:=decide ((l.getD k []).length≤64)&&(decide (k=0)||zO (l.getD (k-1) []) (l.getD k []))
def abK(l:List aD):Bool:=(List.range l.length).all (ae9 l)
def hE(l:List aD):Int:=if 32<l.length then 4 else if abK l=true then 0 else 8
theorem NX{x y:AV}{a b:List UInt8}{K:AV→Prop}(ex:x=.str a)(ey:y=.str b)(q:K (.v (.bool (!Op.bytesLess a b)))):ab .geq x y K:=by subst ex;subst ey;exact q
end
section
open Go Go.Aw Go.dz
variable{K:AV→Prop}{k:Nat}{x y:AV}{s:aD}{b:UInt8}
structure Cu where
 name:aD
 value:List Vl
def eT(c:Cu):List AV:=[.str c.name,.sl 6 (ar c.value)]
def az(l:List Cu):List (List AV):=l.map eT
theorem dp:∀l,du (az l)
 | []=>by simp[az,du]
 | s:: l=>by have:=dp l;unfold az at this ⊢;simp only[IF,du];exact⟨by simp[eT,bf,dd],this⟩
theorem F4:∀a b:aD,(zO a b||decide (a=b))=!zO b a
 | [],[]=>rfl
 | [],_:: _=>rfl
 | _:: _,[]=>by simp[zO,Op.bytesLess]
 | x:: a,y:: b=>by
   have ih:=F4 a b;simp only[zO,Op.bytesLess]at ih ⊢;rcases Nat.lt_trichotomy x.toNat y.toNat with h|h|h
   ·have h1:x<y:=UInt8.lt_iff_toNat_lt.2 h;have h2:¬y<x:=fun q=>by have:=UInt8.lt_iff_toNat_lt.1 q;omega
    have h3:¬y=x:=fun q=>by subst q;omega
    simp[h1,h2,h3]
   ·have h0:x=y:=UInt8.toNat_inj.1 h;subst h0;have h2:¬x<x:=fun q=>by have:=UInt8.lt_iff_toNat_lt.1 q;omega
    simpa[h2]using ih
   ·have h1:y<x:=UInt8.lt_iff_toNat_lt.2 h;have h2:¬x<y:=fun q=>by have:=UInt8.lt_iff_toNat_lt.1 q;omega
    have h3:¬x=y:=fun q=>by subst q;omega
    simp[h1,h2,h3]
theorem N0{a b:List UInt8}(ex:x=.str a)(ey:y=.str b)(q:K (.v (.bool (!Op.bytesLess b a)))):ab .leq x y K:=by
 subst ex;subst ey;have:=F4 a b;rw[←show (zO a b||decide (a=b))=!Op.bytesLess b a from this]at q;exact q
def sZ(l:List Cu)(k:Nat):aD:=if k=0 then [] else (l.map Cu.name).getD (k-1) []
def Dy(l:List Cu)(k:Nat):Bool:=db ((l.map Cu.name).getD k [])&&Op.bytesLess (sZ l k) ((l.map Cu.name).getD k [])
def fY(l:List Cu):Bool:=(List.range l.length).all (Dy l)
variable{l:List Cu}
theorem zg(h:∀i,i<l.length→Dy l i=true):fY l=true:=by
 unfold fY;rw[By];intro i hi;exact h i (ID.1 hi)
theorem qo{i:Nat}(hi:i<l.length)(h:Dy l i=false):fY l=false:=by
 cases e:fY l with
 | false=>rfl
 | true =>
   unfold fY at e;rw[By]at e;rw[e i (ID.2 hi)]at h;cases h
theorem Sn(h:db s=true):Op.bytesLess [] s=true:=by
 cases s with
 | nil=>simp[db]at h
 | cons a s=>rfl
theorem IW{c:Cu}(h:l[k]?=some c):Dy l k=(db c.name&&Op.bytesLess (sZ l k) c.name):=by
 unfold Dy;rw[oF,lE,h];rfl
theorem DH{c:Cu}(h:l[k]?=some c):sZ l (k+1)=c.name:=by
 unfold sZ;rw[if_neg (by omega),Nat.add_sub_cancel,oF,lE,h];rfl
theorem yC(l:List Cu)(hl:l.length<2^40):aP p_ 60 [.sl 2 (az l)] (b_ (fY l)):=by
 refine (V60 _).gives (by simp[dp]) (by simp) ?_;unfold W60;refine zzk (n:=l.length) (by simp[az]) fun _=>?_;refine aU (α:=Nat) (fun k=>k≤l.length∧∀i,i<k→Dy l i=true) (fun k=>[.str (sZ l k),i_ k]) (fun _=>[]) (fun k=>l.length-k) 0 ⟨by omega,fun i h=>by omega⟩ (Wk.refl _ _ _ (by simp)) ?_;rintro k ⟨hk,hall⟩;rcases AT k l.length with q|q
 ·obtain⟨⟨s,vs⟩,hs⟩:∃x,l[k]?=some x:=⟨l[k],dO q⟩;have q1:decide ((k:Int)<l.length)=true:=by simpa using q
  have hin:aN ((k:Int)+1):=by unfold aN;omega
  have hok:=IW hs;have hnx:=DH hs;simp only at hok hnx;rw[←hnx]at hok;obtain⟨P,hP⟩:∃P,sZ l k=P:=⟨_,rfl⟩;rw[hP]at hok ⊢;rw[hnx]at hok;cases hc:db s with
  | false =>
    have g1:(!db s)=true:=by rw[hc];rfl
    repeat' (first|(with_reducible first|apply ay|apply af)|((with_reducible apply bB);rfl;rfl)|((with_reducible apply fJ);rfl)|((with_reducible apply aO);rfl)|((with_reducible apply ao);rfl;first|rfl|assumption)|((with_reducible apply aX);rfl;first|rfl|assumption)|((with_reducible apply aV);rfl)|((with_reducible apply aR);rfl;rfl;rfl)|((with_reducible apply dV);rfl;first|rfl|simp)|((with_reducible apply dr);first|rfl|simp)|((with_reducible apply eS);rfl;rfl;rfl;rfl;(first|exact aS _|simp);(first|rfl|simp);(first|rfl|simp))|(refine aA (by kernel_rfl) (oB s) ?_)|(refine zzg (f:=eT) rfl rfl hs ?_))
    exact .pure (by simp) (by rw[qo q (by rw[hok,hc];rfl)])
  | true =>
    have g1:(!db s)=false:=by rw[hc];rfl
    cases hb:Op.bytesLess P s with
    | false =>
      have g2:(!Op.bytesLess P s)=true:=by rw[hb];rfl
      repeat' (first|(with_reducible first|apply ay|apply af)|((with_reducible apply bB);rfl;rfl)|((with_reducible apply fJ);rfl)|((with_reducible apply aL);rfl)|((with_reducible apply ao);rfl;first|rfl|assumption)|((with_reducible apply aM);rfl;first|rfl|assumption)|((with_reducible apply aV);rfl)|((with_reducible apply aR);rfl;rfl;rfl)|((with_reducible apply dV);rfl;first|rfl|simp)|((with_reducible apply dr);first|rfl|simp)|((with_reducible apply eS);rfl;rfl;rfl;rfl;(first|exact aS _|simp);(first|rfl|simp);(first|rfl|simp))|(refine aA (by kernel_rfl) (oB s) ?_)|(refine zzg (f:=eT) rfl rfl hs ?_)|((with_reducible apply N0);rfl;rfl))
      exact .pure (by simp) (by rw[qo q (by rw[hok,hc,hb];rfl)])
    | true =>
      have g2:(!Op.bytesLess P s)=false:=by rw[hb];rfl
      repeat' (first|(with_reducible first|apply ay|apply af)|((with_reducible apply bB);rfl;rfl)|((with_reducible apply di);rfl;rfl;first|assumption|(unfold aN;omega))|((with_reducible apply fJ);rfl)|((with_reducible apply aL);rfl)|((with_reducible apply ao);rfl;first|rfl|assumption)|((with_reducible apply ah);rfl;first|rfl|assumption)|((with_reducible apply aM);rfl;first|rfl|assumption)|((with_reducible apply aV);rfl)|((with_reducible apply aR);rfl;rfl;rfl)|((with_reducible apply dV);rfl;first|rfl|simp)|((with_reducible apply dr);first|rfl|simp)|((with_reducible apply eS);rfl;rfl;rfl;rfl;(first|exact aS _|simp);(first|rfl|simp);(first|rfl|simp))|(refine aA (by kernel_rfl) (oB s) ?_)|(refine zzg (f:=eT) rfl rfl hs ?_)|((with_reducible apply N0);rfl;rfl))
      refine⟨k+1,⟨q,fun i hi=>?_⟩, ?_,by omega⟩
      ·rcases AT i k with z|z
       ·exact hall i z
       ·obtain rfl:i=k:=by omega
        rw[hok,hc,hb];rfl
      ·rw[hnx];first
        | exact Wk.refl _ _ _ (by simp)
        | exact Wk.back (M:=0) (by simp) (by simp) rfl rfl (by simp[gr]) (by simp[Bd])
        | exact Wk.le (by simp) (by simp)
 ·have hk:k=l.length:=by omega
  subst hk;have q1:decide ((l.length:Int)<l.length)=false:=by simp
  repeat' (first|((with_reducible apply bB);rfl;rfl)|((with_reducible apply ah);rfl;first|rfl|assumption))
  exact .pure (by simp) (by rw[zg hall])
theorem Mr(l:List Cu)(hl:l.length<2^40):aP p_ 66 [.sl 2 (az l)] (b_ (fY l)):=by
 refine (V66 _).gives (by simp[dp]) (by simp) ?_;unfold W66;refine aU (α:=Nat) (fun k=>k≤l.length∧∀i,i<k→Dy l i=true) (fun k=>[i_ k]) (fun _=>[]) (fun k=>l.length-k) 0 ⟨by omega,fun i h=>by omega⟩ (Wk.refl _ _ _ (by simp)) ?_;rintro k ⟨hk,hall⟩;refine zzk (n:=l.length) (by simp[az]) fun _=>?_;rcases AT k l.length with q|q
 ·obtain⟨⟨s,vs⟩,hs⟩:∃x,l[k]?=some x:=⟨l[k],dO q⟩;have q1:decide ((k:Int)<l.length)=true:=by simpa using q
  have hin:aN ((k:Int)+1):=by unfold aN;omega
  have hok:=IW hs;simp only at hok;rcases Nat.eq_zero_or_pos k with hk0|hk0
  ·subst hk0;have hp:sZ l 0=[]:=rfl;rw[hp]at hok;cases hc:db s with
   | false =>
     have g1:(!db s)=true:=by rw[hc];rfl
     repeat' (first|(with_reducible apply ay)|((with_reducible apply bB);rfl;rfl)|((with_reducible apply fJ);rfl)|((with_reducible apply ao);rfl;first|rfl|assumption)|((with_reducible apply aX);rfl;first|rfl|assumption)|((with_reducible apply iG);rfl)|((with_reducible apply vy);rfl;first|rfl|assumption)|((with_reducible apply dX);rfl)|((with_reducible apply de);rfl)|(refine zzT (by kernel_rfl) (lO s) ?_)|(refine zzg (f:=eT) rfl rfl hs ?_))
     exact .pure (by simp) (by rw[qo q (by rw[hok,hc];rfl)])
   | true =>
     have g1:(!db s)=false:=by rw[hc];rfl
     repeat' (first|(with_reducible first|apply ay|apply af)|((with_reducible first|apply bB|apply dF);rfl;rfl)|((with_reducible apply di);rfl;rfl;first|assumption|(unfold aN;omega))|((with_reducible apply fJ);rfl)|((with_reducible apply aL);rfl)|((with_reducible apply ao);rfl;first|rfl|assumption)|((with_reducible apply ah);rfl;first|rfl|assumption)|((with_reducible apply aM);rfl;first|rfl|assumption)|((with_reducible apply aX);rfl;first|rfl|assumption)|((with_reducible apply vx);rfl;first|rfl|assumption)|((with_reducible apply dX);rfl)|((with_reducible apply de);rfl)|(refine zzT (by kernel_rfl) (lO s) ?_)|(refine zzg (f:=eT) rfl rfl hs ?_))
     refine⟨1,⟨q,fun i hi=>?_⟩,Wk.refl _ _ _ (by simp),by omega⟩;obtain rfl:i=0:=by omega
     rw[hok,hc,Sn hc];rfl
  ·obtain⟨⟨p,pv⟩,hp⟩:∃x,l[k-1]?=some x:=⟨l[k-1]'(by omega),dO _⟩;have hsub:aN ((k:Int)-1):=by unfold aN;omega
   have ek:((k:Int)-1)=((k-1:Nat):Int):=by omega
   have gk:decide ((0:Int)<k)=true:=by simp;omega
   have hpp:=DH hp;rw[show k-1+1=k by omega]at hpp;simp only at hpp;rw[hpp]at hok;cases hc:db s with
   | false =>
     have g1:(!db s)=true:=by rw[hc];rfl
     repeat' (first|(with_reducible apply ay)|((with_reducible apply bB);rfl;rfl)|((with_reducible apply fJ);rfl)|((with_reducible apply ao);rfl;first|rfl|assumption)|((with_reducible apply aX);rfl;first|rfl|assumption)|((with_reducible apply iG);rfl)|((with_reducible apply vy);rfl;first|rfl|assumption)|((with_reducible apply dX);rfl)|((with_reducible apply de);rfl)|(refine zzT (by kernel_rfl) (lO s) ?_)|(refine zzg (f:=eT) rfl rfl hs ?_))
     exact .pure (by simp) (by rw[qo q (by rw[hok,hc];rfl)])
   | true =>
     have g1:(!db s)=false:=by rw[hc];rfl
     cases hb:Op.bytesLess p s with
     | false =>
       have g2:(!Op.bytesLess p s)=true:=by rw[hb];rfl
       repeat' (first|(with_reducible apply ay)|((with_reducible first|apply bB|apply dF);rfl;rfl)|((with_reducible apply yc);rfl;rfl;first|assumption|(unfold aN;omega))|((with_reducible apply fJ);rfl)|((with_reducible apply ao);rfl;first|rfl|assumption)|((with_reducible apply aM);rfl;first|rfl|assumption)|((with_reducible apply vy);rfl;first|rfl|assumption)|((with_reducible apply vx);rfl;first|rfl|assumption)|((with_reducible apply dX);rfl)|((with_reducible apply de);rfl)|(refine zzT (by kernel_rfl) (lO s) ?_)|(refine zzg (f:=eT) rfl rfl hs ?_)|(refine zzg (f:=eT) rfl (congrArg (fun n=>AV.v (.int .i64 n)) ek) hp ?_)|((with_reducible apply NX);rfl;rfl))
       exact .pure (by simp) (by rw[qo q (by rw[hok,hc,hb];rfl)])
     | true =>
       have g2:(!Op.bytesLess p s)=false:=by rw[hb];rfl
       repeat' (first|(with_reducible first|apply ay|apply af)|((with_reducible first|apply bB|apply dF);rfl;rfl)|((with_reducible apply di);rfl;rfl;first|assumption|(unfold aN;omega))|((with_reducible apply yc);rfl;rfl;first|assumption|(unfold aN;omega))|((with_reducible apply fJ);rfl)|((with_reducible apply ao);rfl;first|rfl|assumption)|((with_reducible apply ah);rfl;first|rfl|assumption)|((with_reducible apply aM);rfl;first|rfl|assumption)|((with_reducible apply vy);rfl;first|rfl|assumption)|((with_reducible apply vx);rfl;first|rfl|assumption)|((with_reducible apply dX);rfl)|((with_reducible apply de);rfl)|(refine zzT (by kernel_rfl) (lO s) ?_)|(refine zzg (f:=eT) rfl rfl hs ?_)|(refine zzg (f:=eT) rfl (congrArg (fun n=>AV.v (.int .i64 n)) ek) hp ?_)|((with_reducible apply NX);rfl;rfl))
       refine⟨k+1,⟨q,fun i hi=>?_⟩,Wk.refl _ _ _ (by simp),by omega⟩;rcases AT i k with z|z
       ·exact hall i z
       ·obtain rfl:i=k:=by omega
        rw[hok,hc,hb];rfl
 ·have hk:k=l.length:=by omega
  subst hk;have q1:decide ((l.length:Int)<l.length)=false:=by simp
  repeat' (first|((with_reducible apply bB);rfl;rfl)|((with_reducible apply ah);rfl;first|rfl|assumption))
  exact .pure (by simp) (by rw[zg hall])
def nW(b:UInt8):UInt8:=if 65≤b∧b≤90 then b+32 else b
def bO(s:aD):aD:=s.map nW
theorem Wg(b:UInt8)(h1:65≤(b.toNat:Int))(h2:(b.toNat:Int)≤90):IntKind.u8.wrap (IntKind.u8.wrap ((b.toNat:Int)+97)-65)=((nW b).toNat:Int):=by
 have:∀n:Fin 26,IntKind.u8.wrap (IntKind.u8.wrap (((65+n.val:Nat):Int)+97)-65)=((nW (UInt8.ofNat (65+n.val))).toNat:Int):=by decide
 have hb:b=UInt8.ofNat (65+(b.toNat-65)):=by
  rw[show 65+(b.toNat-65)=b.toNat by omega];simp
 have h:=this ⟨b.toNat-65,by omega⟩;simp only[show 65+(b.toNat-65)=b.toNat by omega]at h;rw[h];simp
theorem Sr(b:UInt8)(h1:65≤(b.toNat:Int))(h2:(b.toNat:Int)≤90):IntKind.u8.wrap ((b.toNat:Int)+32)=((nW b).toNat:Int):=by
 have:∀n:Fin 26,IntKind.u8.wrap (((65+n.val:Nat):Int)+32)=((nW (UInt8.ofNat (65+n.val))).toNat:Int):=by decide
 have hb:b=UInt8.ofNat (65+(b.toNat-65)):=by
  rw[show 65+(b.toNat-65)=b.toNat by omega];simp
 have h:=this ⟨b.toNat-65,by omega⟩;simp only[show 65+(b.toNat-65)=b.toNat by omega]at h;rw[h];simp
theorem zR(b:UInt8)(h:¬(65≤(b.toNat:Int)∧(b.toNat:Int)≤90)):nW b=b:=by
 unfold nW;rw[if_neg];intro⟨h1,h2⟩;rw[UInt8.le_iff_toNat_le]at h1 h2;simp at h1 h2;omega
def il(s:aD)(k:Nat):List AV:=((s.take k).map nW++s.drop k).map iM
theorem AA(hb:s[k]?=some b):(il s k)[k]?=some (iM b):=by
 have hk:=(gE.1 hb).1;unfold il;rw[lE,iF (by simp;omega)];simp[Nat.min_eq_left (Nat.le_of_lt hk),hb]
theorem mz(hb:s[k]?=some b):(il s k).set k (iM (nW b))=il s (k+1):=by
 have hk:=(gE.1 hb).1;refine List.ext_getElem? fun j=>?_;unfold il;rcases Nat.lt_trichotomy j k with q|q|q
 ·rw[iS (by omega),lE,lE,iD (by simp;omega),iD (by simp;omega)];simp[q,Nat.lt_succ_of_lt q]
 ·subst q;rw[iN (by simp;omega),lE,iD (by simp;omega)];simp[hb]
 ·rw[iS (by omega),lE,lE,iF (by simp;omega),iF (by simp;omega)];simp[Nat.min_eq_left (Nat.le_of_lt hk),Nat.min_eq_left hk]
  congr 2;omega
theorem AB(s:aD)(k:Nat):(il s k).length=s.length:=by
 unfold il;simp;omega
theorem NV{a b:Int}(ex:x=.v (.int .u8 a))(ey:y=.v (.int .u8 b))(q:K (.v (.int .u8 (IntKind.u8.wrap (a+b))))):ab .add x y K:=by subst ex;subst ey;exact⟨rfl,q⟩
theorem YU{a b:Int}(ex:x=.v (.int .u8 a))(ey:y=.v (.int .u8 b))(q:K (.v (.int .u8 (IntKind.u8.wrap (a-b))))):ab .sub x y K:=by subst ex;subst ey;exact⟨rfl,q⟩
theorem Lz(s:aD):QK (.str s) [] (fg (.str (bO s))):=by
 unfold QK;rw[xc,CM];intro hlen;refine aU (α:=Nat) (fun k=>k≤s.length) (fun k=>[i_ k]) (fun k=>[.aC ⟨5,il s k,true⟩]) (fun k=>s.length-k) 0 (by simp) (by simpa[il]using Wk.refl _ _ _ (by simp)) ?_;intro k hk
 skip
 by_cases q:k<s.length
 ·obtain⟨b,hb⟩:∃b,s[k]?=some b:=⟨s[k],dO q⟩;have hc:=AA hb;have q1:decide ((k:Int)<s.length)=true:=by simpa using q
  have hin:aN ((k:Int)+1):=by unfold maxLen at hlen;unfold aN;omega
  have idx:∀{K:AV→Prop},K (.op 0 k)→aG 1 (.own 0 0 s.length 1) (nx [i_ k] 0) K:=fun q2=>by
   rw[kE,KN];exact⟨rfl,⟨by omega,by omega⟩,by simpa using q2⟩
  by_cases h1:65≤(b.toNat:Int)
  ·have g1:decide (65≤(b.toNat:Int))=true:=by simpa using h1
   by_cases h2:(b.toNat:Int)≤90
   ·have g2:decide ((b.toNat:Int)≤90)=true:=by simpa using h2
    repeat' (first|(refine zzU rfl hc ?_)|(refine idx ?_)|((with_reducible apply NV);rfl;rfl)|((with_reducible apply YU);rfl;rfl)|(refine eS (cs:=[iM (nW b)]) rfl rfl rfl (by rw[Wg b h1 h2];rfl) (by simp[AB];omega) rfl rfl ?_)|(with_reducible first|apply ay|apply af)|((with_reducible first|apply bB|apply jE|apply iy);rfl;rfl)|((with_reducible apply di);rfl;rfl;first|assumption|(unfold aN;omega))|((with_reducible apply aO);rfl)|((with_reducible apply ao);rfl;first|rfl|assumption)|((with_reducible apply aM);rfl;first|rfl|assumption))
    refine⟨k+1,by omega, ?_,by omega⟩;have:=mz hb;rw[show dw (il s k) k [iM (nW b)]=il s (k+1) from this];exact Wk.refl _ _ _ (by simp)
   ·have g2:decide ((b.toNat:Int)≤90)=false:=by simpa using h2
    repeat' (first|(refine zzU rfl hc ?_)|(refine idx ?_)|(with_reducible first|apply ay|apply af)|((with_reducible first|apply bB|apply jE|apply iy);rfl;rfl)|((with_reducible apply di);rfl;rfl;first|assumption|(unfold aN;omega))|((with_reducible apply aO);rfl)|((with_reducible apply ao);rfl;first|rfl|assumption)|((with_reducible apply ah);rfl;first|rfl|assumption)|((with_reducible apply aM);rfl;first|rfl|assumption))
    refine⟨k+1,by omega, ?_,by omega⟩;have:=mz hb;rw[zR b (by omega),ou hc]at this;rw[←this];exact Wk.refl _ _ _ (by simp)
  ·have g1:decide (65≤(b.toNat:Int))=false:=by simpa using h1
   repeat' (first|(refine zzU rfl hc ?_)|(refine idx ?_)|(with_reducible first|apply ay|apply af)|((with_reducible first|apply bB|apply iy);rfl;rfl)|((with_reducible apply di);rfl;rfl;first|assumption|(unfold aN;omega))|((with_reducible apply aL);rfl)|((with_reducible apply ao);rfl;first|rfl|assumption)|((with_reducible apply ah);rfl;first|rfl|assumption)|((with_reducible apply aX);rfl;first|rfl|assumption))
   refine⟨k+1,by omega, ?_,by omega⟩;have:=mz hb;rw[zR b (by omega),ou hc]at this;rw[←this];exact Wk.refl _ _ _ (by simp)
 ·obtain rfl:k=s.length:=by omega
  refine zzC (zzK (by simp) (Fy (id:=0) (b:=⟨5,il s s.length,true⟩) (l:=bO s) (by simp[bO]) rfl (by simp[il,bO]) ?_));exact .pure (by simp) rfl
theorem FG(s:aD):aP p_ 103 [.str s] (.str (bO s)):=(adM _).gives (by simp) (by simp) (Lz s)
theorem Mo(s:aD):aP p_ 108 [.str s] (.str (bO s)):=by
 refine (adR _).gives (by simp) (by simp) ?_;unfold XL;rw[xc]
 skip
 refine aU (α:=Nat) (fun k=>k≤s.length) (fun k=>[i_ k]) (fun k=>[.aC ⟨5,il s k,true⟩]) (fun k=>s.length-k) 0 (by simp) (by simpa[il]using Wk.refl _ _ _ (by simp)) ?_;intro k hk;rw[CM];intro hlen
 by_cases q:k<s.length
 ·obtain⟨b,hb⟩:∃b,s[k]?=some b:=⟨s[k],dO q⟩;have hc:=AA hb;have q1:decide ((k:Int)<s.length)=true:=by simpa using q
  have hin:aN ((k:Int)+1):=by unfold maxLen at hlen;unfold aN;omega
  have idx:∀{K:AV→Prop},K (.op 0 k)→aG 1 (.own 0 0 s.length 1) (nx [i_ k] 0) K:=fun q2=>by
   rw[kE,KN];exact⟨rfl,⟨by omega,by omega⟩,by simpa using q2⟩
  by_cases h1:65≤(b.toNat:Int)
  ·have g1:decide (65≤(b.toNat:Int))=true:=by simpa using h1
   by_cases h2:(b.toNat:Int)≤90
   ·have g2:decide ((b.toNat:Int)≤90)=true:=by simpa using h2
    repeat' (first|(refine zzU rfl hc ?_)|(refine idx ?_)|((with_reducible apply NV);rfl;rfl)|(refine eS (cs:=[iM (nW b)]) rfl rfl rfl (by rw[Sr b h1 h2];rfl) (by simp[AB];omega) rfl rfl ?_)|(with_reducible first|apply ay|apply af)|((with_reducible first|apply bB|apply jE|apply iy);rfl;rfl)|((with_reducible apply di);rfl;rfl;first|assumption|(unfold aN;omega))|((with_reducible apply aO);rfl)|((with_reducible apply ao);rfl;first|rfl|assumption)|((with_reducible apply aM);rfl;first|rfl|assumption))
    refine⟨k+1,by omega, ?_,by omega⟩;have:=mz hb;rw[show dw (il s k) k [iM (nW b)]=il s (k+1) from this];exact Wk.refl _ _ _ (by simp)
   ·have g2:decide ((b.toNat:Int)≤90)=false:=by simpa using h2
    repeat' (first|(refine zzU rfl hc ?_)|(refine idx ?_)|(with_reducible first|apply ay|apply af)|((with_reducible first|apply bB|apply jE|apply iy);rfl;rfl)|((with_reducible apply di);rfl;rfl;first|assumption|(unfold aN;omega))|((with_reducible apply aO);rfl)|((with_reducible apply ao);rfl;first|rfl|assumption)|((with_reducible apply ah);rfl;first|rfl|assumption)|((with_reducible apply aM);rfl;first|rfl|assumption))
    refine⟨k+1,by omega, ?_,by omega⟩;have:=mz hb;rw[zR b (by omega),ou hc]at this;rw[←this];exact Wk.refl _ _ _ (by simp)
  ·have g1:decide (65≤(b.toNat:Int))=false:=by simpa using h1
   repeat' (first|(refine zzU rfl hc ?_)|(refine idx ?_)|(with_reducible first|apply ay|apply af)|((with_reducible first|apply bB|apply iy);rfl;rfl)|((with_reducible apply di);rfl;rfl;first|assumption|(unfold aN;omega))|((with_reducible apply aL);rfl)|((with_reducible apply ao);rfl;first|rfl|assumption)|((with_reducible apply ah);rfl;first|rfl|assumption)|((with_reducible apply aX);rfl;first|rfl|assumption))
   refine⟨k+1,by omega, ?_,by omega⟩;have:=mz hb;rw[zR b (by omega),ou hc]at this;rw[←this];exact Wk.refl _ _ _ (by simp)
 ·obtain rfl:k=s.length:=by omega
  refine zzC (zzK (by simp) (Fy (id:=0) (b:=⟨5,il s s.length,true⟩) (l:=bO s) (by simp[bO]) rfl (by simp[il,bO]) ?_));exact .pure (by simp) rfl
def sI:aD:=[118,97,114]
mutual
def pL:Vl→Bool
 | .mk k t _ _ _ l=>decide (k=2)&&decide (bO t=sI)||ct l
def ct:List Vl→Bool
 | []=>false
 | v:: l=>pL v||ct l
end
theorem uj:∀a b:List Vl,ct (a++b)=(ct a||ct b)
 | [],b=>by simp[ct]
 | v:: a,b=>by rw[acU,ct,ct,uj a b,Bool.or_assoc]
theorem zB{l:List Vl}{v:Vl}(h:v∈l)(hv:pL v=true):ct l=true:=by
 induction l with
 | nil=>cases h
 | cons y l ih =>
   rw[ct];rcases IS.1 h with rfl|h
   ·rw[hv];rfl
   ·rw[ih h,Bool.or_true]
theorem DY{l:List Vl}{k:Nat}{v:Vl}(h:l[k]?=some v):ct (l.take (k+1))=(ct (l.take k)||pL v):=by
 rw[Gt,h,uj];simp[ct]
theorem Hr{n:Nat}{x:AV}{cs ds:List AV}{h:aa}{K:AV→Prop}(e:x=.ip cs)(hn:n≤cs.length)(ht:cs.take n=ds)(q:K (.agg ds)):ag true n x h K:=by
 subst e;subst ht;rw[vM];exact⟨hn,q⟩
def Xt(n:Nat):Prop:=∀(l:List Vl),aW l≤n→aP p_ 68 [.sl 6 (ar l)] (b_ (ct l))
theorem WL{n:Nat}(hn:n<2^39)(hP:∀n',n'<n→Xt n'):Xt n:=by
 intro l hz;refine (V68 _).gives (by simp[dd]) (by simp) ?_;unfold W68;have hlen:(ar l).length=l.length:=by simp[aJ]
 have hll:=fu l;refine aU (α:=Nat) (fun k=>k≤l.length∧ct (l.take k)=false) (fun k=>[i_ k]) (fun _=>[]) (fun k=>l.length-k) 0 (by simp[ct]) (Wk.refl _ _ _ (by simp)) ?_;rintro k ⟨hk,hnot⟩;refine zzk (n:=l.length) hlen fun _=>?_;refine zzC ?_;rcases AT k l.length with q|q
 ·obtain⟨⟨kd,tx,nu,un',fl,l2⟩,hx⟩:∃x,l[k]?=some x:=⟨l[k],dO q⟩;have hin:aN ((k:Int)+1):=by unfold aN;omega
  have hzv:=gX (gO hx);rw[zV]at hzv;have q1:decide ((k:Int)<l.length)=true:=by simpa using q
  have hrec:aP p_ 68 [.sl 6 (ar l2)] (b_ (ct l2)):=hP (aW l2) (by omega) l2 (aS _);have d1:=DY hx;have d2:=zB (gO hx);rw[pL]at d1 d2;rw[hnot]at d1;have ed:=cK (.mk kd tx nu un' fl l2);have hm:∀{b:Bool},decide (kd=2)=b→True:=fun _=>trivial;cases g1:decide (kd=2)<;>cases g2:decide (bO tx=[118,97,114])<;>cases g3:ct l2;all_goals
   rw[g3]at hrec;repeat' (first|(refine aA (by kernel_rfl) hrec ?_)|(refine Hr (n:=5) (ds:=[u1 kd,.str tx,i_ nu,.str un',b_ fl]) rfl (by first|decide|simp[cQ]) (by first|rfl|simp[cQ]) ?_)|(refine eS (cs:=[u1 kd,.str tx,i_ nu,.str un',b_ fl]) rfl rfl rfl rfl (aS _) rfl rfl ?_)|(with_reducible first|apply ay|apply af)|((with_reducible apply dy);rfl;rfl)|((with_reducible apply fx);rfl;rfl)|((with_reducible apply di);rfl;rfl;first|assumption|(unfold aN;omega))|((with_reducible apply aO);rfl)|((with_reducible apply aL);rfl)|((with_reducible apply ao);rfl;first|rfl|assumption)|((with_reducible apply ah);rfl;first|rfl|assumption)|((with_reducible apply aM);rfl;first|rfl|assumption)|((with_reducible apply aX);rfl;first|rfl|assumption)|((with_reducible apply aV);rfl)|((with_reducible apply dX);rfl)|((with_reducible apply aR);rfl;rfl;rfl)|((with_reducible apply dr);first|rfl|simp)|(refine aA (by kernel_rfl) (Mo tx) ?_)|(refine zzg (aJ l) rfl hx ?_))
  all_goals first
   | (refine .pure (by simp) ?_
      rw[d2 (by rw[g1,show decide (bO tx=sI)=_ from g2,g3];rfl)];done)
   | (refine⟨k+1,⟨q,by rw[d1,g1,show decide (bO tx=sI)=_ from g2,g3];rfl⟩, ?_,by omega⟩
      first
       | exact Wk.refl _ _ _ (by simp)
       | exact Wk.back (M:=0) (by simp) (by simp) rfl rfl (by simp[gr]) (by simp[Bd])
       | exact Wk.le (by simp) (by simp))
 ·have hk:k=l.length:=by omega
  subst hk;rw[GO]at hnot;have q1:decide ((l.length:Int)<l.length)=false:=by simp
  repeat' (first|((with_reducible apply ah);rfl;first|rfl|assumption))
  exact .pure (by simp) (by rw[hnot])
theorem Ra(l:List Vl)(hz:aW l<2^39):aP p_ 68 [.sl 6 (ar l)] (b_ (ct l)):=by
 have:∀n,n<2^39→Xt n:=by
  intro n;induction n using Nat.strongRecOn with
  | _ n ih=>exact fun hn=>WL hn fun n' h=>ih n' h (by omega)
 exact this _ hz l (aS _)
/-! ### The program -/
def XD(n:Nat):Prop:=∀(l:List Vl),aW l≤n→aP p_ 61 [.sl 6 (ar l)] (b_ (ct l))
theorem Q6(v:Vl)(hrec:aP p_ 61 [.sl 6 (ar v.list)] (b_ (ct v.list))):aP p_ 102 [.agg (cQ v)] (b_ (pL v)):=by
 refine (adL _).gives (by simp[zX]) (by simp) ?_;unfold XG;obtain⟨kd,tx,nu,un',fl,l2⟩:=v;rw[cQ,pL];have hrec:aP p_ 61 [.sl 6 (ar l2)] (b_ (ct l2)):=hrec;cases g1:decide (kd=2)<;>cases g2:decide (bO tx=[118,97,114])<;>cases g3:ct l2;all_goals
  rw[g3]at hrec;repeat' (first|(refine aA (by kernel_rfl) hrec ?_)|(with_reducible first|apply ay|apply af)|((with_reducible apply dy);rfl;rfl)|((with_reducible apply fx);rfl;rfl)|((with_reducible apply aO);rfl)|((with_reducible apply aL);rfl)|((with_reducible apply aM);rfl;first|rfl|assumption)|((with_reducible apply aX);rfl;first|rfl|assumption)|((with_reducible apply aV);rfl)|((with_reducible apply aR);rfl;rfl;rfl)|((with_reducible apply dr);first|rfl|simp)|(refine aA (by kernel_rfl) (FG tx) ?_))
 all_goals exact .pure (by simp) (by rw[show decide (bO tx=sI)=_ from g2];rfl)
theorem JX{l:List Vl}(hl:l.length<2^40)(hc:∀v∈l,aP p_ 102 [.agg (cQ v)] (b_ (pL v))){K:AV→aa→Prop}(kk:∀i:Int,(0≤i↔ct l=true)→K (i_ i) []):
 eJ p_ (.fn (.func 153) [] []) [.sl 6 (ar l),.fn (.func 102) [] []] [] K:=by
 refine⟨by kernel_rfl, ?_⟩;simp only[List.nil_append,aa1];refine (aeg _ _).kb ?_;unfold Ya;refine zzk (n:=l.length) (by simp[aJ]) fun _=>?_;refine aU (α:=Nat) (fun k=>k≤l.length∧ct (l.take k)=false) (fun k=>[i_ k]) (fun _=>[]) (fun k=>l.length-k) 0 (by simp[ct]) (Wk.refl _ _ _ (by simp)) ?_;rintro k ⟨hk,hnot⟩;refine zzC ?_;rcases AT k l.length with q|q
 ·obtain⟨v,hx⟩:∃x,l[k]?=some x:=⟨l[k],dO q⟩;have hcv:=hc v (gO hx);have d1:=DY hx;refine zzL (by simpa using q) (zzg (aJ l) rfl hx (zzY (by simp[cK]) (aA (by kernel_rfl) hcv ?_)));refine fQ rfl (fun hb=>?_) (fun hb=>?_)
  ·refine⟨_,_,Wk.refl _ _ _ (by simp), ?_⟩;exact kk k ⟨fun _=>zB (gO hx) hb,fun _=>by omega⟩
  ·refine zzP (by unfold aN;omega) (af ?_);exact⟨k+1,⟨by omega,by rw[d1,hnot,hb];rfl⟩,Wk.refl _ _ _ (by simp),by omega⟩
 ·obtain rfl:k=l.length:=by omega
  rw[GO]at hnot;refine zzK (by simp) ?_;refine⟨_,_,Wk.refl _ _ _ (by simp), ?_⟩;exact kk (-1) ⟨fun h=>by omega,fun h=>by rw[hnot]at h;cases h⟩
theorem Xh{n:Nat}(hn:n<2^39)(hP:∀n',n'<n→XD n'):XD n:=by
 intro l hz;refine (V61 _).gives (by simp[dd]) (by simp) ?_;unfold W61;refine⟨by kernel_rfl, ?_⟩;simp only[List.nil_append,aa1];refine (adK _ _).kb ?_;unfold XF;have hll:=fu l;refine JX (by omega) (fun v hv=>?_) (fun i hi=>?_)
 ·have h1:=gX hv;obtain⟨kd,tx,nu,un',fl,l2⟩:=v;rw[zV]at h1;exact Q6 _ (hP (aW l2) (by omega) l2 (aS _))
 ·refine zzF ?_;refine⟨_,_,Wk.refl _ _ _ (by simp), ?_⟩;refine .pure (by simp) ?_;cases h:ct l with
  | true=>simp[hi.2 h]
  | false =>
    have:¬0≤i:=fun q=>by rw[hi.1 q]at h;cases h
    simp[this]
theorem Ej(l:List Vl)(hz:aW l<2^39):aP p_ 61 [.sl 6 (ar l)] (b_ (ct l)):=by
 have:∀n,n<2^39→XD n:=by
  intro n;induction n using Nat.strongRecOn with
  | _ n ih=>exact fun hn=>Xh hn fun n' h=>ih n' h (by omega)
 exact this _ hz l (aS _)
def pD(c:Cu):Bool:=decide (dC c.value=0)&&!ct c.value&&decide (aW c.value≤2000)
def fO(l:List Cu):Int:=if l.length≤64∧fY l=true∧l.all pD=true then 0 else 8
theorem Cn(l:List Cu)(hl:l.length<2^40)(hz:∀c∈l,aW c.value<2^39):aP p_ 30 [.sl 2 (az l)] (i_ (fO l)):=by
 refine (V30 _).gives (by simp[dp]) (by simp) ?_;unfold W30;have hlen:(az l).length=l.length:=by simp[az]
 refine zzk (n:=l.length) hlen fun _=>?_
 by_cases h1:l.length≤64
 case neg =>
  have g1:decide ((64:Int)<l.length)=true:=by simp;omega
  repeat' (first|(with_reducible first|apply ay|apply af)|((with_reducible apply dF);rfl;rfl)|((with_reducible apply aO);rfl)|((with_reducible apply ao);rfl;first|rfl|assumption)|((with_reducible apply aX);rfl;first|rfl|assumption))
  exact .pure (by simp) (by unfold fO;rw[if_neg (by omega)])
 have g1:decide ((64:Int)<l.length)=false:=by simp;omega
 have hN:=yC l hl;cases h2:fY l with
 | false =>
   rw[h2]at hN;repeat' (first|(with_reducible first|apply ay|apply af)|((with_reducible apply dF);rfl;rfl)|((with_reducible apply fJ);rfl)|((with_reducible apply aL);rfl)|((with_reducible apply ao);rfl;first|rfl|assumption)|((with_reducible apply aM);rfl;first|rfl|assumption)|(refine aA (by kernel_rfl) (hN) ?_))
   exact .pure (by simp) (by unfold fO;rw[if_neg (by simp[h2])])
 | true =>
 rw[h2]at hN;repeat' (first|(refine zzk (n:=l.length) hlen fun _=>?_)|(with_reducible first|apply ay|apply af)|((with_reducible apply dF);rfl;rfl)|((with_reducible apply fJ);rfl)|((with_reducible apply aL);rfl)|((with_reducible apply ah);rfl;first|rfl|assumption)|((with_reducible apply aM);rfl;first|rfl|assumption)|(refine aA (by kernel_rfl) (hN) ?_))
 refine aU (α:=Nat) (fun k=>k≤l.length∧∀i c,i<k→l[i]?=some c→pD c=true) (fun k=>[i_ k]) (fun _=>[]) (fun k=>l.length-k) 0 ⟨by omega,fun i c h=>by omega⟩ (Wk.refl _ _ _ (by simp)) ?_;rintro k ⟨hk,hall⟩;refine zzC ?_;rcases AT k l.length with q|q
 ·obtain⟨⟨s,vs⟩,hs⟩:∃x,l[k]?=some x:=⟨l[k],dO q⟩;have q1:decide ((k:Int)<l.length)=true:=by simpa using q
  have hin:aN ((k:Int)+1):=by unfold aN;omega
  have hzv:aW vs<2^39:=hz _ (gO hs);have c1:=mO vs (by omega);have c2:=Ej vs hzv;have c3:=wJ vs hzv;have hb:pD ⟨s,vs⟩=(!(!decide (dC vs=0))&&!ct vs&&!decide ((2000:Int)<(aW vs:Nat))):=by
   unfold pD;simp only[Bool.not_not]
   congr 1
   by_cases z:aW vs≤2000
   ·simp[z];omega
   ·simp[z];omega
  have bad:pD ⟨s,vs⟩=false→fO l=8:=fun e=>by
   unfold fO;rw[if_neg];rintro⟨_,_,h⟩;rw[By]at h;rw[h _ (gO hs)]at e;cases e
  cases g2:(!decide (dC vs=0))<;>cases g3:ct vs<;>cases g4:decide ((2000:Int)<(aW vs:Nat));all_goals
   rw[g2,g3,g4]at hb;rw[g3]at c2;repeat' (first|(with_reducible first|apply ay|apply af)|((with_reducible first|apply dF|apply cZ);rfl;rfl)|((with_reducible apply di);rfl;rfl;first|assumption|(unfold aN;omega))|((with_reducible apply aO);rfl)|((with_reducible apply aL);rfl)|((with_reducible apply ao);rfl;first|rfl|assumption)|((with_reducible apply ah);rfl;first|rfl|assumption)|((with_reducible apply aM);rfl;first|rfl|assumption)|((with_reducible apply aX);rfl;first|rfl|assumption)|((with_reducible apply aV);rfl)|((with_reducible apply aR);rfl;rfl;rfl)|((with_reducible apply dV);rfl;first|rfl|simp)|((with_reducible apply dr);first|rfl|simp)|((with_reducible apply eS);rfl;rfl;rfl;rfl;(first|exact aS _|simp);(first|rfl|simp);(first|rfl|simp))|(refine aA (by kernel_rfl) (c1) ?_)|(refine aA (by kernel_rfl) (c2) ?_)|(refine aA (by kernel_rfl) (c3) ?_)|(refine zzg (f:=eT) rfl rfl hs ?_))
  all_goals first
   | (refine .pure (by simp) ?_
      rw[bad hb];done)
   | (refine⟨k+1,⟨q,fun i c hi he=>?_⟩, ?_,by omega⟩
      ·rcases AT i k with z|z
       ·exact hall i c z he
       ·obtain rfl:i=k:=by omega
        rw[hs]at he;cases he;exact hb
      ·first
        | exact Wk.refl _ _ _ (by simp)
        | exact Wk.back (M:=0) (by simp) (by simp) rfl rfl (by simp[gr]) (by simp[Bd])
        | exact Wk.le (by simp) (by simp))
 ·have hk:k=l.length:=by omega
  subst hk;have q1:decide ((l.length:Int)<l.length)=false:=by simp
  repeat' (first|((with_reducible apply ah);rfl;first|rfl|assumption))
  refine .pure (by simp) ?_;unfold fO;rw[if_pos];refine⟨h1,h2, ?_⟩;rw[By];intro c hc;obtain⟨i,hi⟩:=List.getElem?_of_mem hc;exact hall i c (gE.1 hi).1 hi
theorem JH(l:List Cu)(hl:l.length<2^40)(hz:∀c∈l,aW c.value<2^39):aP p_ 32 [.sl 2 (az l)] (i_ (fO l)):=by
 refine (V32 _).gives (by simp[dp]) (by simp) ?_;unfold W32;have hlen:(az l).length=l.length:=by simp[az]
 refine zzk (n:=l.length) hlen fun _=>?_
 by_cases h1:l.length≤64
 case neg =>
  have g1:decide ((64:Int)<l.length)=true:=by simp;omega
  repeat' (first|(with_reducible first|apply ay|apply af)|((with_reducible apply dF);rfl;rfl)|((with_reducible apply aO);rfl)|((with_reducible apply ao);rfl;first|rfl|assumption)|((with_reducible apply aX);rfl;first|rfl|assumption))
  exact .pure (by simp) (by unfold fO;rw[if_neg (by omega)])
 have g1:decide ((64:Int)<l.length)=false:=by simp;omega
 have hN:=Mr l hl;cases h2:fY l with
 | false =>
   rw[h2]at hN;repeat' (first|(with_reducible first|apply ay|apply af)|((with_reducible apply dF);rfl;rfl)|((with_reducible apply fJ);rfl)|((with_reducible apply aL);rfl)|((with_reducible apply ao);rfl;first|rfl|assumption)|((with_reducible apply aM);rfl;first|rfl|assumption)|(refine aA (by kernel_rfl) (hN) ?_))
   exact .pure (by simp) (by unfold fO;rw[if_neg (by simp[h2])])
 | true =>
 rw[h2]at hN;repeat' (first|(with_reducible first|apply ay|apply af)|((with_reducible apply dF);rfl;rfl)|((with_reducible apply fJ);rfl)|((with_reducible apply aL);rfl)|((with_reducible apply ah);rfl;first|rfl|assumption)|((with_reducible apply aM);rfl;first|rfl|assumption)|(refine aA (by kernel_rfl) (hN) ?_))
 refine aU (α:=Nat) (fun k=>k≤l.length∧∀i c,i<k→l[i]?=some c→pD c=true) (fun k=>[i_ k]) (fun _=>[]) (fun k=>l.length-k) 0 ⟨by omega,fun i c h=>by omega⟩ (Wk.refl _ _ _ (by simp)) ?_;rintro k ⟨hk,hall⟩;refine zzk (n:=l.length) hlen fun _=>?_;refine zzC ?_;rcases AT k l.length with q|q
 ·obtain⟨⟨s,vs⟩,hs⟩:∃x,l[k]?=some x:=⟨l[k],dO q⟩;have q1:decide ((k:Int)<l.length)=true:=by simpa using q
  have hin:aN ((k:Int)+1):=by unfold aN;omega
  have hzv:aW vs<2^39:=hz _ (gO hs);have c1:=Ap vs (by omega);have c2:=Ra vs hzv;have c3:=Q1 vs hzv;have hb:pD ⟨s,vs⟩=(!(!decide (dC vs=0))&&!ct vs&&!decide ((2000:Int)<(aW vs:Nat))):=by
   unfold pD;simp only[Bool.not_not]
   congr 1
   by_cases z:aW vs≤2000
   ·simp[z];omega
   ·simp[z];omega
  have bad:pD ⟨s,vs⟩=false→fO l=8:=fun e=>by
   unfold fO;rw[if_neg];rintro⟨_,_,h⟩;rw[By]at h;rw[h _ (gO hs)]at e;cases e
  cases g2:(!decide (dC vs=0))<;>cases g3:ct vs<;>cases g4:decide ((2000:Int)<(aW vs:Nat));all_goals
   rw[g2,g3,g4]at hb;rw[g3]at c2;repeat' (first|(with_reducible first|apply ay|apply af)|((with_reducible first|apply dF|apply cZ);rfl;rfl)|((with_reducible apply di);rfl;rfl;first|assumption|(unfold aN;omega))|((with_reducible apply aO);rfl)|((with_reducible apply aL);rfl)|((with_reducible apply ao);rfl;first|rfl|assumption)|((with_reducible apply ah);rfl;first|rfl|assumption)|((with_reducible apply aM);rfl;first|rfl|assumption)|((with_reducible apply aX);rfl;first|rfl|assumption)|((with_reducible apply dX);rfl)|((with_reducible apply de);rfl)|(refine aA (by kernel_rfl) (c1) ?_)|(refine aA (by kernel_rfl) (c2) ?_)|(refine aA (by kernel_rfl) (c3) ?_)|(refine zzg (f:=eT) rfl rfl hs ?_))
  all_goals first
   | (refine .pure (by simp) ?_
      rw[bad hb];done)
   | (refine⟨k+1,⟨q,fun i c hi he=>?_⟩, ?_,by omega⟩
      ·rcases AT i k with z|z
       ·exact hall i c z he
       ·obtain rfl:i=k:=by omega
        rw[hs]at he;cases he;exact hb
      ·first
        | exact Wk.refl _ _ _ (by simp)
        | exact Wk.back (M:=0) (by simp) (by simp) rfl rfl (by simp[gr]) (by simp[Bd])
        | exact Wk.le (by simp) (by simp))
 ·have hk:k=l.length:=by omega
  subst hk;have q1:decide ((l.length:Int)<l.length)=false:=by simp
  repeat' (first|((with_reducible apply ah);rfl;first|rfl|assumption))
  refine .pure (by simp) ?_;unfold fO;rw[if_pos];refine⟨h1,h2, ?_⟩;rw[By];intro c hc;obtain⟨i,hi⟩:=List.getElem?_of_mem hc;exact hall i c (gE.1 hi).1 hi
end
section
open Go Go.Aw
variable{K:AV→Prop}{a b:Int}{x y:AV}
structure Vv where
 kind:Int
 word:aD
 num:Int
 cr:Int
 cg:Int
 cb:Int
 ca:Int
def bL(v:Vv):List AV:=[.v (.int .u8 v.kind),.str v.word,i_ v.num,.v (.int .u8 v.cr),.v (.int .u8 v.cg),.v (.int .u8 v.cb),.v (.int .u8 v.ca)]
theorem eI(v:Vv):bf (bL v):=by simp[bL]
def sX(v:Vv):Bool:=decide (v.cr=0)&&decide (v.cg=0)&&decide (v.cb=0)&&decide (v.ca=0)
def BW(n m:Int):Bool:=decide (-m≤n)&&decide (n≤m)
def okW(v:Vv):Bool:=
 if v.kind=1 then decide (v.word≠[])&&decide (v.num=0)&&sX v
 else if v.kind=2∨v.kind=3∨v.kind=4∨v.kind=5 then decide (v.word=[])&&sX v&&BW v.num 1000000000000
 else if v.kind=6 then decide (v.word=[])&&sX v&&BW v.num 1000000000
 else if v.kind=7 then decide (v.word=[])&&decide (v.num=0)
 else if v.kind=8 then decide (v.word=[])&&decide (v.num=0)&&sX v
 else false
def yI(v:Vv):Int:=if okW v=true then 0 else 8
theorem B7{a b c:Int}(ex:x=i_ a)(ey:y=i_ b)(hb:b≠0)(hw:IntKind.i64.wrap (a.tdiv b)=c)(q:K (i_ c)):ab .quo x y K:=by
 subst ex;subst ey;subst hw;exact⟨rfl,hb,q⟩
theorem sM{x:AV}{a:Int}(ex:x=i_ a)(hi:aN (0-a))(q:K (i_ (0-a))):mR x K:=by
 subst ex;exact⟨_,_,rfl,hi,q⟩
theorem B6(ex:x=i_ a)(ey:y=i_ b)(q:K (i_ (min a b))):mg x y K:=by
 subst ex;subst ey;refine⟨rfl, ?_⟩;rw[show (if b<a then b else a)=min a b by omega];exact q
theorem zzi(q:K (i_ (min a b))):mg (i_ a) (i_ b) K:=B6 rfl rfl q
theorem kinds(k:Int):k=1∨k=2∨k=3∨k=4∨k=5∨k=6∨k=7∨k=8∨(k≠1∧k≠2∧k≠3∧k≠4∧k≠5∧k≠6∧k≠7∧k≠8):=by omega
theorem Mz(v:Vv)(hn:aN v.num):aP p_ 63 [.agg (bL v)] (i_ (yI v)):=by
 refine (V63 _).gives (by simp[eI]) (by simp) ?_;unfold W63;obtain⟨k,w,n,r,g,b,a⟩:=v;simp only at hn;rw[bL];have hq:IntKind.i64.wrap ((1000000000000:Int).tdiv 1000)=1000000000:=by decide
 rcases kinds k with rfl|rfl|rfl|rfl|rfl|rfl|rfl|rfl|⟨k1,k2,k3,k4,k5,k6,k7,k8⟩
 iterate 8
  ·repeat' (first|(with_reducible first|apply ay|apply af)|((with_reducible apply dy);rfl;rfl)|((with_reducible apply fx);rfl;rfl)|((with_reducible apply aO);rfl)|((with_reducible apply aL);rfl)|((with_reducible apply ao);rfl;first|rfl|assumption)|((with_reducible apply ah);rfl;first|rfl|assumption)|((with_reducible apply aM);rfl;first|rfl|assumption)|((with_reducible apply aX);rfl;first|rfl|assumption)|((with_reducible apply iG);rfl)|((with_reducible apply jT);rfl)|((with_reducible apply aV);rfl)|((with_reducible apply aR);rfl;rfl;rfl)|((with_reducible apply cY);rfl;rfl;first|exact aS _|exact nO rfl)|((with_reducible apply p9);rfl;rfl;rfl)|((with_reducible apply dr);first|rfl|simp)|((with_reducible apply eS);rfl;rfl;rfl;rfl;(first|exact aS _|simp);(first|rfl|simp);(first|rfl|simp))|((with_reducible apply bt);rfl)|(refine B7 rfl rfl (by omega) hq ?_)|(refine sM rfl (by unfold aN;omega) ?_)|((with_reducible apply B6);rfl;rfl)|((with_reducible apply tq);rfl;rfl)|((with_reducible apply fQ);rfl)|((with_reducible apply fi);rfl)|(with_reducible intro _))
   all_goals
    refine .pure (by simp) ?_;simp only[AV.v.injEq,Value.int.injEq,true_and,yI,okW,sX,BW]
    grind
 ·have g1:decide (k=1)=false:=by simpa using k1
  have g2:decide (k=2)=false:=by simpa using k2
  have g3:decide (k=3)=false:=by simpa using k3
  have g4:decide (k=4)=false:=by simpa using k4
  have g5:decide (k=5)=false:=by simpa using k5
  have g6:decide (k=6)=false:=by simpa using k6
  have g7:decide (k=7)=false:=by simpa using k7
  have g8:decide (k=8)=false:=by simpa using k8
  repeat' (first|(with_reducible first|apply ay|apply af)|((with_reducible apply dy);rfl;rfl)|((with_reducible apply ah);rfl;first|rfl|assumption)|((with_reducible apply aV);rfl)|((with_reducible apply aR);rfl;rfl;rfl)|((with_reducible apply dr);first|rfl|simp)|((with_reducible apply eS);rfl;rfl;rfl;rfl;(first|exact aS _|simp);(first|rfl|simp);(first|rfl|simp))|((with_reducible apply bt);rfl))
  exact .pure (by simp) (by simp[yI,okW,k1,k2,k3,k4,k5,k6,k7,k8])
theorem JJ(v:Vv)(hn:aN v.num):aP p_ 70 [.agg (bL v)] (i_ (yI v)):=by
 refine (V70 _).gives (by simp[eI]) (by simp) ?_;unfold W70;obtain⟨k,w,n,r,g,b,a⟩:=v;simp only at hn;rw[bL];rcases kinds k with rfl|rfl|rfl|rfl|rfl|rfl|rfl|rfl|⟨k1,k2,k3,k4,k5,k6,k7,k8⟩
 iterate 8
  ·repeat' (first|(with_reducible first|apply ay|apply af)|((with_reducible first|apply bB|apply dF|apply dy);rfl;rfl)|((with_reducible apply fx);rfl;rfl)|((with_reducible apply aO);rfl)|((with_reducible apply aL);rfl)|((with_reducible apply ao);rfl;first|rfl|assumption)|((with_reducible apply ah);rfl;first|rfl|assumption)|((with_reducible apply aX);rfl;first|rfl|assumption)|((with_reducible apply jT);rfl)|((with_reducible apply aV);rfl)|((with_reducible apply aR);rfl;rfl;rfl)|((with_reducible apply cY);rfl;rfl;first|exact aS _|exact nO rfl)|((with_reducible apply p9);rfl;rfl;rfl)|((with_reducible apply dr);first|rfl|simp)|((with_reducible apply eS);rfl;rfl;rfl;rfl;(first|exact aS _|simp);(first|rfl|simp);(first|rfl|simp))|((with_reducible apply bt);rfl)|(refine sM rfl (by unfold aN;omega) ?_)|((with_reducible apply fQ);rfl)|((with_reducible apply fi);rfl)|(with_reducible intro _))
   all_goals
    refine .pure (by simp) ?_;simp only[AV.v.injEq,Value.int.injEq,true_and,yI,okW,sX,BW]
    grind
 ·have g1:decide (k=1)=false:=by simpa using k1
  have g2:decide (k=2)=false:=by simpa using k2
  have g3:decide (k=3)=false:=by simpa using k3
  have g4:decide (k=4)=false:=by simpa using k4
  have g5:decide (k=5)=false:=by simpa using k5
  have g6:decide (k=6)=false:=by simpa using k6
  have g7:decide (k=7)=false:=by simpa using k7
  have g8:decide (k=8)=false:=by simpa using k8
  repeat' (first|(with_reducible first|apply ay|apply af)|((with_reducible apply dy);rfl;rfl)|((with_reducible apply ah);rfl;first|rfl|assumption)|((with_reducible apply aV);rfl)|((with_reducible apply aR);rfl;rfl;rfl)|((with_reducible apply dr);first|rfl|simp)|((with_reducible apply eS);rfl;rfl;rfl;rfl;(first|exact aS _|simp);(first|rfl|simp);(first|rfl|simp))|((with_reducible apply bt);rfl))
  exact .pure (by simp) (by simp[yI,okW,k1,k2,k3,k4,k5,k6,k7,k8])
end
end Go.Proofs.YtldpambpnajgiaaGreatDoor
section
namespace Go.Aw
variable [Laid]
theorem aP.arg{P:Program}{f:FuncId}{args args':List AV}{r:AV}(c:aP P f args' r)(hl:qJ args args')(pa:bf args):aP P f args r:=by
 obtain⟨_,pr,c⟩:=c;exact⟨pa,pr,fun base ι S w vs h1 h2=>c base ι S w vs (aI.tC hl vs h1) h2⟩
end Go.Aw
namespace Go.Proofs.YtldpambpnajgiaaGreatDoor
open Go Go.Aw
def sC(l:List Int):List (List AV):=l.map fun s=>[.v (.int .u8 s)]
theorem uG:∀l,du (sC l)
 | []=>by simp[sC,du]
 | s:: l=>by have:=uG l;unfold sC at this ⊢;simp only[IF,du];exact⟨by simp,this⟩
def vd(v:Int):List Int→Nat→Int
 | [],_=>-1
 | s:: l,k=>if v=s then k else vd v l (k+1)
theorem Pg{v s:Int}{l:List Int}{k:Nat}(h:l[k]?=some s)(n:Nat):vd v (l.drop k) n=if v=s then (n:Int) else vd v (l.drop (k+1)) (n+1):=by
 have hk:=(gE.1 h).1;rw[acO hk,vd,(gE.1 h).2]
theorem Il(v:Int):∀(l:List Int) (k:Nat),(0≤vd v l k↔v∈l)
 | [],k=>by simp[vd]
 | s:: l,k=>by
   rw[vd];split
   ·rename_i h;subst h;simp
   ·rename_i h;rw[Il v l (k+1)];simp[h]
theorem Mx(l:List Int)(v:Int)(hl:l.length<2^40):aP p_ 105 [.sl 1 (sC l),.v (.int .u8 v)] (i_ (vd v l 0)):=by
 refine (adO _ _).gives (by simp[uG]) (by simp) ?_;unfold XI;refine zzk (n:=l.length) (by simp[sC]) fun _=>?_;refine aU (α:=Nat) (fun k=>k≤l.length∧vd v l 0=vd v (l.drop k) k) (fun k=>[i_ k]) (fun _=>[]) (fun k=>l.length-k) 0 (by simp) (Wk.refl _ _ _ (by simp)) ?_;rintro k ⟨hk,hf⟩;refine zzC ?_;rcases AT k l.length with q|q
 ·obtain⟨s,hs⟩:∃x,l[k]?=some x:=⟨l[k],dO q⟩;have e:=Pg (v:=v) hs k;refine zzL (by simpa using q) (zzg (f:=fun s=>[.v (.int .u8 s)]) rfl rfl hs (zzW (zzG ?_)));refine fQ rfl (fun hc=>?_) (fun hc=>?_)
  ·rw[if_pos (by simpa using hc)]at e;exact .pure (by simp) (by rw[hf,e];rfl)
  ·rw[if_neg (by simpa using hc)]at e;refine zzP (by unfold aN;omega) (af ?_);exact⟨k+1,⟨q,by rw[hf,e]⟩,Wk.refl _ _ _ (by simp),by omega⟩
 ·have hk:k=l.length:=by omega
  subst hk;rw[List.drop_length]at hf;refine zzK (by simp) ?_;exact .pure (by simp) (by rw[hf];rfl)
theorem FH(l:List Int)(v:Int)(hl:l.length<2^40):aP p_ 65 [.sl 1 (sC l),.v (.int .u8 v)] (b_ (decide (v∈l))):=by
 refine (V65 _ _).gives (by simp[uG]) (by simp) ?_;unfold W65;refine zzS (by kernel_rfl) (Mx l v hl) (zzF (.pure (by simp) ?_));have:=Il v l 0;simp[this]
/-! ### Rows -/
def Uv:Option (List aD)→AV|none=>.v (.slice none 0 0)|some l=>.sl 1 (fa l)
def TZ:Option (List Int)→AV|none=>.v (.slice none 0 0)|some l=>.sl 1 (sC l)
structure Rw where
 name:aD
 FX:Bool
 k:Int
 w:aD
 n:Int
 r:Int
 g:Int
 b:Int
 a:Int
 words:Option (List aD)
 kinds:Option (List Int)
 least:Bool
def mh(p:Rw):List AV:=[.str p.name,b_ p.FX,.v (.int .u8 p.k),.str p.w,i_ p.n,.v (.int .u8 p.r),.v (.int .u8 p.g),.v (.int .u8 p.b),.v (.int .u8 p.a),Uv p.words,TZ p.kinds,b_ p.least]
def dS:AV→aD|.str s=>s|_=>[]
def dI:AV→Int|.v (.int _ n)=>n|_=>0
def dB:AV→Bool|.v (.bool b)=>b|_=>false
def dW:AV→Option (List aD)|.sl _ l=>some (l.map fun r=>match r with|x:: _=>dS x|_=>[])|_=>none
def dK:AV→Option (List Int)|.sl _ l=>some (l.map fun r=>match r with|x:: _=>dI x|_=>0)|_=>none
def TN(l:List AV):Rw:=match l with
 | [a,b,c,d,e,f,g,h,i,j,k,m]=>⟨dS a,dB b,dI c,dS d,dI e,dI f,dI g,dI h,dI i,dW j,dK k,dB m⟩
 | _=>⟨[],false,0,[],0,0,0,0,0,none,none,false⟩
def jl:List Rw:=lW.map TN
def uX:List Rw:=xH.map TN
theorem ti:lW=jl.map mh:=rfl
theorem Fi:xH=uX.map mh:=rfl
def AI(p:Rw):List aD×List Int×Bool:=(p.words.getD [],p.kinds.getD [],p.least)
def qq:List (List aD×List Int×Bool):=jl.map AI
theorem ab3:uX.map AI=qq:=rfl
theorem mE:jl.length=18:=rfl
theorem z7:uX.length=18:=rfl
def Qq(t:List aD×List Int×Bool):Bool:=Nat.ble t.1.length 9&&Nat.ble t.2.1.length 9
theorem P6:qq.all Qq=true:=rfl
theorem Lk{k:Nat}{t:List aD×List Int×Bool}(h:qq[k]?=some t):t.1.length≤9∧t.2.1.length≤9:=by
 have:=By.1 P6 t (gO h);unfold Qq at this;rw[On]at this;exact⟨nO this.1,nO this.2⟩
theorem ab2{k:Nat}{p:Rw}(h:jl[k]?=some p):qq[k]?=some (AI p):=by unfold qq;rw[lE,h];rfl
theorem aam{k:Nat}{p:Rw}(h:uX[k]?=some p):qq[k]?=some (AI p):=by rw[←ab3,lE,h];rfl
def kX(t:List aD×List Int×Bool)(v:Vv):Bool:=okW v&&(if v.kind=1 then decide (v.word∈t.1) else decide (v.kind∈t.2.1)&&(!t.2.2||decide (0≤v.num)))
def hasB(i:Int)(v:Vv):Bool:=if 0≤i∧i<18 then kX (qq.getD i.toNat ([],[],false)) v else false
def sD(i:Int)(v:Vv):AV:=.aF [b_ (hasB i v),i_ (if 0≤i∧i<18 then 0 else 2)]
theorem Ox(o:Option (List aD))(v:aD)(h:(o.getD []).length≤9):aP p_ 64 [Uv o,.str v] (b_ (decide (v∈o.getD []))):=by
 cases o with
 | some l=>exact mv l v (by simp at h;omega)
 | none=>exact (mv [] v (by simp)).arg (.cons (.nil 1) (.cons (.refl _) .nil)) (by simp[Uv])
theorem Oo(o:Option (List Int))(v:Int)(h:(o.getD []).length≤9):aP p_ 65 [TZ o,.v (.int .u8 v)] (b_ (decide (v∈o.getD []))):=by
 cases o with
 | some l=>exact FH l v (by simp at h;omega)
 | none=>exact (FH [] v (by simp)).arg (.cons (.nil 1) (.cons (.refl _) .nil)) (by simp[TZ])
theorem H6{v:Vv}:(!decide (yI v=0))=!okW v:=by unfold yI;cases okW v<;>simp
theorem Ke(i:Int)(v:Vv)(hn:aN v.num):aP p_ 31 [i_ i,.agg (bL v)] (sD i v):=by
 refine (V31 _ _).gives (by simp[eI]) (by simp[sD]) ?_;unfold W31;have hC:=Mz v hn
 by_cases hi:0≤i∧i<18
 ·obtain⟨k,rfl⟩:∃k:Nat,i=(k:Int):=⟨i.toNat,by omega⟩;have hk:k<18:=by omega
  obtain⟨p,hp⟩:∃p,jl[k]?=some p:=⟨jl[k]'(by rw[mE];exact hk),dO (by rw[mE];exact hk)⟩;have ht:=ab2 hp;obtain⟨s1,s2⟩:=Lk ht;have q1:decide ((k:Int)<0)=false:=by simp
  have q2:decide ((18:Int)≤k)=false:=by simp;omega
  have hW:=Ox p.words v.word s1;have hK:=Oo p.kinds v.kind s2;have e:sD k v=.aF [b_ (kX (AI p) v),i_ 0]:=by
   unfold sD hasB;rw[if_pos hi,if_pos hi,NO,oF,ht];rfl
  rw[e];obtain⟨c,w,n,r,g,b,a⟩:=v;obtain⟨pn,pi,pk,pw,pnn,pr,pg,pb,pa,ws,ks,le⟩:=p;rw[bL]at hC ⊢;simp only at hW hK hn;have hx:=@H6 ⟨c,w,n,r,g,b,a⟩;cases ho:okW ⟨c,w,n,r,g,b,a⟩ with
  | false =>
    rw[ho]at hx;cases ws<;>cases ks;all_goals
     repeat' (first|(with_reducible first|apply ay|apply af)|((with_reducible first|apply bB|apply iy|apply cZ);rfl;rfl)|((with_reducible apply aL);rfl)|((with_reducible apply ao);rfl;first|rfl|assumption)|((with_reducible apply ah);rfl;first|rfl|assumption)|((with_reducible apply aM);rfl;first|rfl|assumption)|((with_reducible apply cY);rfl;rfl;first|exact aS _|exact nO rfl)|((with_reducible apply dV);rfl;first|rfl|simp)|((with_reducible apply dr);first|rfl|simp)|((with_reducible apply eS);rfl;rfl;rfl;rfl;(first|exact aS _|simp);(first|rfl|simp);(first|rfl|simp))|(refine aA (by kernel_rfl) (lz) ?_)|(refine aA (by kernel_rfl) (hC) ?_)|(refine zzg ti rfl hp ?_))
     exact .pure (by simp) (by simp[kX,ho])
  | true =>
    rw[ho]at hx
    by_cases hc:c=1
    ·have q3:decide (c=1)=true:=by simpa using hc
     cases ws<;>cases ks;all_goals
      repeat' (first|(with_reducible first|apply ay|apply af)|((with_reducible first|apply bB|apply iy|apply dy|apply cZ);rfl;rfl)|((with_reducible apply aL);rfl)|((with_reducible apply ao);rfl;first|rfl|assumption)|((with_reducible apply ah);rfl;first|rfl|assumption)|((with_reducible apply aM);rfl;first|rfl|assumption)|((with_reducible apply aV);rfl)|((with_reducible apply aR);rfl;rfl;rfl)|((with_reducible apply cY);rfl;rfl;first|exact aS _|exact nO rfl)|((with_reducible apply dV);rfl;first|rfl|simp)|((with_reducible apply dr);first|rfl|simp)|((with_reducible apply eS);rfl;rfl;rfl;rfl;(first|exact aS _|simp);(first|rfl|simp);(first|rfl|simp))|(refine aA (by kernel_rfl) (lz) ?_)|(refine aA (by kernel_rfl) (hC) ?_)|(refine aA (by kernel_rfl) (hW) ?_)|(refine zzg ti rfl hp ?_))
      refine .pure (by simp) ?_;subst hc;first
       | (simp[kX,ho,AI];done)
       | (simp[kX,ho,AI];exact decide_eq_decide.2 Iff.rfl)
    ·have q3:decide (c=1)=false:=by simpa using hc
     cases ws<;>cases ks;all_goals
      repeat' (first|(with_reducible first|apply ay|apply af)|((with_reducible first|apply bB|apply iy|apply dy|apply cZ);rfl;rfl)|((with_reducible apply fJ);rfl)|((with_reducible apply aO);rfl)|((with_reducible apply aL);rfl)|((with_reducible apply ah);rfl;first|rfl|assumption)|((with_reducible apply aM);rfl;first|rfl|assumption)|((with_reducible apply aX);rfl;first|rfl|assumption)|((with_reducible apply iG);rfl)|((with_reducible apply jT);rfl)|((with_reducible apply aV);rfl)|((with_reducible apply aR);rfl;rfl;rfl)|((with_reducible apply cY);rfl;rfl;first|exact aS _|exact nO rfl)|((with_reducible apply dV);rfl;first|rfl|simp)|((with_reducible apply dr);first|rfl|simp)|((with_reducible apply eS);rfl;rfl;rfl;rfl;(first|exact aS _|simp);(first|rfl|simp);(first|rfl|simp))|(refine aA (by kernel_rfl) (lz) ?_)|(refine aA (by kernel_rfl) (hC) ?_)|(refine aA (by kernel_rfl) (hK) ?_)|(refine zzg ti rfl hp ?_)|((with_reducible apply fi);rfl)|(with_reducible intro _))
      all_goals exact .pure (by simp) (by simp_all [kX,ho,AI,hc])
 ·have e:sD i v=.aF [ff,i_ 2]:=by unfold sD hasB;rw[if_neg hi,if_neg hi]
  rw[e];have g:i<0∨18≤i:=by omega
  rw[bL];rcases g with g|g
  ·have q1:decide (i<0)=true:=by simpa using g
   repeat' (first|(with_reducible first|apply ay|apply af)|((with_reducible apply bB);rfl;rfl)|((with_reducible apply aO);rfl)|((with_reducible apply ao);rfl;first|rfl|assumption)|((with_reducible apply aX);rfl;first|rfl|assumption)|((with_reducible apply dr);first|rfl|simp))
   exact .pure (by simp) rfl
  ·have q1:decide (i<0)=false:=by simp;omega
   have q2:decide (18≤i)=true:=by simpa using g
   repeat' (first|(with_reducible first|apply ay|apply af)|((with_reducible first|apply bB|apply iy);rfl;rfl)|((with_reducible apply aL);rfl)|((with_reducible apply ao);rfl;first|rfl|assumption)|((with_reducible apply aM);rfl;first|rfl|assumption)|((with_reducible apply dr);first|rfl|simp))
   exact .pure (by simp) rfl
end Go.Proofs.YtldpambpnajgiaaGreatDoor
end
namespace Go.Proofs.YtldpambpnajgiaaGreatDoor
section
open Go Go.Aw
def ws(p:Rw):List aD:=p.words.getD []
def ks(p:Rw):List Int:=p.kinds.getD []
def uF(p:Rw):List AV:=[.str p.name,b_ p.FX,.v (.int .u8 p.k),.str p.w,i_ p.n,.v (.int .u8 p.r),.v (.int .u8 p.g),.v (.int .u8 p.b),.v (.int .u8 p.a),.sl 1 (fa (ws p)),.sl 1 (sC (ks p)),b_ p.least]
theorem Xi(o:Option (List aD)):BZ (Uv o) (.sl 1 (fa (o.getD []))):=by
 cases o with
 | none=>exact .nil 1
 | some l=>exact .refl _
theorem V5(o:Option (List Int)):BZ (TZ o) (.sl 1 (sC (o.getD []))):=by
 cases o with
 | none=>exact .nil 1
 | some l=>exact .refl _
theorem OU(p:Rw):qJ (mh p) (uF p):=by
 unfold mh uF
 iterate 9 refine .cons (.refl _) ?_
 exact .cons (Xi _) (.cons (V5 _) (.cons (.refl _) .nil))
theorem CD:∀l:List Rw,wj (l.map mh) (l.map uF)
 | []=>.nil
 | p:: l=>.cons (OU p) (CD l)
theorem MY(p:Rw):bf (uF p):=by simp[uF,kj,uG]
theorem Av:∀l:List Rw,du (l.map uF)
 | []=>by simp[du]
 | p:: l=>by simp only[IF,du];exact⟨MY p,Av l⟩
theorem rZ:aP p_ 10 [] (.sl 12 (uX.map uF)):=by
 have:=oC;rw[Fi]at this;exact this.tC (.sl (CD _)) (by simp[Av])
theorem Q9(i:Int)(v:Vv)(hn:aN v.num):aP p_ 33 [i_ i,.agg (bL v)] (sD i v):=by
 refine (V33 _ _).gives (by simp[eI]) (by simp[sD]) ?_;unfold W33;have hC:=JJ v hn;have hL:(uX.map uF).length=18:=rfl
 by_cases hi:0≤i∧i<18
 ·obtain⟨k,rfl⟩:∃k:Nat,i=(k:Int):=⟨i.toNat,by omega⟩;have hk:k<18:=by omega
  obtain⟨p,hp⟩:∃p,uX[k]?=some p:=⟨uX[k]'(by rw[z7];exact hk),dO (by rw[z7];exact hk)⟩;have ht:=aam hp;obtain⟨s1,s2⟩:=Lk ht;have s1:(ws p).length≤9:=s1;have s2:(ks p).length≤9:=s2;have q1:decide ((k:Int)<0)=false:=by simp
  have q2:decide (((18:Nat):Int)≤(k:Int))=false:=by simp;omega
  have e:sD k v=.aF [b_ (kX (AI p) v),i_ 0]:=by
   unfold sD hasB;rw[if_pos hi,if_pos hi,NO,oF,ht];rfl
  rw[e];have et:AI p=(ws p,ks p,p.least):=rfl;rw[et];obtain⟨c,w,n,r,g,b,a⟩:=v;rw[bL]at hC ⊢;simp only at hn;have hx:=@H6 ⟨c,w,n,r,g,b,a⟩;cases ho:okW ⟨c,w,n,r,g,b,a⟩ with
  | false =>
    rw[ho]at hx;repeat' (first|(refine zzk (n:=18) hL fun _=>?_)|(with_reducible first|apply ay|apply af)|((with_reducible first|apply bB|apply iy|apply cZ);rfl;rfl)|((with_reducible apply aL);rfl)|((with_reducible apply ao);rfl;first|rfl|assumption)|((with_reducible apply ah);rfl;first|rfl|assumption)|((with_reducible apply aM);rfl;first|rfl|assumption)|((with_reducible apply cY);rfl;rfl;first|exact aS _|exact nO rfl)|((with_reducible apply dr);first|rfl|simp)|(refine aA (by kernel_rfl) (rZ) ?_)|(refine aA (by kernel_rfl) (hC) ?_))
    exact .pure (by simp) (by simp[kX,ho])
  | true =>
    rw[ho]at hx
    by_cases hc:c=1
    ·have q3:decide (c=1)=true:=by simpa using hc
     repeat' (first|(refine zzk (n:=18) hL fun _=>?_)|(with_reducible first|apply ay|apply af)|((with_reducible first|apply bB|apply iy|apply dy|apply cZ);rfl;rfl)|((with_reducible apply aL);rfl)|((with_reducible apply ao);rfl;first|rfl|assumption)|((with_reducible apply ah);rfl;first|rfl|assumption)|((with_reducible apply aM);rfl;first|rfl|assumption)|((with_reducible apply aV);rfl)|((with_reducible apply aR);rfl;rfl;rfl)|((with_reducible apply cY);rfl;rfl;first|exact aS _|exact nO rfl)|((with_reducible apply dV);rfl;first|rfl|simp)|((with_reducible apply dr);first|rfl|simp)|((with_reducible apply eS);rfl;rfl;rfl;rfl;(first|exact aS _|simp);(first|rfl|simp);(first|rfl|simp))|(refine aA (by kernel_rfl) (rZ) ?_)|(refine aA (by kernel_rfl) (hC) ?_)|(refine zzg rfl rfl hp ?_))
     subst hc;refine aU (α:=Nat) (fun k=>k≤(ws p).length∧w∉(ws p).take k) (fun k=>[i_ k]) (fun _=>_) (fun k=>(ws p).length-k) 0 (by simp) (Wk.refl _ _ _ (by simp)) ?_;rintro k ⟨hk,hnot⟩;rcases AT k (ws p).length with q|q
     ·obtain⟨s,hs⟩:∃x,(ws p)[k]?=some x:=⟨(ws p)[k],dO q⟩;have g1:decide ((k:Int)<((ws p).length:Nat))=true:=by simpa using q
      have gi:aN ((k:Int)+1):=by unfold aN;omega
      repeat' (first|(refine zzk (n:=(ws p).length) (by simp[fa]) fun _=>?_)|(with_reducible apply af)|((with_reducible first|apply bB|apply dy);rfl;rfl)|((with_reducible apply fx);rfl;rfl)|((with_reducible apply di);rfl;rfl;first|assumption|(unfold aN;omega))|((with_reducible apply ao);rfl;first|rfl|assumption)|((with_reducible apply aV);rfl)|((with_reducible apply aR);rfl;rfl;rfl)|((with_reducible apply de);rfl)|(refine zzg (f:=fun s=>[.str s]) rfl rfl hs ?_)|((with_reducible apply fQ);rfl)|(with_reducible intro _))
      ·rename_i hc;have hc:s=w:=by simpa using hc
       have:w∈ws p:=by rw[←hc];exact gO hs
       exact .pure (by simp) (by simp[kX,ho,this])
      ·rename_i hc;have hc:s≠w:=by simpa using hc
       exact⟨k+1,⟨q,by rw[Gt,hs];simp;exact⟨hnot,fun h=>hc h.symm⟩⟩,Wk.refl _ _ _ (by simp),by omega⟩
     ·have hk:k=(ws p).length:=by omega
      subst hk;rw[GO]at hnot;have g1:decide ((((ws p).length:Nat):Int)<((ws p).length:Nat))=false:=by simp
      repeat' (first|(refine zzk (n:=(ws p).length) (by simp[fa]) fun _=>?_)|((with_reducible apply bB);rfl;rfl)|((with_reducible apply ah);rfl;first|rfl|assumption)|((with_reducible apply aV);rfl)|((with_reducible apply aR);rfl;rfl;rfl))
      exact .pure (by simp) (by simp[kX,ho,hnot])
    ·have q3:decide (c=1)=false:=by simpa using hc
     repeat' (first|(refine zzk (n:=18) hL fun _=>?_)|(with_reducible first|apply ay|apply af)|((with_reducible first|apply bB|apply iy|apply dy|apply cZ);rfl;rfl)|((with_reducible apply aL);rfl)|((with_reducible apply ah);rfl;first|rfl|assumption)|((with_reducible apply aM);rfl;first|rfl|assumption)|((with_reducible apply aV);rfl)|((with_reducible apply aR);rfl;rfl;rfl)|((with_reducible apply cY);rfl;rfl;first|exact aS _|exact nO rfl)|((with_reducible apply dV);rfl;first|rfl|simp)|((with_reducible apply dr);first|rfl|simp)|((with_reducible apply eS);rfl;rfl;rfl;rfl;(first|exact aS _|simp);(first|rfl|simp);(first|rfl|simp))|(refine aA (by kernel_rfl) (rZ) ?_)|(refine aA (by kernel_rfl) (hC) ?_)|(refine zzg rfl rfl hp ?_))
     refine aU (α:=Nat) (fun k=>k≤(ks p).length∧c∉(ks p).take k) (fun k=>[i_ k]) (fun _=>_) (fun k=>(ks p).length-k) 0 (by simp) (Wk.refl _ _ _ (by simp)) ?_;rintro k ⟨hk,hnot⟩;rcases AT k (ks p).length with q|q
     ·obtain⟨s,hs⟩:∃x,(ks p)[k]?=some x:=⟨(ks p)[k],dO q⟩;have g1:decide ((k:Int)<((ks p).length:Nat))=true:=by simpa using q
      have gi:aN ((k:Int)+1):=by unfold aN;omega
      by_cases hs2:s=c
      ·subst hs2;have:s∈ks p:=gO hs;have g2:decide (s=s)=true:=by simp
       repeat' (first|(refine zzk (n:=(ks p).length) (by simp[sC]) fun _=>?_)|(with_reducible apply ay)|((with_reducible first|apply bB|apply iy|apply dy);rfl;rfl)|((with_reducible apply fJ);rfl)|((with_reducible apply aO);rfl)|((with_reducible apply aL);rfl)|((with_reducible apply ao);rfl;first|rfl|assumption)|((with_reducible apply jT);rfl)|((with_reducible apply aV);rfl)|((with_reducible apply aR);rfl;rfl;rfl)|((with_reducible apply de);rfl)|(refine zzg (f:=fun s=>[.v (.int .u8 s)]) rfl rfl hs ?_)|((with_reducible apply fi);rfl)|(with_reducible intro _))
       all_goals exact .pure (by simp) (by simp_all [kX,ho,this,hc])
      ·have g2:decide (s=c)=false:=by simpa using hs2
       repeat' (first|(refine zzk (n:=(ks p).length) (by simp[sC]) fun _=>?_)|(with_reducible apply af)|((with_reducible first|apply bB|apply dy);rfl;rfl)|((with_reducible apply di);rfl;rfl;first|assumption|(unfold aN;omega))|((with_reducible apply ao);rfl;first|rfl|assumption)|((with_reducible apply ah);rfl;first|rfl|assumption)|((with_reducible apply aV);rfl)|((with_reducible apply aR);rfl;rfl;rfl)|((with_reducible apply de);rfl)|(refine zzg (f:=fun s=>[.v (.int .u8 s)]) rfl rfl hs ?_))
       exact⟨k+1,⟨q,by rw[Gt,hs];simp;exact⟨hnot,fun h=>hs2 h.symm⟩⟩,Wk.refl _ _ _ (by simp),by omega⟩
     ·have hk:k=(ks p).length:=by omega
      subst hk;rw[GO]at hnot;have g1:decide ((((ks p).length:Nat):Int)<((ks p).length:Nat))=false:=by simp
      repeat' (first|(refine zzk (n:=(ks p).length) (by simp[sC]) fun _=>?_)|((with_reducible apply bB);rfl;rfl)|((with_reducible apply ah);rfl;first|rfl|assumption)|((with_reducible apply aV);rfl)|((with_reducible apply aR);rfl;rfl;rfl))
      exact .pure (by simp) (by simp[kX,ho,hnot,hc])
 ·have e:sD i v=.aF [ff,i_ 2]:=by unfold sD hasB;rw[if_neg hi,if_neg hi]
  rw[e];have g:i<0∨18≤i:=by omega
  rw[bL];rcases g with g|g
  ·have q1:decide (i<0)=true:=by simpa using g
   repeat' (first|(with_reducible first|apply ay|apply af)|((with_reducible apply bB);rfl;rfl)|((with_reducible apply aO);rfl)|((with_reducible apply ao);rfl;first|rfl|assumption)|((with_reducible apply aX);rfl;first|rfl|assumption)|((with_reducible apply dr);first|rfl|simp)|(refine aA (by kernel_rfl) (rZ) ?_))
   exact .pure (by simp) rfl
  ·have q1:decide (i<0)=false:=by simp;omega
   have q2:decide (((18:Nat):Int)≤i)=true:=by simp;omega
   repeat' (first|(refine zzk (n:=18) hL fun _=>?_)|(with_reducible first|apply ay|apply af)|((with_reducible first|apply bB|apply iy);rfl;rfl)|((with_reducible apply aL);rfl)|((with_reducible apply ao);rfl;first|rfl|assumption)|((with_reducible apply aM);rfl;first|rfl|assumption)|((with_reducible apply dr);first|rfl|simp)|(refine aA (by kernel_rfl) (rZ) ?_))
   exact .pure (by simp) rfl
end
section
open Go Go.Aw Go.dz
variable{l:List Cu}{n k:Nat}
structure Sy where
 aq:List Vv
 bn:List Cu
def bQ(l:List Vv):List (List AV):=l.map bL
theorem ik:∀l,du (bQ l)
 | []=>by simp[bQ,du]
 | s:: l=>by have:=ik l;unfold bQ at this ⊢;simp only[IF,du];exact⟨eI s,this⟩
def eH(s:Sy):List AV:=[.sl 7 (bQ s.aq),.sl 2 (az s.bn)]
theorem kn(s:Sy):bf (eH s):=by simp[eH,ik,dp]
def v0:Vv:=⟨0,[],0,0,0,0,0⟩
def wg(i:Int)(v:Vv):Bool:=hasB i v&&!decide (v.kind=3)&&!decide (v.kind=4)
def za(l:List Vv):Bool:=decide ((l.getD 0 v0).kind=7)&&decide (0≤(l.getD 15 v0).num)&&decide ((l.getD 15 v0).num≤1000)
def iw(s:Sy):Bool:=decide (s.aq.length=18)&&decide (fO s.bn=0)&&(List.range 18).all (fun i=>wg i (s.aq.getD i v0))&&za s.aq
def lV(s:Sy):Int:=if iw s=true then 0 else 8
def u6(s:Sy):Prop:=(∀v∈s.aq,aN v.num)∧s.bn.length<2^40∧∀c∈s.bn,aW c.value<2^39
theorem Aq(s:Sy)(ok:u6 s):aP p_ 8 [.agg (eH s)] (i_ (lV s)):=by
 refine (V8 _).gives (by simp[kn]) (by simp) ?_;unfold W8;obtain⟨vl,cu⟩:=s;obtain⟨o1,o2,o3⟩:=ok;simp only at o1 o2 o3;rw[eH];have hlen:(bQ vl).length=vl.length:=by simp[bQ]
 by_cases h1:vl.length=18
 case neg =>
  have g1:(!decide ((vl.length:Int)=18))=true:=by simp;omega
  repeat' (first|(refine zzk (n:=vl.length) hlen fun _=>?_)|(with_reducible first|apply ay|apply af)|((with_reducible apply cZ);rfl;rfl)|((with_reducible apply aO);rfl)|((with_reducible apply ao);rfl;first|rfl|assumption)|((with_reducible apply aX);rfl;first|rfl|assumption)|((with_reducible apply aV);rfl)|((with_reducible apply aR);rfl;rfl;rfl)|((with_reducible apply dr);first|rfl|simp))
  exact .pure (by simp) (by simp[lV,iw,h1])
 have g1:(!decide ((vl.length:Int)=18))=false:=by simp;omega
 have hN:=Cn cu o2 o3
 by_cases h2:fO cu=0
 case neg =>
  have g2:(!decide (fO cu=0))=true:=by simp[h2]
  repeat' (first|(refine zzk (n:=vl.length) hlen fun _=>?_)|(with_reducible first|apply ay|apply af)|((with_reducible apply cZ);rfl;rfl)|((with_reducible apply aL);rfl)|((with_reducible apply ao);rfl;first|rfl|assumption)|((with_reducible apply aM);rfl;first|rfl|assumption)|((with_reducible apply aV);rfl)|((with_reducible apply aR);rfl;rfl;rfl)|((with_reducible apply dr);first|rfl|simp)|(refine aA (by kernel_rfl) (hN) ?_))
  exact .pure (by simp) (by simp[lV,iw,h2])
 have g2:(!decide (fO cu=0))=false:=by simp[h2]
 repeat' (first|(refine zzk (n:=vl.length) hlen fun _=>?_)|(with_reducible first|apply ay|apply af)|((with_reducible apply cZ);rfl;rfl)|((with_reducible apply aL);rfl)|((with_reducible apply ah);rfl;first|rfl|assumption)|((with_reducible apply aM);rfl;first|rfl|assumption)|((with_reducible apply aV);rfl)|((with_reducible apply aR);rfl;rfl;rfl)|((with_reducible apply dr);first|rfl|simp)|(refine aA (by kernel_rfl) (hN) ?_))
 refine aU (α:=Nat) (fun k=>k≤vl.length∧∀i,i<k→wg i (vl.getD i v0)=true) (fun k=>[i_ k]) (fun _=>_) (fun k=>vl.length-k) 0 ⟨by omega,fun i h=>by omega⟩ (Wk.refl _ _ _ (by simp)) ?_;rintro k ⟨hk,hall⟩;rcases AT k vl.length with q|q
 ·obtain⟨⟨c,w,n,r,g,b,a⟩,hs⟩:∃x,vl[k]?=some x:=⟨vl[k],dO q⟩;have q1:decide ((k:Int)<vl.length)=true:=by simpa using q
  have hin:aN ((k:Int)+1):=by unfold aN;omega
  have hn:aN n:=o1 _ (gO hs);have hH:aP p_ 31 [i_ k,.agg [.v (.int .u8 c),.str w,i_ n,.v (.int .u8 r),.v (.int .u8 g),.v (.int .u8 b),.v (.int .u8 a)]] (.aF [b_ (hasB k ⟨c,w,n,r,g,b,a⟩),i_ (if 0≤(k:Int)∧(k:Int)<18 then 0 else 2)]):=Ke k ⟨c,w,n,r,g,b,a⟩ hn;have hv:wg k (vl.getD k v0)=(!(!hasB k ⟨c,w,n,r,g,b,a⟩)&&!decide (c=3)&&!decide (c=4)):=by
   rw[oF,hs];simp[wg]
  have bad:wg k (vl.getD k v0)=false→lV ⟨vl,cu⟩=8:=fun e=>by
   unfold lV;rw[if_neg];intro h;unfold iw at h;simp only[On]at h;obtain⟨⟨_,h⟩,_⟩:=h;rw[By]at h;rw[h k (ID.2 (by omega))]at e;cases e
  cases g3:(!hasB k ⟨c,w,n,r,g,b,a⟩)<;>cases g4:decide (c=3)<;>cases g5:decide (c=4);all_goals
   rw[g3,g4,g5]at hv;repeat' (first|(with_reducible first|apply ay|apply af)|((with_reducible first|apply bB|apply dy);rfl;rfl)|((with_reducible apply di);rfl;rfl;first|assumption|(unfold aN;omega))|((with_reducible apply fJ);rfl)|((with_reducible apply aO);rfl)|((with_reducible apply aL);rfl)|((with_reducible apply ao);rfl;first|rfl|assumption)|((with_reducible apply ah);rfl;first|rfl|assumption)|((with_reducible apply aM);rfl;first|rfl|assumption)|((with_reducible apply aX);rfl;first|rfl|assumption)|((with_reducible apply aV);rfl)|((with_reducible apply aR);rfl;rfl;rfl)|((with_reducible apply cY);rfl;rfl;first|exact aS _|exact nO rfl)|((with_reducible apply dV);rfl;first|rfl|simp)|((with_reducible apply dr);first|rfl|simp)|((with_reducible apply eS);rfl;rfl;rfl;rfl;(first|exact aS _|simp);(first|rfl|simp);(first|rfl|simp))|((with_reducible apply bl);rfl;rfl)|(refine aA (by kernel_rfl) (hH) ?_)|(refine zzg (f:=bL) rfl rfl hs ?_))
  all_goals first
   | (refine .pure (by simp) ?_
      rw[bad hv];done)
   | (refine⟨k+1,⟨q,fun i hi=>?_⟩, ?_,by omega⟩
      ·rcases AT i k with z|z
       ·exact hall i z
       ·obtain rfl:i=k:=by omega
        exact hv
      ·first
        | exact Wk.refl _ _ _ (by simp)
        | exact Wk.le (by simp) (by simp)
        | exact Wk.back (M:=1) (by simp) (by simp) rfl rfl (by simp[gr];exact iZ _ _ (by simp[ik,dp,bf])) (by simp[Bd]))
 ·have hk:k=vl.length:=by omega
  subst hk;have q1:decide ((vl.length:Int)<vl.length)=false:=by simp
  obtain⟨⟨c0,w0,n0,r0,x0,b0,a0⟩,e0⟩:∃x,vl[0]?=some x:=⟨vl[0]'(by omega),dO _⟩;obtain⟨⟨c1,w1,n1,r1,x1,b1,a1⟩,e1⟩:∃x,vl[15]?=some x:=⟨vl[15]'(by omega),dO _⟩;have hl:iw ⟨vl,cu⟩=(!(!decide (c0=7))&&!decide (n1<0)&&!decide ((1000:Int)<n1)):=by
   have ha:(List.range 18).all (fun i=>wg i (vl.getD i v0))=true:=by
    rw[By];intro i hi;exact hall i (by rw[h1];exact ID.1 hi)
   unfold iw za;simp only;rw[ha,h1,h2,oF,e0,oF,e1]
   by_cases z0:c0=7<;>by_cases z1:n1<0<;>by_cases z2:(1000:Int)<n1<;>simp[z0,z1,z2]<;>omega
  cases g3:(!decide (c0=7))<;>cases g4:decide (n1<0)<;>cases g5:decide ((1000:Int)<n1);all_goals
   rw[g3,g4,g5]at hl;repeat' (first|(with_reducible first|apply ay|apply af)|((with_reducible first|apply bB|apply dF|apply cZ);rfl;rfl)|((with_reducible apply aO);rfl)|((with_reducible apply aL);rfl)|((with_reducible apply ao);rfl;first|rfl|assumption)|((with_reducible apply ah);rfl;first|rfl|assumption)|((with_reducible apply aM);rfl;first|rfl|assumption)|((with_reducible apply aX);rfl;first|rfl|assumption)|((with_reducible apply aV);rfl)|((with_reducible apply dX);rfl)|((with_reducible apply aR);rfl;rfl;rfl)|((with_reducible apply de);rfl)|(refine zzg (f:=bL) rfl rfl e0 ?_)|(refine zzg (f:=bL) rfl rfl e1 ?_))
  all_goals exact .pure (by simp) (by unfold lV;rw[hl];rfl)
theorem tA(s:Sy)(ok:u6 s):aP p_ 9 [.agg (eH s)] (i_ (lV s)):=by
 refine (V9 _).gives (by simp[kn]) (by simp) ?_;unfold W9;obtain⟨vl,cu⟩:=s;obtain⟨o1,o2,o3⟩:=ok;simp only at o1 o2 o3;rw[eH];have hlen:(bQ vl).length=vl.length:=by simp[bQ]
 by_cases h1:vl.length=18
 case neg =>
  have g1:(!decide ((vl.length:Int)=18))=true:=by simp;omega
  repeat' (first|(refine zzk (n:=vl.length) hlen fun _=>?_)|(with_reducible first|apply ay|apply af)|((with_reducible apply cZ);rfl;rfl)|((with_reducible apply aO);rfl)|((with_reducible apply ao);rfl;first|rfl|assumption)|((with_reducible apply aX);rfl;first|rfl|assumption)|((with_reducible apply aV);rfl)|((with_reducible apply aR);rfl;rfl;rfl)|((with_reducible apply dr);first|rfl|simp))
  exact .pure (by simp) (by simp[lV,iw,h1])
 have g1:(!decide ((vl.length:Int)=18))=false:=by simp;omega
 have hN:=JH cu o2 o3
 by_cases h2:fO cu=0
 case neg =>
  have g2:(!decide (fO cu=0))=true:=by simp[h2]
  repeat' (first|(refine zzk (n:=vl.length) hlen fun _=>?_)|(with_reducible first|apply ay|apply af)|((with_reducible apply cZ);rfl;rfl)|((with_reducible apply aL);rfl)|((with_reducible apply ao);rfl;first|rfl|assumption)|((with_reducible apply aM);rfl;first|rfl|assumption)|((with_reducible apply aV);rfl)|((with_reducible apply aR);rfl;rfl;rfl)|((with_reducible apply dr);first|rfl|simp)|(refine aA (by kernel_rfl) (hN) ?_))
  exact .pure (by simp) (by simp[lV,iw,h2])
 have g2:(!decide (fO cu=0))=false:=by simp[h2]
 repeat' (first|(refine zzk (n:=vl.length) hlen fun _=>?_)|(with_reducible first|apply ay|apply af)|((with_reducible apply cZ);rfl;rfl)|((with_reducible apply aL);rfl)|((with_reducible apply ah);rfl;first|rfl|assumption)|((with_reducible apply aM);rfl;first|rfl|assumption)|((with_reducible apply aV);rfl)|((with_reducible apply aR);rfl;rfl;rfl)|((with_reducible apply dr);first|rfl|simp)|(refine aA (by kernel_rfl) (hN) ?_))
 refine aU (α:=Nat) (fun k=>k≤vl.length∧∀i,i<k→wg i (vl.getD i v0)=true) (fun k=>[i_ k]) (fun _=>_) (fun k=>vl.length-k) 0 ⟨by omega,fun i h=>by omega⟩ (Wk.refl _ _ _ (by simp)) ?_;rintro k ⟨hk,hall⟩;rcases AT k vl.length with q|q
 ·obtain⟨⟨c,w,n,r,g,b,a⟩,hs⟩:∃x,vl[k]?=some x:=⟨vl[k],dO q⟩;have q1:decide ((k:Int)<vl.length)=true:=by simpa using q
  have hin:aN ((k:Int)+1):=by unfold aN;omega
  have hn:aN n:=o1 _ (gO hs);have hH:aP p_ 33 [i_ k,.agg [.v (.int .u8 c),.str w,i_ n,.v (.int .u8 r),.v (.int .u8 g),.v (.int .u8 b),.v (.int .u8 a)]] (.aF [b_ (hasB k ⟨c,w,n,r,g,b,a⟩),i_ (if 0≤(k:Int)∧(k:Int)<18 then 0 else 2)]):=Q9 k ⟨c,w,n,r,g,b,a⟩ hn;have hv:wg k (vl.getD k v0)=(!(!hasB k ⟨c,w,n,r,g,b,a⟩)&&!decide (c=3)&&!decide (c=4)):=by
   rw[oF,hs];simp[wg]
  have bad:wg k (vl.getD k v0)=false→lV ⟨vl,cu⟩=8:=fun e=>by
   unfold lV;rw[if_neg];intro h;unfold iw at h;simp only[On]at h;obtain⟨⟨_,h⟩,_⟩:=h;rw[By]at h;rw[h k (ID.2 (by omega))]at e;cases e
  cases g3:(!hasB k ⟨c,w,n,r,g,b,a⟩)<;>cases g4:decide (c=3)<;>cases g5:decide (c=4);all_goals
   rw[g3,g4,g5]at hv;repeat' (first|(refine zzk (n:=vl.length) hlen fun _=>?_)|(with_reducible first|apply ay|apply af)|((with_reducible first|apply bB|apply dy);rfl;rfl)|((with_reducible apply di);rfl;rfl;first|assumption|(unfold aN;omega))|((with_reducible apply fJ);rfl)|((with_reducible apply aO);rfl)|((with_reducible apply aL);rfl)|((with_reducible apply ao);rfl;first|rfl|assumption)|((with_reducible apply ah);rfl;first|rfl|assumption)|((with_reducible apply aM);rfl;first|rfl|assumption)|((with_reducible apply aX);rfl;first|rfl|assumption)|((with_reducible apply aV);rfl)|((with_reducible apply aR);rfl;rfl;rfl)|((with_reducible apply cY);rfl;rfl;first|exact aS _|exact nO rfl)|((with_reducible apply dV);rfl;first|rfl|simp)|((with_reducible apply dr);first|rfl|simp)|((with_reducible apply eS);rfl;rfl;rfl;rfl;(first|exact aS _|simp);(first|rfl|simp);(first|rfl|simp))|((with_reducible apply bl);rfl;rfl)|(refine aA (by kernel_rfl) (hH) ?_)|(refine zzg (f:=bL) rfl rfl hs ?_))
  all_goals first
   | (refine .pure (by simp) ?_
      rw[bad hv];done)
   | (refine⟨k+1,⟨q,fun i hi=>?_⟩, ?_,by omega⟩
      ·rcases AT i k with z|z
       ·exact hall i z
       ·obtain rfl:i=k:=by omega
        exact hv
      ·first
        | exact Wk.refl _ _ _ (by simp)
        | exact Wk.le (by simp) (by simp)
        | exact Wk.back (M:=1) (by simp) (by simp) rfl rfl (by simp[gr];exact iZ _ _ (by simp[ik,dp,bf])) (by simp[Bd]))
 ·have hk:k=vl.length:=by omega
  subst hk;have q1:decide ((vl.length:Int)<vl.length)=false:=by simp
  obtain⟨⟨c0,w0,n0,r0,x0,b0,a0⟩,e0⟩:∃x,vl[0]?=some x:=⟨vl[0]'(by omega),dO _⟩;obtain⟨⟨c1,w1,n1,r1,x1,b1,a1⟩,e1⟩:∃x,vl[15]?=some x:=⟨vl[15]'(by omega),dO _⟩;have hl:iw ⟨vl,cu⟩=(!(!decide (c0=7))&&!decide (n1<0)&&!decide ((1000:Int)<n1)):=by
   have ha:(List.range 18).all (fun i=>wg i (vl.getD i v0))=true:=by
    rw[By];intro i hi;exact hall i (by rw[h1];exact ID.1 hi)
   unfold iw za;simp only;rw[ha,h1,h2,oF,e0,oF,e1]
   by_cases z0:c0=7<;>by_cases z1:n1<0<;>by_cases z2:(1000:Int)<n1<;>simp[z0,z1,z2]<;>omega
  cases g3:(!decide (c0=7))<;>cases g4:decide (n1<0)<;>cases g5:decide ((1000:Int)<n1);all_goals
   rw[g3,g4,g5]at hl;repeat' (first|(refine zzk (n:=vl.length) hlen fun _=>?_)|(with_reducible first|apply ay|apply af)|((with_reducible first|apply bB|apply dF|apply cZ);rfl;rfl)|((with_reducible apply aO);rfl)|((with_reducible apply aL);rfl)|((with_reducible apply ao);rfl;first|rfl|assumption)|((with_reducible apply ah);rfl;first|rfl|assumption)|((with_reducible apply aM);rfl;first|rfl|assumption)|((with_reducible apply aX);rfl;first|rfl|assumption)|((with_reducible apply aV);rfl)|((with_reducible apply dX);rfl)|((with_reducible apply aR);rfl;rfl;rfl)|((with_reducible apply de);rfl)|(refine zzg (f:=bL) rfl rfl e0 ?_)|(refine zzg (f:=bL) rfl rfl e1 ?_))
  all_goals exact .pure (by simp) (by unfold lV;rw[hl];rfl)
theorem J7{α:Type}{l:List α}{p:α→Bool}{s:α}(hk:k<n)(h:l[k]?=some s)(hp:p s=true):(l.take n).any p=true:=
 acB.2 ⟨s,gO (i:=k) (by rw[To,if_pos hk];exact h),hp⟩
theorem Hx{α:Type}{l:List α}{p:α→Bool}(hk:l.length≤k∨n≤k)(h:∀i s,i<k→l[i]?=some s→p s=false):(l.take n).any p=false:=by
 rw[List.any_eq_false];intro x hx;obtain⟨i,hi⟩:=List.mem_iff_getElem?.1 hx;rw[To]at hi;split at hi
 ·have:=(gE.1 hi).1;rw[h i x (by omega) hi];simp
 ·cases hi
def gHs(s:aD):Bool:=decide ((200:Int)<s.length)
def gH(l:List aD):Bool:=(l.take 41).any gHs||decide ((40:Int)<l.length)
def O8(c:Cu):Bool:=vK c.value||decide ((100:Int)<c.name.length)
def nz(l:List Cu)(k:Nat):Int:=((l.take k).map fun c=>fZ 300 0 c.value).sum
def KK(l:List Cu):Bool:=(l.take 71).any O8||decide ((70:Int)<l.length)||decide ((1500:Int)<nz l 71)
theorem Fz{k:Nat}{c:Cu}(h:l[k]?=some c):nz l (k+1)=nz l k+fZ 300 0 c.value:=by
 unfold nz;rw[Gt,h];simp
theorem J5(l:List Cu)(hz:∀c∈l,aW c.value<2^39):∀k,0≤nz l k∧nz l k≤k*2^39
 | 0=>by simp[nz]
 | k+1=>by
   have ih:=J5 l hz k;cases h:l[k]? with
   | none =>
     have:nz l (k+1)=nz l k:=by unfold nz;rw[Gt,h];simp
     rw[this];omega
   | some c =>
     rw[Fz h];obtain⟨a,b,_⟩:=nw 300 0 c.value;have:=hz c (gO h);omega
theorem QP{k:Nat}(h:l.length≤k∨71≤k)(hk:k≤71):nz l 71=nz l k:=by
 rcases h with h|h
 ·unfold nz;rw[Of (by omega),Of h]
 ·obtain rfl:k=71:=by omega
  rfl
theorem Me(l:List Cu)(hl:l.length<2^40)(hz:∀c∈l,aW c.value<2^39):aP p_ 49 [.sl 2 (az l)] (b_ (KK l)):=by
 refine (V49 _).gives (by simp[dp]) (by simp) ?_;unfold W49;refine aU (α:=Nat) (fun k=>k≤l.length∧k≤71∧∀i s,i<k→l[i]?=some s→O8 s=false) (fun k=>[i_ (nz l k),i_ k]) (fun _=>[]) (fun k=>l.length-k) 0 ⟨by omega,by omega,fun i s h=>by omega⟩ (Wk.refl _ _ _ (by simp)) ?_;rintro k ⟨hk,hk2,hall⟩;refine zzk (n:=l.length) (by simp[az]) fun _=>?_;have done:l.length≤k∨71≤k→KK l=(decide ((70:Int)<l.length)||decide ((1500:Int)<nz l k)):=fun h=>by unfold KK;rw[Hx h hall,QP h hk2];simp
 rcases AT k l.length with q|q
 ·obtain⟨⟨nm,vs⟩,hs⟩:∃x,l[k]?=some x:=⟨l[k],dO q⟩;have q1:decide ((k:Int)<l.length)=true:=by simpa using q
  have hin:aN ((k:Int)+1):=by unfold aN;omega
  have hzv:aW vs<2^39:=hz _ (gO hs);have hG:=Cr vs hzv;have hS:=AZ vs 300 hzv (by omega) (by omega);obtain⟨b1,b2,_⟩:=nw 300 0 vs;obtain⟨c1,c2⟩:=J5 l hz k;have hacc:nz l (k+1)=nz l k+fZ 300 0 vs:=Fz hs;have hi1:aN (nz l k+fZ 300 0 vs):=by unfold aN;omega
  rcases AT k 71 with z|z
  ·have q2:decide ((k:Int)≤70)=true:=by simp;omega
   repeat' (first|(with_reducible first|apply ay|apply af)|((with_reducible first|apply bB|apply jE|apply dF);rfl;rfl)|((with_reducible apply di);rfl;rfl;first|assumption|(unfold aN;omega))|((with_reducible apply aO);rfl)|((with_reducible apply aL);rfl)|((with_reducible apply ao);rfl;first|rfl|assumption)|((with_reducible apply aM);rfl;first|rfl|assumption)|((with_reducible apply dX);rfl)|((with_reducible apply de);rfl)|((with_reducible apply nM);rfl;intro _)|(refine aA (by kernel_rfl) (hG) ?_)|(refine aA (by kernel_rfl) (hS) ?_)|(refine zzg (f:=eT) rfl rfl hs ?_)|((with_reducible apply fQ);rfl)|((with_reducible apply fi);rfl)|(with_reducible intro _))
   all_goals first
    | (refine⟨k+1,⟨q,by omega,fun i x hi hx=>?_⟩,Wk.le (by simp) (by rw[hacc];simp),by omega⟩
       rcases AT i k with y|y
       ·exact hall i x y hx
       ·obtain rfl:i=k:=by omega
        rw[hs]at hx;cases hx;unfold O8;grind)
    | (refine .pure (by simp) ?_
       simp only[kE,nX,AV.v.injEq,Value.bool.injEq];have hg:O8 ⟨nm,vs⟩=true:=by unfold O8;grind
       simp[KK,J7 z hs hg])
  ·have q2:decide ((k:Int)≤70)=false:=by simp;omega
   repeat' (first|(refine zzk (n:=l.length) (by simp[az]) fun _=>?_)|(with_reducible first|apply ay|apply af)|((with_reducible first|apply bB|apply jE|apply dF);rfl;rfl)|((with_reducible apply aO);rfl)|((with_reducible apply aL);rfl)|((with_reducible apply ah);rfl;first|rfl|assumption)|((with_reducible apply aM);rfl;first|rfl|assumption)|((with_reducible apply fi);rfl)|(with_reducible intro _))
   all_goals
    refine .pure (by simp) ?_;rw[done (.inr z)];simp only[kE,nX,AV.v.injEq,Value.bool.injEq]at *
    grind
 ·have q1:decide ((k:Int)<l.length)=false:=by simp;omega
  repeat' (first|(refine zzk (n:=l.length) (by simp[az]) fun _=>?_)|(with_reducible first|apply ay|apply af)|((with_reducible first|apply bB|apply dF);rfl;rfl)|((with_reducible apply aO);rfl)|((with_reducible apply aL);rfl)|((with_reducible apply ah);rfl;first|rfl|assumption)|((with_reducible apply aX);rfl;first|rfl|assumption)|((with_reducible apply fi);rfl)|(with_reducible intro _))
  all_goals
   refine .pure (by simp) ?_;rw[done (.inl q)];simp only[kE,nX,AV.v.injEq,Value.bool.injEq]at *
   grind
def ZQ(v:Vv):Bool:=decide ((100:Int)<v.word.length)
def Ie(s:Sy):Bool:=(s.aq.take 31).any ZQ||decide ((30:Int)<s.aq.length)||KK s.bn
theorem Ms(s:Sy)(hl:s.aq.length<2^40)(ok:u6 s):aP p_ 25 [.agg (eH s)] (b_ (Ie s)):=by
 refine (V25 _).gives (by simp[kn]) (by simp) ?_;unfold W25;obtain⟨vl,cu⟩:=s;obtain⟨o1,o2,o3⟩:=ok;simp only at o1 o2 o3 hl;have hC:=Me cu o2 o3;rw[eH];have hlen:(bQ vl).length=vl.length:=by simp[bQ]
 repeat' (first|((with_reducible apply dr);first|rfl|simp))
 refine aU (α:=Nat) (fun k=>k≤vl.length∧k≤31∧∀i s,i<k→vl[i]?=some s→ZQ s=false) (fun k=>[i_ k]) (fun _=>_) (fun k=>vl.length-k) 0 ⟨by omega,by omega,fun i s h=>by omega⟩ (Wk.refl _ _ _ (by simp)) ?_;rintro k ⟨hk,hk2,hall⟩;have done:vl.length≤k∨31≤k→Ie ⟨vl,cu⟩=(decide ((30:Int)<vl.length)||KK cu):=fun h=>by unfold Ie;simp only;rw[Hx h hall];simp
 rcases AT k vl.length with q|q
 ·obtain⟨⟨c,w,n,r,g,b,a⟩,hs⟩:∃x,vl[k]?=some x:=⟨vl[k],dO q⟩;have q1:decide ((k:Int)<vl.length)=true:=by simpa using q
  have hin:aN ((k:Int)+1):=by unfold aN;omega
  rcases AT k 31 with z|z
  ·have q2:decide ((k:Int)≤30)=true:=by simp;omega
   cases hg:ZQ ⟨c,w,n,r,g,b,a⟩ with
   | true =>
     have hg':decide ((100:Int)<w.length)=true:=hg;repeat' (first|(refine zzk (n:=vl.length) hlen fun _=>?_)|(with_reducible first|apply ay|apply af)|((with_reducible first|apply bB|apply jE|apply dF);rfl;rfl)|((with_reducible apply aO);rfl)|((with_reducible apply ao);rfl;first|rfl|assumption)|((with_reducible apply aM);rfl;first|rfl|assumption)|((with_reducible apply aV);rfl)|((with_reducible apply dX);rfl)|((with_reducible apply aR);rfl;rfl;rfl)|((with_reducible apply de);rfl)|((with_reducible apply nM);rfl;intro _)|(refine zzg (f:=bL) rfl rfl hs ?_))
     all_goals exact .pure (by simp) (by simp[Ie,J7 z hs hg])
   | false =>
     have hg':decide ((100:Int)<w.length)=false:=hg;repeat' (first|(refine zzk (n:=vl.length) hlen fun _=>?_)|(with_reducible first|apply ay|apply af)|((with_reducible first|apply bB|apply jE|apply dF);rfl;rfl)|((with_reducible apply di);rfl;rfl;first|assumption|(unfold aN;omega))|((with_reducible apply aO);rfl)|((with_reducible apply ao);rfl;first|rfl|assumption)|((with_reducible apply ah);rfl;first|rfl|assumption)|((with_reducible apply aM);rfl;first|rfl|assumption)|((with_reducible apply aV);rfl)|((with_reducible apply dX);rfl)|((with_reducible apply aR);rfl;rfl;rfl)|((with_reducible apply de);rfl)|((with_reducible apply nM);rfl;intro _)|(refine zzg (f:=bL) rfl rfl hs ?_))
     all_goals
      refine⟨k+1,⟨q,by omega,fun i x hi hx=>?_⟩,Wk.refl _ _ _ (by simp),by omega⟩;rcases AT i k with y|y
      ·exact hall i x y hx
      ·obtain rfl:i=k:=by omega
       rw[hs]at hx;cases hx;exact hg
  ·have q2:decide ((k:Int)≤30)=false:=by simp;omega
   repeat' (first|(refine zzk (n:=vl.length) hlen fun _=>?_)|(with_reducible first|apply ay|apply af)|((with_reducible first|apply bB|apply jE|apply dF);rfl;rfl)|((with_reducible apply aO);rfl)|((with_reducible apply aL);rfl)|((with_reducible apply ah);rfl;first|rfl|assumption)|((with_reducible apply aM);rfl;first|rfl|assumption)|((with_reducible apply aV);rfl)|((with_reducible apply aR);rfl;rfl;rfl)|(refine aA (by kernel_rfl) (hC) ?_)|((with_reducible apply fi);rfl)|(with_reducible intro _))
   all_goals
    refine .pure (by simp) ?_;rw[done (.inr z)];simp only[kE,nX,AV.v.injEq,Value.bool.injEq]at *
    grind
 ·have q1:decide ((k:Int)<vl.length)=false:=by simp;omega
  repeat' (first|(refine zzk (n:=vl.length) hlen fun _=>?_)|(with_reducible first|apply ay|apply af)|((with_reducible first|apply bB|apply dF);rfl;rfl)|((with_reducible apply aO);rfl)|((with_reducible apply aL);rfl)|((with_reducible apply ah);rfl;first|rfl|assumption)|((with_reducible apply aX);rfl;first|rfl|assumption)|((with_reducible apply aV);rfl)|((with_reducible apply aR);rfl;rfl;rfl)|(refine aA (by kernel_rfl) (hC) ?_)|((with_reducible apply fi);rfl)|(with_reducible intro _))
  all_goals
   refine .pure (by simp) ?_;rw[done (.inl q)];simp only[kE,nX,AV.v.injEq,Value.bool.injEq]at *
   grind
end
section
open Go Go.Aw Go.dz Go.ChangeShapes Go.WideShapes Go.ChangeAt Go.RowKit
theorem abd{n:Int}(h:(Lit.int .i64 n).wf=true):aN n:=by
 simp[Lit.wf,IntKind.min,IntKind.max,IntKind.signed,IntKind.bits]at h;unfold aN;omega
theorem Li{F:Nat}{P:Program}{t:TypeId}(ht:P.underlying t=some (.int .i64))(hc:P.cellsOf t=1):ma F P t (fun n:{n:Int // aN n} => [i_ n.1]) (fun _=>1):=by
 intro H enc W fuel cs d ps _ h;obtain⟨n,rfl,e,hn⟩:=DataW.trod_int ht h;simp only[aaZ]at e;obtain⟨rfl,_⟩:=e;exact⟨⟨n,abd hn⟩,by simp,by simp[hc],by simp[Rows.uptoBulk]⟩
theorem P1(F:Nat):ma F p_ 35 (fun x:Int×Int×Int×Int=>[.v (.int .u8 x.1),.v (.int .u8 x.2.1),.v (.int .u8 x.2.2.1),.v (.int .u8 x.2.2.2)]) (fun _=>1):=by
 intro H enc W fuel cs d ps hF h;obtain⟨xs,n,rfl,e1,hl,hn,hf⟩:=DataW.trod_struct Tryz.underlying35 h
 match xs,hn with
 | [y0,y1,y2,y3],_ =>
   have h0:=hf 0 _ rfl;have h1:=hf 1 _ rfl;have h2:=hf 2 _ rfl;have h3:=hf 3 _ rfl;rw[show p_.cellsOf 35=4 by kernel_rfl]at hl
   match cs,hl with
   | [c0,c1,c2,c3],_ =>
     obtain⟨a,r0,_,z0⟩:=lk (F:=n) Tryz.underlying5 (by kernel_rfl) H enc W n _ y0.1 y0.2 (aS _) h0;obtain⟨b,r1,_,z1⟩:=lk (F:=n) Tryz.underlying5 (by kernel_rfl) H enc W n _ y1.1 y1.2 (aS _) h1;obtain⟨c,r2,_,z2⟩:=lk (F:=n) Tryz.underlying5 (by kernel_rfl) H enc W n _ y2.1 y2.2 (aS _) h2;obtain⟨e,r3,_,z3⟩:=lk (F:=n) Tryz.underlying5 (by kernel_rfl) H enc W n _ y3.1 y3.2 (aS _) h3;simp only[aaZ]at e1;obtain⟨rfl,_⟩:=e1;have r0:aI [] (old W) W [.v (.int .u8 a)] [c0]:=r0;have r1:aI [] (old W) W [.v (.int .u8 b)] [c1]:=r1;have r2:aI [] (old W) W [.v (.int .u8 c)] [c2]:=r2;have r3:aI [] (old W) W [.v (.int .u8 e)] [c3]:=r3;refine⟨(a,b,c,e),((r0.append r1).append r2).append r3,by rw[show p_.cellsOf 35=4 by kernel_rfl];rfl, ?_⟩;show 1≤_;rw[Rows.uptoBulk];omega
theorem Wu(F:Nat):ma F p_ 37 (fun v:{v:Vv // aN v.num} => bL v.1) (fun _=>1):=by
 intro H enc W fuel cs d ps hF h;obtain⟨xs,n,rfl,e1,hl,hn,hf⟩:=DataW.trod_struct Tryz.underlying37 h
 match xs,hn with
 | [y0,y1,y2,y3],_ =>
   have h0:=hf 0 _ rfl;have h1:=hf 1 _ rfl;have h2:=hf 2 _ rfl;have h3:=hf 3 _ rfl;rw[show p_.cellsOf 37=7 by kernel_rfl]at hl
   match cs,hl with
   | [c0,c1,c2,c3,c4,c5,c6],_ =>
     obtain⟨k,r0,_,z0⟩:=lk (F:=n) Tryz.underlying5 (by kernel_rfl) H enc W n _ y0.1 y0.2 (aS _) h0;obtain⟨w,r1,_,z1⟩:=oK (F:=n) Tryz.underlying9 (by kernel_rfl) H enc W n _ y1.1 y1.2 (aS _) h1;obtain⟨⟨m,hm⟩,r2,_,z2⟩:=Li (F:=n) Tryz.underlying2 (by kernel_rfl) H enc W n _ y2.1 y2.2 (aS _) h2;obtain⟨⟨a,b,c,e⟩,r3,_,z3⟩:=P1 n H enc W n _ y3.1 y3.2 (aS _) h3;simp only[aaZ]at e1;obtain⟨rfl,_⟩:=e1;have r0:aI [] (old W) W [.v (.int .u8 k)] [c0]:=r0;have r1:aI [] (old W) W [.str w] [c1]:=r1;have r2:aI [] (old W) W [i_ m] [c2]:=r2;have r3:aI [] (old W) W [.v (.int .u8 a),.v (.int .u8 b),.v (.int .u8 c),.v (.int .u8 e)] [c3,c4,c5,c6]:=r3;refine⟨⟨⟨k,w,m,a,b,c,e⟩,hm⟩,((r0.append r1).append r2).append r3,by rw[show p_.cellsOf 37=7 by kernel_rfl];rfl, ?_⟩;show 1≤_;rw[Rows.uptoBulk];omega
theorem P2(F:Nat):ma F p_ 23 (fun l:List {v:Vv // aN v.num} => [.sl 7 (bQ (l.map (·.1)))]) (fun l=>l.length+1):=by
 have a:=si Tryz.underlying23 (by kernel_rfl) (nO (by kernel_rfl)) (Wu F);rw[show p_.cellsOf 37=7 by kernel_rfl]at a;have e:∀l:List {v:Vv // aN v.num},(l.map fun _=>1).sum=l.length:=fun l=>by induction l<;>simp_all<;>omega
 simp only[e]at a;simpa[bQ,Function.comp_def]using a
theorem LG{α:Type}{f:α→Nat}:∀{l:List α} {x:α},x∈l→f x≤(l.map f).sum
 | [],x,h=>by cases h
 | y:: l,x,h=>by
   rw[IF,List.sum_cons];rcases IS.1 h with rfl|h
   ·omega
   ·have:=LG (f:=f) h;omega
theorem LF{α:Type}{f:α→Nat}(hf:∀x,1≤f x):∀(l:List α),l.length≤(l.map f).sum
 | []=>by simp
 | y:: l=>by
   rw[IF,List.sum_cons,aah];have:=LF hf l;have:=hf y;omega
end
section
open Go Go.Aw Go.dz
variable{K:AV→Prop}
theorem J3{len n:Nat}{x i c:AV}{cs:List AV}(ex:x=.agg cs)(ei:i=i_ n)(hn:n<len)(hc:cs[n]?=some c)(q:K c):rS false 1 len x i K:=by
 subst ex;subst ei;refine⟨⟨by omega,by omega⟩, ?_⟩;have hl:=(gE.1 hc).1;simp only[pS,NO,Nat.mul_one];rw[acO hl,(gE.1 hc).2];exact q
theorem ja{len sz id o:Nat}{x i:AV}{n:Nat}(ex:x=.op id o)(ei:i=i_ n)(hn:n<len)(q:K (.op id (o+n*sz))):gM len sz x i K:=by
 subst ex;subst ei;exact⟨⟨by omega,by omega⟩,by simpa using q⟩
def mT(d:Dc):List Int:=[d.kx,d.order,d.w0,d.w1,d.w2]
theorem PX(d:Dc):(mT d).all mf=(mf d.kx&&mf d.order&&mf d.w0&&mf d.w1&&mf d.w2):=by
 simp[mT,Bool.and_assoc]
theorem SI{d:Dc}{k:Nat}{n:Int}(h:(mT d)[k]?=some n)(hn:mf n=false):ko d=8:=by
 refine pF ?_;have:(mT d).all mf=false:=by
  rw[←Bool.not_eq_true,By];intro q;rw[q n (gO h)]at hn;cases hn
 rw[PX]at this;rw[ij,this];simp
theorem Cp(d:Dc)(hz:aW d.value<2^40)(hw:d.whole.length<2^40):aP p_ 71 [.agg (dD d)] (i_ (ko d)):=by
 refine (V71 _).gives (by simp[mH]) (by simp) ?_;unfold W71;have hI:=po d.name;have hV:=mO d.value hz;have hL:=Oe d.whole hw;have hC:=mv (mJ d.whole) d.name (by have:=K4 d.whole;omega);rw[dD]
 by_cases hk:o4 d.name=true
 ·obtain⟨b,e⟩:=sV hk;rw[e]at hI
  by_cases hv:dC d.value=0
  ·have gv:(!decide (dC d.value=0))=false:=by simpa using hv
   by_cases hwh:oO d.name d.whole=true
   ·have tail:∀k n,(mT d)[k]?=some n→mf n=false→ko d=8:=fun k n=>SI
    by_cases h0:d.whole=[]
    ·have g0:(!decide (d.whole=[]))=false:=by simpa using h0
     repeat' (first|(with_reducible first|apply ay|apply af)|((with_reducible apply cZ);rfl;rfl)|((with_reducible apply rY);rfl;rfl)|((with_reducible apply aL);rfl)|((with_reducible apply ah);rfl;first|rfl|assumption)|((with_reducible apply aM);rfl;first|rfl|assumption)|((with_reducible apply aV);rfl)|((with_reducible apply aR);rfl;rfl;rfl)|((with_reducible apply dr);first|rfl|simp)|((with_reducible apply bt);rfl)|((with_reducible apply bl);rfl;rfl)|(refine aA (by kernel_rfl) (hI) ?_)|(refine aA (by kernel_rfl) (hV) ?_)|(refine ja (n:=0) rfl rfl (by omega) ?_)|(refine ja (n:=1) rfl rfl (by omega) ?_)|(refine ja (n:=2) rfl rfl (by omega) ?_))
     refine aU (α:=Nat) (fun k=>k≤5∧∀i n,i<k→(mT d)[i]?=some n→mf n=true) (fun k=>[i_ k]) (fun _=>[.aC ⟨50,[.str d.name,.sl 6 (ar d.value),.str d.whole,b_ d.imp,u1 d.origin,b_ d.Ai,i_ d.kx,i_ d.w0,i_ d.w1,i_ d.w2,i_ d.order],true⟩]) (fun k=>5-k) 0 ⟨by omega,fun i n h=>by omega⟩ (Wk.refl _ _ _ (by simp)) ?_;rintro k ⟨hk5,hall⟩;rcases AT k 5 with q|q
     ·obtain⟨m,hm⟩:∃m,(mT d)[k]?=some m:=⟨(mT d)[k]'(by simpa[mT]using q),dO _⟩;have hm2:([i_ d.kx,i_ d.order,i_ d.w0,i_ d.w1,i_ d.w2]:List AV)[k]?=some (i_ m):=by
       have:([i_ d.kx,i_ d.order,i_ d.w0,i_ d.w1,i_ d.w2]:List AV)=(mT d).map fun n=>i_ n:=rfl;rw[this,lE,hm];rfl
      have q1:decide ((k:Int)<5)=true:=by simp;omega
      have hin:aN ((k:Int)+1):=by unfold aN;omega
      repeat' (first|(with_reducible first|apply ay|apply af)|((with_reducible first|apply bB|apply dF);rfl;rfl)|((with_reducible apply di);rfl;rfl;first|assumption|(unfold aN;omega))|((with_reducible apply aO);rfl)|((with_reducible apply aL);rfl)|((with_reducible apply ao);rfl;first|rfl|assumption)|(refine J3 rfl rfl q hm2 ?_)|((with_reducible apply fQ);rfl)|((with_reducible apply fi);rfl)|(with_reducible intro _))
      all_goals first
       | (refine .pure (by simp) ?_;rw[tail k m hm (by unfold mf;grind)];done)
       | (refine⟨k+1,⟨by omega,fun i n hi hn=>?_⟩,Wk.refl _ _ _ (by simp),by omega⟩
          rcases AT i k with z|z
          ·exact hall i n z hn
          ·obtain rfl:i=k:=by omega
           rw[hm]at hn;cases hn;unfold mf;grind)
     ·obtain rfl:k=5:=by omega
      have n0:=hall 0 _ (by omega) rfl;have n1:=hall 1 _ (by omega) rfl;have n2:=hall 2 _ (by omega) rfl;have n3:=hall 3 _ (by omega) rfl;have n4:=hall 4 _ (by omega) rfl;have q1:decide (((5:Nat):Int)<5)=false:=by simp
      have hok:ij d=((decide (1≤d.origin)&&decide (d.origin≤3))&&(!d.Ai||(decide (d.origin=3)&&decide (d.kx=0)&&(decide (d.w0=0)&&decide (d.w1=0)&&decide (d.w2=0))))):=by
       rw[ij,hk,hwh,n0,n1,n2,n3,n4];simp[hv]
      repeat' (first|(with_reducible first|apply ay|apply af)|((with_reducible first|apply bB|apply dF|apply cZ);rfl;rfl)|((with_reducible apply aO);rfl)|((with_reducible apply aL);rfl)|((with_reducible apply ao);rfl;first|rfl|assumption)|((with_reducible apply ah);rfl;first|rfl|assumption)|((with_reducible apply aM);rfl;first|rfl|assumption)|((with_reducible apply aX);rfl;first|rfl|assumption)|((with_reducible apply iG);rfl)|((with_reducible apply vw);rfl)|((with_reducible apply jT);rfl)|((with_reducible apply aV);rfl)|((with_reducible apply aR);rfl;rfl;rfl)|((with_reducible apply cY);rfl;rfl;first|exact aS _|exact nO rfl)|((with_reducible apply p9);rfl;rfl;rfl)|((with_reducible apply bt);rfl)|((with_reducible apply fQ);rfl)|((with_reducible apply fi);rfl)|(with_reducible intro _))
      all_goals
       refine .pure (by simp) ?_;simp only[AV.v.injEq,Value.int.injEq,true_and,ko,hok]
       grind
    ·have g0:(!decide (d.whole=[]))=true:=by simpa using h0
     unfold oO at hwh;simp only[acL,On,OF,acM,decide_eq_false_iff_not,h0,false_or]at hwh;have gl:mJ d.whole≠[]:=fun h=>by rw[h]at hwh;simp at hwh
     rw[Az,if_neg gl]at hL;have g1:decide (d.name∈mJ d.whole)=true:=by simpa using hwh.1
     have g1n:(!decide (d.name∈mJ d.whole))=false:=by simpa using hwh.1
     have g2:decide (d.whole=d.name)=false:=by simpa using hwh.2
     have hwh2:oO d.name d.whole=true:=by simp[oO,hwh.1,hwh.2]
     have hwh:=hwh2;repeat' (first|(with_reducible first|apply ay|apply af)|((with_reducible apply cZ);rfl;rfl)|((with_reducible first|apply fx|apply rY);rfl;rfl)|((with_reducible apply fJ);rfl)|((with_reducible apply aL);rfl)|((with_reducible apply ao);rfl;first|rfl|assumption)|((with_reducible apply ah);rfl;first|rfl|assumption)|((with_reducible apply aM);rfl;first|rfl|assumption)|((with_reducible apply aV);rfl)|((with_reducible apply aR);rfl;rfl;rfl)|((with_reducible apply dr);first|rfl|simp)|((with_reducible apply bt);rfl)|((with_reducible apply bl);rfl;rfl)|(refine aA (by kernel_rfl) (hI) ?_)|(refine aA (by kernel_rfl) (hV) ?_)|(refine aA (by kernel_rfl) (hL) ?_)|(refine aA (by kernel_rfl) (hC) ?_)|(refine ja (n:=0) rfl rfl (by omega) ?_)|(refine ja (n:=1) rfl rfl (by omega) ?_)|(refine ja (n:=2) rfl rfl (by omega) ?_))
     refine aU (α:=Nat) (fun k=>k≤5∧∀i n,i<k→(mT d)[i]?=some n→mf n=true) (fun k=>[i_ k]) (fun _=>[.aC ⟨50,[.str d.name,.sl 6 (ar d.value),.str d.whole,b_ d.imp,u1 d.origin,b_ d.Ai,i_ d.kx,i_ d.w0,i_ d.w1,i_ d.w2,i_ d.order],true⟩]) (fun k=>5-k) 0 ⟨by omega,fun i n h=>by omega⟩ (Wk.refl _ _ _ (by simp)) ?_;rintro k ⟨hk5,hall⟩;rcases AT k 5 with q|q
     ·obtain⟨m,hm⟩:∃m,(mT d)[k]?=some m:=⟨(mT d)[k]'(by simpa[mT]using q),dO _⟩;have hm2:([i_ d.kx,i_ d.order,i_ d.w0,i_ d.w1,i_ d.w2]:List AV)[k]?=some (i_ m):=by
       have:([i_ d.kx,i_ d.order,i_ d.w0,i_ d.w1,i_ d.w2]:List AV)=(mT d).map fun n=>i_ n:=rfl;rw[this,lE,hm];rfl
      have q1:decide ((k:Int)<5)=true:=by simp;omega
      have hin:aN ((k:Int)+1):=by unfold aN;omega
      repeat' (first|(with_reducible first|apply ay|apply af)|((with_reducible first|apply bB|apply dF);rfl;rfl)|((with_reducible apply di);rfl;rfl;first|assumption|(unfold aN;omega))|((with_reducible apply aO);rfl)|((with_reducible apply aL);rfl)|((with_reducible apply ao);rfl;first|rfl|assumption)|(refine J3 rfl rfl q hm2 ?_)|((with_reducible apply fQ);rfl)|((with_reducible apply fi);rfl)|(with_reducible intro _))
      all_goals first
       | (refine .pure (by simp) ?_;rw[tail k m hm (by unfold mf;grind)];done)
       | (refine⟨k+1,⟨by omega,fun i n hi hn=>?_⟩,Wk.refl _ _ _ (by simp),by omega⟩
          rcases AT i k with z|z
          ·exact hall i n z hn
          ·obtain rfl:i=k:=by omega
           rw[hm]at hn;cases hn;unfold mf;grind)
     ·obtain rfl:k=5:=by omega
      have n0:=hall 0 _ (by omega) rfl;have n1:=hall 1 _ (by omega) rfl;have n2:=hall 2 _ (by omega) rfl;have n3:=hall 3 _ (by omega) rfl;have n4:=hall 4 _ (by omega) rfl;have q1:decide (((5:Nat):Int)<5)=false:=by simp
      have hok:ij d=((decide (1≤d.origin)&&decide (d.origin≤3))&&(!d.Ai||(decide (d.origin=3)&&decide (d.kx=0)&&(decide (d.w0=0)&&decide (d.w1=0)&&decide (d.w2=0))))):=by
       rw[ij,hk,hwh,n0,n1,n2,n3,n4];simp[hv]
      repeat' (first|(with_reducible first|apply ay|apply af)|((with_reducible first|apply bB|apply dF|apply cZ);rfl;rfl)|((with_reducible apply aO);rfl)|((with_reducible apply aL);rfl)|((with_reducible apply ao);rfl;first|rfl|assumption)|((with_reducible apply ah);rfl;first|rfl|assumption)|((with_reducible apply aM);rfl;first|rfl|assumption)|((with_reducible apply aX);rfl;first|rfl|assumption)|((with_reducible apply iG);rfl)|((with_reducible apply vw);rfl)|((with_reducible apply jT);rfl)|((with_reducible apply aV);rfl)|((with_reducible apply aR);rfl;rfl;rfl)|((with_reducible apply cY);rfl;rfl;first|exact aS _|exact nO rfl)|((with_reducible apply p9);rfl;rfl;rfl)|((with_reducible apply bt);rfl)|((with_reducible apply fQ);rfl)|((with_reducible apply fi);rfl)|(with_reducible intro _))
      all_goals
       refine .pure (by simp) ?_;simp only[AV.v.injEq,Value.int.injEq,true_and,ko,hok]
       grind
   ·have hb:ko d=8:=pF (by rw[ij];simp[hwh]);unfold oO at hwh;simp only[acL,On,OF,acM,decide_eq_false_iff_not,not_or,not_and,Classical.not_not]at hwh;obtain⟨h0,h1⟩:=hwh;have g0:(!decide (d.whole=[]))=true:=by simpa using h0
    by_cases gl:mJ d.whole=[]
    ·rw[Az,if_pos gl]at hL;repeat' (first|(with_reducible first|apply ay|apply af)|((with_reducible apply cZ);rfl;rfl)|((with_reducible apply rY);rfl;rfl)|((with_reducible apply aO);rfl)|((with_reducible apply aL);rfl)|((with_reducible apply ao);rfl;first|rfl|assumption)|((with_reducible apply ah);rfl;first|rfl|assumption)|((with_reducible apply aM);rfl;first|rfl|assumption)|((with_reducible apply aX);rfl;first|rfl|assumption)|((with_reducible apply aV);rfl)|((with_reducible apply aR);rfl;rfl;rfl)|((with_reducible apply dr);first|rfl|simp)|((with_reducible apply bl);rfl;rfl)|(refine aA (by kernel_rfl) (hI) ?_)|(refine aA (by kernel_rfl) (hV) ?_)|(refine aA (by kernel_rfl) (hL) ?_))
     exact .pure (by simp) (by rw[hb])
    ·rw[Az,if_neg gl]at hL;repeat' (first|(with_reducible first|apply ay|apply af)|((with_reducible apply cZ);rfl;rfl)|((with_reducible first|apply fx|apply rY);rfl;rfl)|((with_reducible apply fJ);rfl)|((with_reducible apply aO);rfl)|((with_reducible apply aL);rfl)|((with_reducible apply ao);rfl;first|rfl|assumption)|((with_reducible apply ah);rfl;first|rfl|assumption)|((with_reducible apply aM);rfl;first|rfl|assumption)|((with_reducible apply jT);rfl)|((with_reducible apply aV);rfl)|((with_reducible apply aR);rfl;rfl;rfl)|((with_reducible apply dr);first|rfl|simp)|((with_reducible apply bl);rfl;rfl)|(refine aA (by kernel_rfl) (hI) ?_)|(refine aA (by kernel_rfl) (hV) ?_)|(refine aA (by kernel_rfl) (hL) ?_)|(refine aA (by kernel_rfl) (hC) ?_)|((with_reducible apply fQ);rfl)|((with_reducible apply fi);rfl)|(with_reducible intro _))
     all_goals first
      | exact .pure (by simp) (by rw[hb])
      | (exfalso;grind)
  ·have gv:(!decide (dC d.value=0))=true:=by simpa using hv
   have hb:ko d=8:=pF (by rw[ij];simp[hv]);repeat' (first|(with_reducible first|apply ay|apply af)|((with_reducible apply cZ);rfl;rfl)|((with_reducible apply aL);rfl)|((with_reducible apply ao);rfl;first|rfl|assumption)|((with_reducible apply aM);rfl;first|rfl|assumption)|((with_reducible apply aV);rfl)|((with_reducible apply aR);rfl;rfl;rfl)|((with_reducible apply dr);first|rfl|simp)|((with_reducible apply bl);rfl;rfl)|(refine aA (by kernel_rfl) (hI) ?_)|(refine aA (by kernel_rfl) (hV) ?_))
   exact .pure (by simp) (by rw[hb])
 ·have hk:o4 d.name=false:=by simpa using hk
  rw[xe hk]at hI;have hb:ko d=8:=pF (by rw[ij,hk];rfl);repeat' (first|(with_reducible first|apply ay|apply af)|((with_reducible apply cZ);rfl;rfl)|((with_reducible apply aO);rfl)|((with_reducible apply ao);rfl;first|rfl|assumption)|((with_reducible apply aX);rfl;first|rfl|assumption)|((with_reducible apply aV);rfl)|((with_reducible apply aR);rfl;rfl;rfl)|((with_reducible apply dr);first|rfl|simp)|((with_reducible apply bl);rfl;rfl)|(refine aA (by kernel_rfl) (hI) ?_))
  exact .pure (by simp) (by rw[hb])
end
section
open Go Go.Aw
variable [Laid]
def QL(x0:AV)(h:aa)(K:AV→aa→Prop):Prop:=
 br 50 x0 h fun a m=>br 231 (.agg [(i_ 0),(i_ 0),(i_ 0),(i_ 0),(i_ 0),(i_ 0),(i_ 0)]) m fun d c=>iFL 4 false 1 a c fun n=>gZ .i64 n fun o=>iFL 6 false 1 a c fun p=>bh 7 a fun q=>gM 3 1 q (i_ 0) fun r=>ag false 1 r c fun s=>bh 7 a fun t=>gM 3 1 t (i_ 1) fun u=>ag false 1 u c fun v=>bh 7 a fun w=>gM 3 1 w (i_ 2) fun x=>ag false 1 x c fun y=>iFL 10 false 1 a c fun z=>aY (.agg [(i_ 0),(i_ 0),(i_ 0),(i_ 0),(i_ 0),(i_ 0),(i_ 0)]) [(0,1,o),(1,1,(i_ 0)),(2,1,p),(3,1,s),(4,1,v),(5,1,y),(6,1,z)] fun A=>br 231 (.agg [(i_ 0),(i_ 0),(i_ 0),(i_ 0),(i_ 0),(i_ 0),(i_ 0)]) c fun b B=>aE 7 b A B fun f=>aB (fun g=>iFL 5 false 1 a f fun C=>ae C (gM 7 1 b (i_ 1) fun D=>aE 1 D (i_ 1) f fun E=>eC [a,d,b] (g [] E)) (eC [a,d,b] (g [] f))) fun Q e=>aB (fun i=>iFL 3 false 1 a e fun F=>ae F (iFL 4 false 1 a e fun G=>gZ .i64 G fun H=>ab .sub (i_ 7) H fun I=>gM 7 1 b (i_ 0) fun J=>aE 1 J I e fun j=>iFL 6 false 1 a j fun L=>ab .sub (i_ 1000000) L fun M=>gM 7 1 b (i_ 2) fun N=>aE 1 N M j fun O=>eC [d,b] (i [] O)) (eC [d,b] (i [] e))) fun R k=>ag true 7 b k fun P=>aE 7 d P k fun l=>ag true 7 d l fun r50=>K r50 l
theorem Xz(x0:AV):Body p_ 137 [x0] (QL x0):=mkB Tryz.func137 (sn (sn (.join [1,2,3] [] .nil (.join [2,3] [] .nil .nil)))) 36 [.cell 2 231] (by kernel_rfl) fun _ _=>by kernel_rfl
def YF(x0 x1:AV)(h:aa)(K:AV→aa→Prop):Prop:=
 br 50 x0 h fun d e=>br 50 x1 e fun f a=>ag true 11 d a fun g=>jO p_ (.fn (.func 137) [] []) [g] a fun i=>ag true 11 f a fun j=>jO p_ (.fn (.func 137) [] []) [j] a fun k=>(fun (l:aa)=>aE 7 (AV.op (a.length+2+0) 0) i l fun m=>aE 7 (AV.op (a.length+2+1) 0) k m fun n=>bJ [(i_ 0)] n fun o c b =>
 ab .lss (nx c 0) (i_ 7) fun p=>ae p (gM 7 1 (AV.op (a.length+2+0) 0) (nx c 0) fun q=>ag false 1 q b fun r=>gM 7 1 (AV.op (a.length+2+1) 0) (nx c 0) fun s=>ag false 1 s b fun t=>ab .neq r t fun u=>ae u (gM 7 1 (AV.op (a.length+2+0) 0) (nx c 0) fun v=>ag false 1 v b fun w=>gM 7 1 (AV.op (a.length+2+1) 0) (nx c 0) fun x=>ag false 1 x b fun y=>ab .lss w y fun z=>K z b) (ab .add (nx c 0) (i_ 1) fun A=>eC [(AV.op (a.length+2+0) 0),(AV.op (a.length+2+1) 0)] (o [A] b))) (K ff b)) (a++[.dead,.dead]++[.aC ⟨231,[(i_ 0),(i_ 0),(i_ 0),(i_ 0),(i_ 0),(i_ 0),(i_ 0)],true⟩,.aC ⟨231,[(i_ 0),(i_ 0),(i_ 0),(i_ 0),(i_ 0),(i_ 0),(i_ 0)],true⟩])
theorem V93(x0 x1:AV):Body p_ 93 [x0,x1] (YF x0 x1):=mkB Tryz.func93 (sn (.seq (.MC 6 [4,5] (fR 0 6) (oR 6 2 []) []) (.seq (sn (.one (.loop [5,6] [7] (sn (.seq (.one (.seq (.draw 7 (oR 0 7 []) [] []) (.two (.seq (.draw 8 (oR 0 8 []) [] []) .nil) .nil))) .nil))))) .nil))) 30 [.tmp 4] (by kernel_rfl) fun _ _=>by kernel_rfl
end
section
open Go Go.Aw Go.dz
variable{K:AV→Prop}{l:List Dc}
theorem JI(d:Dc)(hz:aW d.value<2^39)(hw:d.whole.length<2^40):aP p_ 92 [.agg (dD d)] (i_ (ko d)):=by
 refine (V92 _).gives (by simp[mH]) (by simp) ?_;unfold W92;have hI:=vG d.name;have hV:=Ap d.value hz;have hW:=Oy d.name d.value d.whole hw;rw[dD]
 by_cases hk:o4 d.name=true
 ·obtain⟨b,e⟩:=sV hk;rw[e]at hI
  by_cases hv:dC d.value=0
  ·have gv:(!decide (dC d.value=0))=false:=by simpa using hv
   cases hwh:oO d.name d.whole with
   | true =>
     rw[hwh]at hW;have hok:ij d=((mf d.kx&&mf d.order&&mf d.w0&&mf d.w1&&mf d.w2)&&(decide (1≤d.origin)&&decide (d.origin≤3))&&(!d.Ai||(decide (d.origin=3)&&decide (d.kx=0)&&(decide (d.w0=0)&&decide (d.w1=0)&&decide (d.w2=0))))):=by
      rw[ij,hk,hwh];simp[hv]
     repeat' (first|(with_reducible first|apply ay|apply af)|((with_reducible first|apply bB|apply dF|apply cZ);rfl;rfl)|((with_reducible apply fJ);rfl)|((with_reducible apply aO);rfl)|((with_reducible apply aL);rfl)|((with_reducible apply ao);rfl;first|rfl|assumption)|((with_reducible apply ah);rfl;first|rfl|assumption)|((with_reducible apply aM);rfl;first|rfl|assumption)|((with_reducible apply aX);rfl;first|rfl|assumption)|((with_reducible apply iG);rfl)|((with_reducible apply vw);rfl)|((with_reducible apply jT);rfl)|((with_reducible apply aV);rfl)|((with_reducible apply aR);rfl;rfl;rfl)|((with_reducible apply cY);rfl;rfl;first|exact aS _|exact nO rfl)|((with_reducible apply p9);rfl;rfl;rfl)|((with_reducible apply dr);first|rfl|simp)|((with_reducible apply bt);rfl)|((with_reducible apply bl);rfl;rfl)|(refine aA (by kernel_rfl) (hI) ?_)|(refine aA (by kernel_rfl) (hV) ?_)|(refine aA (by kernel_rfl) (hW) ?_)|(refine aA (by kernel_rfl) (yA d.kx) ?_)|(refine aA (by kernel_rfl) (yA d.order) ?_)|(refine aA (by kernel_rfl) (yA d.w0) ?_)|(refine aA (by kernel_rfl) (yA d.w1) ?_)|(refine aA (by kernel_rfl) (yA d.w2) ?_)|(refine ja (n:=0) rfl rfl (by omega) ?_)|(refine ja (n:=1) rfl rfl (by omega) ?_)|(refine ja (n:=2) rfl rfl (by omega) ?_)|((with_reducible apply fQ);rfl)|((with_reducible apply fi);rfl)|(with_reducible intro _))
     all_goals
      refine .pure (by simp) ?_;simp only[AV.v.injEq,Value.int.injEq,true_and,ko,hok]
      grind
   | false =>
     rw[hwh]at hW;have hb:ko d=8:=pF (by rw[ij,hwh];simp);repeat' (first|(with_reducible first|apply ay|apply af)|((with_reducible apply cZ);rfl;rfl)|((with_reducible apply fJ);rfl)|((with_reducible apply aL);rfl)|((with_reducible apply ao);rfl;first|rfl|assumption)|((with_reducible apply aM);rfl;first|rfl|assumption)|((with_reducible apply aV);rfl)|((with_reducible apply aR);rfl;rfl;rfl)|((with_reducible apply cY);rfl;rfl;first|exact aS _|exact nO rfl)|((with_reducible apply dr);first|rfl|simp)|((with_reducible apply bl);rfl;rfl)|(refine aA (by kernel_rfl) (hI) ?_)|(refine aA (by kernel_rfl) (hV) ?_)|(refine aA (by kernel_rfl) (hW) ?_))
     exact .pure (by simp) (by rw[hb])
  ·have gv:(!decide (dC d.value=0))=true:=by simpa using hv
   have hb:ko d=8:=pF (by rw[ij];simp[hv]);repeat' (first|(with_reducible first|apply ay|apply af)|((with_reducible apply cZ);rfl;rfl)|((with_reducible apply aO);rfl)|((with_reducible apply aL);rfl)|((with_reducible apply ao);rfl;first|rfl|assumption)|((with_reducible apply aM);rfl;first|rfl|assumption)|((with_reducible apply aX);rfl;first|rfl|assumption)|((with_reducible apply aV);rfl)|((with_reducible apply aR);rfl;rfl;rfl)|((with_reducible apply dr);first|rfl|simp)|((with_reducible apply bl);rfl;rfl)|(refine aA (by kernel_rfl) (hI) ?_)|(refine aA (by kernel_rfl) (hV) ?_))
   exact .pure (by simp) (by rw[hb])
 ·have hk:o4 d.name=false:=by simpa using hk
  rw[xe hk]at hI;have hb:ko d=8:=pF (by rw[ij,hk];rfl);repeat' (first|(with_reducible first|apply ay|apply af)|((with_reducible apply cZ);rfl;rfl)|((with_reducible apply aO);rfl)|((with_reducible apply ao);rfl;first|rfl|assumption)|((with_reducible apply aX);rfl;first|rfl|assumption)|((with_reducible apply aV);rfl)|((with_reducible apply aR);rfl;rfl;rfl)|((with_reducible apply dr);first|rfl|simp)|((with_reducible apply bl);rfl;rfl)|(refine aA (by kernel_rfl) (hI) ?_))
  exact .pure (by simp) (by rw[hb])
/-! ### Ranks -/
def gA(d:Dc):List Int:=[if d.imp then 7-d.origin else d.origin,if d.Ai then 1 else 0,if d.imp then 1000000-d.kx else d.kx,d.w0,d.w1,d.w2,d.order]
def zq(l:List Int):List (List AV):=l.map fun n=>[i_ n]
def Uj(d:Dc):AV:=.sl 1 (zq (gA d))
theorem BM:∀l:List Int,du (zq l)
 | []=>by simp[zq,du]
 | n:: l=>by have:=BM l;unfold zq at this ⊢;simp only[IF,du];exact⟨by simp,this⟩
theorem SS(d:Dc):Aw.Pure (Uj d):=by unfold Uj;rw[Aw.Pure];exact BM _
def rkA(d:Dc):AV:=.agg ((gA d).map fun n=>i_ n)
theorem J2{k k':IntKind}{x:AV}{n m:Int}(e:x=.v (.int k' n))(hm:k.wrap n=m)(q:K (.v (.int k m))):gZ k x K:=by subst hm;exact⟨k',n,e,q⟩
theorem LO{n:Int}(h:aN n):IntKind.i64.wrap n=n:=by rw[IntKind.wrap_i64];unfold aN at h;omega
theorem PY{d:Dc}(h:ij d=true):aN d.origin∧aN (7-d.origin)∧aN (1000000-d.kx):=by
 unfold ij mf at h;simp only[On,OF]at h;unfold aN;omega
theorem HQ(d:Dc)(h:ij d=true):aP p_ 156 [.agg (dD d)] (Uj d):=by
 refine (aej _).gives (by simp[mH]) (SS d) ?_;unfold Yd;obtain⟨s0,s1,s2⟩:=PY h;have hw:=LO s0;rw[dD];cases hi:d.imp<;>cases ha:d.Ai;all_goals
  repeat' (first|(with_reducible first|apply ay|apply af)|((with_reducible apply yc);rfl;rfl;first|assumption|(unfold aN;omega))|((with_reducible apply ao);rfl;first|rfl|assumption)|((with_reducible apply ah);rfl;first|rfl|assumption)|((with_reducible apply aV);rfl)|((with_reducible apply aR);rfl;rfl;rfl)|((with_reducible apply dr);first|rfl|simp)|(refine J2 rfl hw ?_)|(refine ja (n:=0) rfl rfl (by omega) ?_)|(refine ja (n:=1) rfl rfl (by omega) ?_)|(refine ja (n:=2) rfl rfl (by omega) ?_)|(refine cN rfl ?_))
  exact .pure (by simp[chunks,dw,iq]) (by simp[Uj,zq,gA,hi,ha,chunks,dw,iq])
theorem Cl(d:Dc)(h:ij d=true):aP p_ 137 [.agg (dD d)] (rkA d):=by
 refine (Xz _).gives (by simp[mH]) (by simp[rkA,gA]) ?_;unfold QL;obtain⟨s0,s1,s2⟩:=PY h;have hw:=LO s0;rw[dD];cases hi:d.imp<;>cases ha:d.Ai;all_goals
  repeat' (first|(with_reducible first|apply ay|apply af)|((with_reducible apply yc);rfl;rfl;first|assumption|(unfold aN;omega))|((with_reducible apply ao);rfl;first|rfl|assumption)|((with_reducible apply ah);rfl;first|rfl|assumption)|((with_reducible apply aV);rfl)|((with_reducible apply aR);rfl;rfl;rfl)|((with_reducible apply cY);rfl;rfl;first|exact aS _|exact nO rfl)|((with_reducible apply dr);first|rfl|simp)|((with_reducible apply eS);rfl;rfl;rfl;rfl;(first|exact aS _|simp);(first|rfl|simp);(first|rfl|simp))|((with_reducible apply bt);rfl)|(refine J2 rfl hw ?_)|(refine ja (n:=0) rfl rfl (by omega) ?_)|(refine ja (n:=1) rfl rfl (by omega) ?_)|(refine ja (n:=2) rfl rfl (by omega) ?_))
  exact .pure (by simp[dw]) (by simp[rkA,gA,hi,ha,dw])
/-! ### Comparing -/
def kf(a b:Int):Int:=if a<b then -1 else if b<a then 1 else 0
theorem Kj(n:Int):aP p_ 229 [i_ n] (b_ false):=by
 refine (aeH _).gives (by simp) (by simp) ?_;unfold YC;simp;exact .pure (by simp) rfl
theorem UU(a b:Int):aP p_ 193 [i_ a,i_ b] (i_ (kf a b)):=by
 refine (aeB _ _).gives (by simp) (by simp) ?_;unfold Yv;refine aA (by kernel_rfl) (Kj a) (aA (by kernel_rfl) (Kj b) ?_);simp;exact⟨fun h=>.pure (by simp) (by unfold kf;rw[if_pos h]),fun h=>⟨fun h2=>.pure (by simp) (by unfold kf;rw[if_neg (by omega),if_pos h2]),fun h2=>.pure (by simp) (by unfold kf;rw[if_neg (by omega),if_neg (by omega)])⟩⟩
def iK:List Int→List Int→Int
 | a:: xs,b:: ys=>if kf a b=0 then iK xs ys else kf a b
 | _,_=>0
theorem F6{a b:List Int}{k:Nat}{x y:Int}(h1:a[k]?=some x)(h2:b[k]?=some y):iK (a.drop k) (b.drop k)=if kf x y=0 then iK (a.drop (k+1)) (b.drop (k+1)) else kf x y:=by
 rw[acO (gE.1 h1).1,acO (gE.1 h2).1,iK,(gE.1 h1).2,(gE.1 h2).2]
theorem UX(a b:List Int)(hl:b.length=a.length)(hn:a.length<2^40):aP p_ 155 [.sl 1 (zq a),.sl 1 (zq b)] (i_ (iK a b)):=by
 refine (aei _ _).gives (by simp[BM]) (by simp) ?_;unfold Yc;refine dg (n:=a.length) rfl (by simp[zq]) fun _=>?_;refine aU (α:=Nat) (fun k=>k≤a.length∧iK a b=iK (a.drop k) (b.drop k)) (fun k=>[i_ k]) (fun _=>[]) (fun k=>a.length-k) 0 (by simp) (Wk.refl _ _ _ (by simp)) ?_;rintro k ⟨hk,hf⟩;refine bB rfl rfl ?_;rcases AT k a.length with q|q
 ·obtain⟨x,hx⟩:∃x,a[k]?=some x:=⟨a[k],dO q⟩;obtain⟨y,hy⟩:∃x,b[k]?=some x:=⟨b[k]'(by omega),dO _⟩;have e:=F6 hx hy;refine ao rfl (by simpa using q) ?_;refine dm (f:=fun n=>[i_ n]) rfl rfl rfl hx (de rfl ?_);refine dg (n:=b.length) rfl (by simp[zq]) fun _=>?_;refine iy rfl rfl ?_;refine ah rfl (by simp;omega) ?_;refine dm (f:=fun n=>[i_ n]) rfl rfl rfl hy (de rfl ?_);refine bK rfl (by kernel_rfl) (UU x y) ?_;refine cZ rfl rfl ?_;refine fQ rfl (fun hc=>?_) (fun hc=>?_)
  ·rw[if_neg (by simpa using hc)]at e;exact .pure (by simp) (by rw[hf,e])
  ·rw[if_pos (by simpa using hc)]at e;refine di rfl rfl (by unfold aN;omega) ?_;refine af ?_;exact⟨k+1,⟨q,by rw[hf,e]⟩,Wk.refl _ _ _ (by simp),by omega⟩
 ·have hk:k=a.length:=by omega
  subst hk;rw[List.drop_length]at hf;have hf:iK a b=0:=hf;refine ah rfl (by simp) ?_;refine dg (n:=a.length) rfl (by simp[zq]) fun _=>?_;refine dg (n:=b.length) rfl (by simp[zq]) fun _=>?_;refine bB rfl rfl ?_;refine ah rfl (by simp[hl]) ?_;exact .pure (by simp) (by rw[hf])
theorem xF:∀(b p a r:List AV),a.length=b.length→dw (p++(a++r)) p.length b=p++(b++r)
 | [],p,a,r,h=>by simp at h;subst h;rfl
 | c:: b,p,x:: a,r,h=>by
   rw[dw];have e:(p++(x:: a++r)).set p.length c=(p++[c])++(a++r):=by simp
   have:=xF b (p++[c]) a r (by simpa using h);rw[e,show p.length+1=(p++[c]).length by simp,this];simp
theorem UF{sz:Nat}{z v w:AV}{a b:List AV}(hv:bc v=a)(hw:bc w=b)(la:a.length=sz)(lb:b.length=sz)(hz:(bc z).length=sz)(sa:a.all dH=true)(sb:b.all dH=true)(q:K (.sl sz [a,b])):bH 2 sz z [(0,sz,v),(sz,sz,w)] K:=by
 subst hv;subst hw;have e1:dw (bc z++bc z) 0 (bc v)=bc v++bc z:=by
  have:=xF (bc v) [] (bc z) (bc z) (by omega);simpa using this
 have e2:dw (bc v++bc z) sz (bc w)=bc v++bc w:=by
  have:=xF (bc w) (bc v) (bc z) [] (by omega);rw[la]at this;simpa using this
 have:iA (iq 2 (bc z)) [(0,sz,v),(sz,sz,w)]=some (bc v++bc w):=by
  simp only[iA,iq,aa1];rw[if_pos ⟨la,by rw[DO];omega,sa⟩,e1,if_pos ⟨lb,by rw[DO];omega,sb⟩,e2]
 unfold bH;rw[this];have e3:chunks sz 2 (bc v++bc w)=[bc v,bc w]:=by
  simp only[chunks];rw[acS (by omega),Of (by omega),List.drop_append_of_le_length (by omega),List.drop_of_length_le (by omega),List.nil_append,Of (by omega)]
 simp only;rw[e3];exact q
theorem JD(a b:Dc)(ha:ij a=true)(hb:ij b=true):aP p_ 111 [.agg (dD a),.agg (dD b)] (i_ (iK (gA a) (gA b))):=by
 refine (adU _ _).gives (by simp[mH]) (by simp) ?_;unfold XO;have h1:=HQ a ha;have h2:=HQ b hb;have h3:=UX (gA a) (gA b) rfl (by simp[gA]);rw[dD]at h1 h2 ⊢;rw[dD];repeat' (first|((with_reducible apply cY);rfl;rfl;first|exact aS _|exact nO rfl)|((with_reducible apply dr);first|rfl|simp)|(refine ig rfl (by kernel_rfl) h1 ?_)|(refine ig rfl (by kernel_rfl) h2 ?_)|(refine ig rfl (by kernel_rfl) h3 ?_))
 exact .pure (by simp) rfl
/-! ### Lists -/
def kS(d:Dc):Prop:=aW d.value<2^39∧d.name.length<2^39∧d.whole.length<2^39
def cy(l:List Dc):List (List AV):=l.map dD
theorem fp:∀l,du (cy l)
 | []=>by simp[cy,du]
 | d:: l=>by have:=fp l;unfold cy at this ⊢;simp only[IF,du];exact⟨mH d,this⟩
def eL(l:List Dc):Int:=if l.all ij then 0 else 8
theorem OO{k:Nat}{d:Dc}(h:l[k]?=some d)(hd:ij d=false):eL l=8:=by
 unfold eL;rw[if_neg];intro q;rw[By.1 q d (gO h)]at hd;cases hd
theorem Ol(l:List Dc)(hs:∀d∈l,kS d)(hl:l.length<2^40):aP p_ 110 [.sl 11 (cy l)] (i_ (eL l)):=by
 refine (adT _).gives (by simp[fp]) (by simp) ?_;unfold XN;refine dg (n:=l.length) rfl (by simp[cy]) fun _=>?_;refine aU (α:=Nat) (fun k=>k≤l.length∧(l.take k).all ij=true) (fun k=>[i_ k]) (fun _=>[]) (fun k=>l.length-k) 0 (by simp) (Wk.refl _ _ _ (by simp)) ?_;rintro k ⟨hk,hf⟩;refine bB rfl rfl ?_;rcases AT k l.length with q|q
 ·obtain⟨d,hd⟩:∃x,l[k]?=some x:=⟨l[k],dO q⟩;obtain⟨z1,z2,z3⟩:=hs d (gO hd);have hC:=Cp d (by omega) (by omega);refine ao rfl (by simpa using q) ?_;refine dm (f:=dD) rfl rfl rfl hd ?_;refine dV rfl (by simp[dD]) ?_;refine dr rfl (eS (cs:=dD d) rfl rfl rfl rfl (aS _) rfl rfl (cY rfl rfl (aS _) ?_));refine bK rfl (by kernel_rfl) hC ?_;refine cZ rfl rfl ?_;cases ho:ij d with
  | true =>
    refine ah rfl (by simp[ko,ho]) ?_;refine di rfl rfl (by unfold aN;omega) ?_;refine af ?_;exact⟨k+1,⟨q,by rw[Gt,hd,List.all_append,hf];simp[ho]⟩,Wk.back (M:=0) (by simp) (by simp) rfl rfl (by simp) (by simp[Bd]),by omega⟩
  | false =>
    refine ao rfl (by simp[ko,ho]) ?_;exact .pure (by simp) (by rw[OO hd ho,ko,ho];rfl)
 ·have hk:k=l.length:=by omega
  subst hk;rw[GO]at hf;refine ah rfl (by simp) ?_;exact .pure (by simp) (by unfold eL;rw[if_pos hf])
theorem UT(l:List Dc)(hs:∀d∈l,kS d)(hl:l.length<2^40):aP p_ 50 [.sl 11 (cy l)] (i_ (eL l)):=by
 refine (V50 _).gives (by simp[fp]) (by simp) ?_;unfold W50;refine aU (α:=Nat) (fun k=>k≤l.length∧(l.take k).all ij=true) (fun k=>[i_ k]) (fun _=>[]) (fun k=>l.length-k) 0 (by simp) (Wk.refl _ _ _ (by simp)) ?_;rintro k ⟨hk,hf⟩;refine dg (n:=l.length) rfl (by simp[cy]) fun _=>?_;refine bB rfl rfl ?_;rcases AT k l.length with q|q
 ·obtain⟨d,hd⟩:∃x,l[k]?=some x:=⟨l[k],dO q⟩;obtain⟨z1,z2,z3⟩:=hs d (gO hd);have hC:=JI d (by omega) (by omega);refine ao rfl (by simpa using q) ?_;refine dm (f:=dD) rfl rfl rfl hd ?_;refine dV rfl (by simp[dD]) ?_;refine bK rfl (by kernel_rfl) hC ?_;refine cZ rfl rfl ?_;cases ho:ij d with
  | true =>
    refine ah rfl (by simp[ko,ho]) ?_;refine di rfl rfl (by unfold aN;omega) ?_;refine af ?_;exact⟨k+1,⟨q,by rw[Gt,hd,List.all_append,hf];simp[ho]⟩,Wk.refl _ _ _ (by simp),by omega⟩
  | false =>
    refine ao rfl (by simp[ko,ho]) ?_;exact .pure (by simp) (by rw[OO hd ho,ko,ho];rfl)
 ·have hk:k=l.length:=by omega
  subst hk;rw[GO]at hf;refine ah rfl (by simp) ?_;exact .pure (by simp) (by unfold eL;rw[if_pos hf])
/-! ### One before another -/
theorem Q0(a b:Dc)(ha:ij a=true)(hb:ij b=true):aP p_ 93 [.agg (dD a),.agg (dD b)] (b_ (decide (iK (gA a) (gA b)<0))):=by
 refine (V93 _ _).gives (by simp[mH]) (by simp) ?_;unfold YF;have h1:=Cl a ha;have h2:=Cl b hb;rw[dD]at h1 h2 ⊢;rw[dD];refine dr rfl (dr rfl (cY rfl rfl (aS _) ?_));refine sw rfl (by kernel_rfl) h1 ?_;refine cY rfl rfl (aS _) ?_;refine sw rfl (by kernel_rfl) h2 ?_;refine cf (h':=[_,_,_,_,_,_]) (id:=4) (o:=0) (cs:=(gA a).map fun n=>i_ n) rfl rfl rfl rfl (aS _) rfl rfl rfl (cf (h':=[_,_,_,_,_,_]) (id:=5) (o:=0) (cs:=(gA b).map fun n=>i_ n) rfl rfl rfl rfl (aS _) rfl rfl rfl ?_);refine aU (α:=Nat) (fun k=>k≤7∧iK (gA a) (gA b)=iK ((gA a).drop k) ((gA b).drop k)) (fun k=>[i_ k]) (fun _=>_) (fun k=>7-k) 0 ⟨by omega,rfl⟩ (Wk.refl _ _ _ (by simp)) ?_;rintro k ⟨hk,hf⟩;refine bB rfl rfl ?_;rcases AT k 7 with q|q
 ·obtain⟨x,hx⟩:∃x,(gA a)[k]?=some x:=⟨(gA a)[k]'(by simpa[gA]using q),dO _⟩;obtain⟨y,hy⟩:∃x,(gA b)[k]?=some x:=⟨(gA b)[k]'(by simpa[gA]using q),dO _⟩;have e:=F6 hx hy;have ex:((gA a).map fun n=>i_ n)[0+k*1]?=some (i_ x):=by rw[acu,Nat.mul_one,lE,hx];rfl
  have ey:((gA b).map fun n=>i_ n)[0+k*1]?=some (i_ y):=by rw[acu,Nat.mul_one,lE,hy];rfl
  refine ao rfl (by simp;omega) ?_;refine ja (id:=4) (o:=0) rfl rfl q (aR rfl rfl ex (ja (id:=5) (o:=0) rfl rfl q (aR rfl rfl ey (cZ rfl rfl ?_))));refine fQ rfl (fun hc=>?_) (fun hc=>?_)
  ·refine ja (id:=4) (o:=0) rfl rfl q (aR rfl rfl ex (ja (id:=5) (o:=0) rfl rfl q (aR rfl rfl ey (bB rfl rfl ?_))));refine .pure (by simp) ?_;have hc:x≠y:=by simpa using hc
   have e0:kf x y≠0:=by unfold kf;split<;>(try split)<;>omega
   rw[if_neg e0]at e;rw[hf,e];simp only[AV.v.injEq,Value.bool.injEq,decide_eq_decide];unfold kf;split<;>(try split)<;>omega
  ·have hc:x=y:=by simpa using hc
   subst hc;rw[if_pos (by simp[kf])]at e;refine di rfl rfl (by unfold aN;omega) ?_;refine af ?_;exact⟨k+1,⟨by omega,by rw[hf,e]⟩,Wk.refl _ _ _ (by simp),by omega⟩
 ·obtain rfl:k=7:=by omega
  have hf:iK (gA a) (gA b)=0:=hf;refine ah rfl (by simp) ?_;exact .pure (by simp) (by rw[hf];rfl)
def Ec(a b:Dc):AV:=if eL [a,b]=0 then .aF [b_ (decide (iK (gA a) (gA b)<0)),i_ 0] else .aF [ff,i_ 8]
theorem N6(a b:Dc):Aw.Pure (Ec a b):=by unfold Ec;split<;>simp
theorem Ze{a b:Dc}(h:eL [a,b]=0):ij a=true∧ij b=true:=by
 unfold eL at h;split at h
 ·rename_i q;simpa using q
 ·cases h
theorem Zd(h:eL l≠0):eL l=8:=by
 unfold eL at h ⊢;split
 ·rename_i q;rw[if_pos q]at h;exact absurd rfl h
 ·rfl
theorem Ma(a b:Dc)(ha:kS a)(hb:kS b):aP p_ 72 [.agg (dD a),.agg (dD b)] (Ec a b):=by
 refine (V72 _ _).gives (by simp[mH]) (N6 a b) ?_;unfold W72;have hc:=Ol [a,b] (by simp;exact⟨ha,hb⟩) (by simp);refine dr rfl (dr rfl (cY rfl rfl (aS _) (cY rfl rfl (aS _) (UF (a:=dD a) (b:=dD b) rfl rfl rfl rfl rfl rfl rfl ?_))));refine bK rfl (by kernel_rfl) hc ?_;refine cZ rfl rfl ?_;unfold Ec
 by_cases h0:eL [a,b]=0
 ·obtain⟨o1,o2⟩:=Ze h0;refine ah rfl (by simp[h0]) ?_;refine cY rfl rfl (aS _) (cY rfl rfl (aS _) ?_);refine bK rfl (by kernel_rfl) (JD a b o1 o2) ?_;refine bB rfl rfl ?_;exact .pure (by simp) (by rw[if_pos h0])
 ·refine ao rfl (by simp[h0]) ?_;exact .pure (by simp) (by rw[if_neg h0,Zd h0])
end
section
open Go Go.Aw Go.dz Go.ChangeShapes Go.WideShapes Go.ChangeAt Go.RowKit
theorem Jp{α:Type}{f:α→Nat}:∀{l:List α} {x:α},x∈l→f x≤(l.map f).sum
 | [],x,h=>by cases h
 | y:: l,x,h=>by
   rw[IF,List.sum_cons];rcases IS.1 h with rfl|h
   ·omega
   ·have:=Jp (f:=f) h;omega
theorem Jo{α:Type}{f:α→Nat}(hf:∀x,1≤f x):∀(l:List α),l.length≤(l.map f).sum
 | []=>by simp
 | y:: l=>by
   rw[IF,List.sum_cons,aah];have:=Jo hf l;have:=hf y;omega
end
end Go.Proofs.YtldpambpnajgiaaGreatDoor
namespace Go.Aw
section
open Go Go.RowKit
variable{p:Nat→Prop}
theorem IG(h:∃k,p k):∃k,p k∧∀j,p j→k≤j:=by
 obtain⟨k,hk⟩:=h;induction k using Nat.strongRecOn with
 | _ k ih =>
   by_cases q:∃j,j<k∧p j
   ·obtain⟨j,hj,pj⟩:=q;exact ih j hj pj
   ·exact⟨k,hk,fun j pj=>Nat.le_of_not_lt fun z=>q ⟨j,z,pj⟩⟩
open Classical in
def Du(p:Nat→Prop):Nat:=if h:∃k,p k then Classical.choose (IG h) else 0
theorem Ay(h:∃k,p k):p (Du p)∧∀j,p j→Du p≤j:=by
 unfold Du;rw[dif_pos h];exact Classical.choose_spec (IG h)
theorem GD{P:Program}{a:Act}{w:World}{Q:Exit→Act→World→Prop}{c rest:Code}(l:Nat)(J:Nat→Act→World→Prop)(hf:findLabel c l=some rest)(first:c.wp P (Exit.jump l (fun a w=>∃k,J k a w) Q) a w)
 (pass:∀k a w,J k a w→rest.wp P (Exit.jump l (fun a' w' => ∃k',k'<k∧J k' a' w') Q) a w):(Code.scope c).wp P Q a w:=by
 refine wp_scope_jumps l (fun a w=>∃k,J k a w) (fun a w=>Du fun k=>J k a w) hf first fun a w h=>?_
 obtain⟨h1,h2⟩:=Ay h;refine wp_mono (pass _ a w h1) fun e a' w' z=>?_;cases e with
 | goto l' =>
   obtain⟨rfl,k',hk,hJ⟩:=z;exact⟨rfl,⟨k',hJ⟩,acy ((Ay (p:=fun k=>J k a' w') ⟨k',hJ⟩).2 k' hJ) hk⟩
 | normal=>exact z
 | exit id=>exact z
 | ret=>exact z
 | panic ch=>exact z
 | outgrown=>exact z
section
variable [Laid]
variable {P:Program} {call:aZ} {own:Nat→Nat→Bool} {n F:Nat}
end
end
end Go.Aw
end
