/-
 The reference's product of two numbers: its words,over any program (the seat's own words are unfolded to these).
 No conditions.
-/
import Derived.Test.YtldpambpnajgiaaGreatDoorProg
import Derived.KernelRfl
import Derived.Test.YtldpambpnajgiaaGreatDoorZj
import Derived.Test.YtldpambpnajgiaaGreatDoorZg
import Derived.Test.YtldpambpnajgiaaGreatDoorZd
import Derived.Test.YtldpambpnajgiaaGreatDoorZh
import Derived.Test.YtldpambpnajgiaaGreatDoorZe
import Derived.Test.YtldpambpnajgiaaGreatDoorZf
set_option linter.unusedVariables false
set_option linter.unusedSimpArgs false
set_option linter.unusedSectionVars false
set_option maxRecDepth 1000000
set_option maxHeartbeats 16000000
open Go.Proofs.Tryz renaming prog→p_
noncomputable section
namespace Go.Proofs.YtldpambpnajgiaaGreatDoor
section
open Go Go.Aw Go.dz Go.jC
def M8(n:Int):Int:=max (-1000000000000) (min 1000000000000 n)
theorem YR{x y:AV}{a b c:Int}{K:AV→Prop}(ex:x=i_ a)(ey:y=i_ b)(h0:b≠0)(hc:a.tmod b=c)(q:K (i_ c)):ab .rem x y K:=by
 subst ex;subst ey;subst hc;simpa[h0]using q
theorem Hu{x y:AV}{a b c:Nat}{K:AV→Prop}(ex:x=i_ a)(ey:y=i_ b)(hb:0<b)(ha:a≤9223372036854775807)(hc:a/b=c)(q:K (i_ c)):ab .quo x y K:=by
 have e:(a:Int).tdiv (b:Int)=((a/b:Nat):Int):=rfl;have hle:a/b≤a:=Nat.div_le_self _ _;rw[hc]at e hle;exact B7 ex ey (by omega) (by rw[e];exact IntWalk.i64_in _ ⟨by omega,by omega⟩) q
theorem P7{P:Program}{fH:FuncId}(hb:cd P fH=true)(cH:∀n,aP P fH [i_ n] (i_ (M8 n))){a b:Nat}(ha:a≤1000000000000)(hb2:b≤1000000000000){h:aa}{K:AV→aa→Prop}(q:K (i_ (min (a*b/1000) 1000000000000:Nat)) h):
 ab .quo (i_ a) (i_ 1000) fun v1=>ab .rem (i_ a) (i_ 1000) fun v2=>ab .gtr v1 (i_ 0) fun v3=>aB (fun J4=>au v3 true (ab .quo (i_ 1000000000000) v1 fun v5=>ab .gtr (i_ b) v5 fun v6=>[(i_ b),v1,v2]=[(i_ b),v1,v2]∧J4 [tt,v6] h) ([(i_ b),v1,v2]=[(i_ b),v1,v2]∧J4 [(aQ true v3),un] h)) fun s7 g8=>aH (nx s7 0) (nx s7 1) ff fun v9=>ae v9 (K (i_ 1000000000000) g8) (ab .mul v1 (i_ b) fun v10=>ab .mul v2 (i_ b) fun v11=>ab .quo v11 (i_ 1000) fun v12=>ab .add v10 v12 fun v13=>eJ P (.fn (.func fH) [] []) [v13] g8 fun v14 g15=>K v14 g15):=by
 have hx:a/1000≤1000000000:=by omega
 have hy:a%1000<1000:=Nat.mod_lt _ (by omega);have hyb:a%1000*b≤999*1000000000000:=Nat.mul_le_mul (by omega) hb2;rw[←Wz a b]at q;obtain⟨x,ex⟩:∃x,a/1000=x:=⟨_,rfl⟩;obtain⟨y,ey⟩:∃y,a%1000=y:=⟨_,rfl⟩;rw[ex,ey]at q;rw[ex]at hx;rw[ey]at hy hyb;have e2:(a:Int).tmod 1000=((y:Nat):Int):=by rw[←ey];try rfl
 refine Hu (a:=a) (b:=1000) rfl rfl (by omega) (by omega) ex (YR rfl rfl (by decide) e2 (zzE (ay ?_)));have go:¬(0<x∧1000000000000/x<b)→ab .mul (i_ x) (i_ b) fun v10=>ab .mul (i_ y) (i_ b) fun v11=>ab .quo v11 (i_ 1000) fun v12=>ab .add v10 v12 fun v13=>eJ P (.fn (.func fH) [] []) [v13] h fun v14 g15=>K v14 g15:=fun hn=>by
  rw[if_neg hn]at q;have hxb:x*b≤1000000000000:=by
   rcases Nat.eq_zero_or_pos x with h0|h0
   ·rw[h0];omega
   ·have h1:b≤1000000000000/x:=Nat.le_of_not_lt fun h2=>hn ⟨h0,h2⟩;have h2:=(Nat.le_div_iff_mul_le h0).1 h1;rw[Nat.mul_comm];exact h2
  have m1:(x:Int)*b=((x*b:Nat):Int):=by push_cast;try rfl
  have m2:(y:Int)*b=((y*b:Nat):Int):=by push_cast;try rfl
  have h3:y*b/1000≤999*1000000000:=by omega
  refine Jy rfl rfl m1 (by unfold aN;omega) (Jy rfl rfl m2 (by unfold aN;omega) (Hu (a:=y*b) (b:=1000) rfl rfl (by omega) (by omega) rfl (zzP (by unfold aN;omega) (zzS hb (cH _) ?_))));have e4:M8 (((x*b:Nat):Int)+((y*b/1000:Nat):Int))=((min (x*b+y*b/1000) 1000000000000:Nat):Int):=by unfold M8;omega
  rw[e4];exact q
 by_cases hx0:0<x
 ·refine zzN (tO (by omega)) ?_;have hd:1000000000000/x≤1000000000000:=Nat.div_le_self _ _;refine Hu (a:=1000000000000) (b:=x) rfl rfl hx0 (by omega) rfl (zzE (af (zzR ?_)))
  by_cases hg:1000000000000/x<b
  ·refine zzL (tO (by omega)) ?_;rw[if_pos ⟨hx0,hg⟩]at q;exact q
  ·refine zzK (oN (by omega)) ?_;exact go fun w=>hg w.2
 ·refine zzM (oN (by omega)) (af (zzQ (zzK rfl ?_)));exact go fun w=>hx0 w.1
theorem Xc{P:Program}{fT fP:FuncId}(bT:cd P fT=true)(bP:cd P fP=true)(cP:∀a b:Nat,a≤1000000000000→b≤1000000000000→aP P fP [i_ a,i_ b] (i_ (min (a*b/1000) 1000000000000:Nat))){a b:Int}(ha:eD a)(hb:eD b)(cT:a<0→aP P fT [i_ (0-a),i_ b] (i_ (fb (-a) b))){h:aa}{K:AV→aa→Prop}(q:K (i_ (fb a b)) h):
 ab .lss (i_ a) (i_ 0) fun v1=>ae v1 (mR (i_ a) fun v2=>eJ P (.fn (.func fT) [] []) [v2,i_ b] h fun v3 g4=>mR v3 fun v5=>K v5 g4) (ab .lss (i_ b) (i_ 0) fun v6=>ae v6 (mR (i_ b) fun v7=>eJ P (.fn (.func fP) [] []) [i_ a,v7] h fun v8 g9=>mR v8 fun v10=>K v10 g9) (eJ P (.fn (.func fP) [] []) [i_ a,i_ b] h fun v11 g12=>K v11 g12)):=by
 unfold eD at ha hb;refine zzC ?_
 by_cases h0:a<0
 ·refine zzL (tO h0) (sM rfl (by unfold aN;omega) (zzS bT (cT h0) ?_));have hm:=EY (-a) b;unfold eD at hm;refine sM rfl (by unfold aN;omega) ?_;rw[PS h0]at q;rw[Int.zero_sub];exact q
 refine zzK (oN h0) (zzC ?_);obtain⟨n,rfl⟩:∃n:Nat,a=n:=⟨a.toNat,by omega⟩
 by_cases h1:b<0
 ·refine zzL (tO h1) (sM rfl (by unfold aN;omega) ?_);obtain⟨m,hm⟩:∃m:Nat,0-b=m:=⟨(0-b).toNat,by omega⟩;rw[hm];refine zzS bP (cP n m (by omega) (by omega)) ?_;have hmin:min (n*m/1000) 1000000000000≤1000000000000:=Nat.min_le_right _ _;refine sM rfl (by unfold aN;omega) ?_;rw[PT (by omega) h1,show (-b).toNat=m by omega,NO]at q;rw[Int.zero_sub];exact q
 ·refine zzK (oN h1) ?_;obtain⟨m,rfl⟩:∃m:Nat,b=m:=⟨b.toNat,by omega⟩;refine zzS bP (cP n m (by omega) (by omega)) ?_;rw[SA (by omega) (by omega),NO,NO]at q;exact q
end
section
open Go Go.Aw Go.dz Go.jC
theorem rnm{k:Nat}{p q:Rw}(hp:jl[k]?=some p)(hq:uX[k]?=some q):q.name=p.name:=by
 have t:((List.range 18).all fun i=>decide ((uX.map Rw.name)[i]?=(jl.map Rw.name)[i]?))=true:=by decide +kernel
 have hk:k<18:=by have:=(gE.1 hp).1;rw[mE]at this;exact this
 have:=uP (By.1 t k (ID.2 hk));rw[lE,lE,hp,hq]at this;simpa using this
end
section
open Go Go.Aw
variable [Laid]
def W4(x0 x1 x2 x3:AV)(h:aa)(K:AV→aa→Prop):Prop:=
 br 26 x1 h fun e e4=>iC p_ 5 [] e4 fun a w=>ag true 2 e w fun e5=>iC p_ 6 [x0,e5,x2] w fun e6 x=>fe e6 fun y=>aB (fun z=>au y false (ab .lss x3 (i_ 0) fun e7=>eC [x0,x2,x3,e,a] (z [ff,e7] x)) (eC [x0,x2,x3,e,a] (z [(aQ false y),un] x))) fun A B=>aH (nx A 0) tt (nx A 1) fun C=>aB (fun D=>au C false (ab .geq x3 (i_ 18) fun e8=>eC [x0,x2,x3,e,a] (D [ff,e8] B)) (eC [x0,x2,x3,e,a] (D [(aQ false C),un] B))) fun E F=>aH (nx E 0) tt (nx E 1) fun G=>aB (fun H=>au G false (fe a fun e9=>eC [x0,x2,x3,e,a] (H [ff,e9] F)) (eC [x0,x2,x3,e,a] (H [(aQ false G),un] F))) fun I q=>aH (nx I 0) tt (nx I 1) fun f0=>ae f0 (K a q) (ag true 2 e q fun f1=>iC p_ 7 [x0,f1,x2] q fun J f2=>aK 0 J fun f3=>aK 1 J fun f4=>br 26 (.agg [nS,nS]) f2 fun c f5=>aE 2 c f3 f5 fun f6=>iC p_ 10 [] f6 fun f7 L=>aG 12 f7 x3 fun f8=>ag true 12 f8 L fun f9=>br 41 (.agg [(.str []),ff,(u8 0),(.str []),(i_ 0),(u8 0),(u8 0),(u8 0),(u8 0),nS,nS,ff]) L fun i g0=>aE 12 i f9 g0 fun M=>iFL 0 false 1 i M fun g1=>iC p_ 14 [x0,g1] M fun r N=>aK 0 r fun f=>aK 1 r fun g=>aK 2 r fun g2=>ab .neq f4 (i_ 0) fun O=>aB (fun P=>au O false (ab .neq g2 (i_ 0) fun g3=>eC [x0,x2,x3,e,a,c,i,f,g] (P [ff,g3] N)) (eC [x0,x2,x3,e,a,c,i,f,g] (P [(aQ false O),un] N))) fun Q s=>aH (nx Q 0) tt (nx Q 1) fun R=>aB (fun S=>au R false (ag true 2 c s fun g4=>iC p_ 9 [g4] s fun g5 g6=>ab .neq g5 (i_ 0) fun g7=>eC [x0,x2,x3,e,a,c,i,f,g] (S [ff,g7] g6)) (eC [x0,x2,x3,e,a,c,i,f,g] (S [(aQ false R),un] s))) fun T U=>aH (nx T 0) tt (nx T 1) fun V=>aB (fun W=>au V false (bu x0 fun g8=>ab .geq f g8 fun g9=>eC [x0,x2,x3,e,a,c,i,f,g] (W [ff,g9] U)) (eC [x0,x2,x3,e,a,c,i,f,g] (W [(aQ false V),un] U))) fun X b=>aH (nx X 0) tt (nx X 1) fun i0=>ae i0 (K ff b) (ab .lss f (i_ 0) fun i1=>ae i1 (aB (fun Y=>au a true (ab .eql g (.str [105,110,105,116,105,97,108]) fun Z=>Y [g,Z,Z] b) (Y [un,un,un] b)) fun a0 _=>aB (fun a1=>au (nx a0 2) true (bh 0 c fun a2=>ag false 1 a2 b fun a3=>aG 7 a3 x3 fun a4=>ag true 7 a4 b fun a5=>bh 2 i fun a6=>ag true 7 a6 b fun a7=>lQ false [1,2,1,1,1,1,1] a5 a7 fun i2=>a1 [a2,a3,x3,a4,a5,a6,a7,i2] b) (a1 [un,un,un,un,un,un,un,un] b)) fun i3 _=>aB (fun a8=>au a true (aH (nx a0 2) (nx i3 7) ff fun a9=>a8 [a9,a9] b) (a8 [un,un] b)) fun t _=>aB (fun b0=>au (nx t 1) false (ab .eql g (.str [105,110,104,101,114,105,116]) fun b1=>b0 [g,b1,b1] b) (b0 [un,un,un] b)) fun b2 _=>aB (fun b3=>au (nx b2 2) true (bh 0 c fun b4=>ag false 1 b4 b fun b5=>aG 7 b5 x3 fun b6=>ag true 7 b6 b fun b7=>bh 0 e fun b8=>ag false 1 b8 b fun b9=>aG 7 b9 x3 fun c0=>ag true 7 c0 b fun c1=>lQ false [1,2,1,1,1,1,1] b7 c1 fun i4=>b3 [b4,b5,x3,b6,b7,b8,b9,x3,c0,c1,i4] b) (b3 [un,un,un,un,un,un,un,un,un,un,un] b)) fun i5 _=>aB (fun c2=>au (nx t 1) false (aH (nx b2 2) (nx i5 10) ff fun i6=>c2 [i6] b) (c2 [un] b)) fun i7 _=>aB (fun c3=>au a true (aH (nx t 1) tt (nx i7 0) fun i8=>c3 [i8] b) (c3 [un] b)) fun i9 _=>aH a (nx i9 0) ff fun j0=>K j0 b) (aG 11 x0 f fun j1=>bh 0 j1 fun j2=>iFL 2 false 1 j2 b fun j3=>ab .neq j3 (.str []) fun j4=>ae j4 (K a b) (aG 11 x0 f fun j5=>bh 0 j5 fun j6=>iFL 1 false 1 j6 b fun j7=>iFL 1 false 1 c b fun j8=>iQ p_ 15 [j7,j8] b fun c4=>aK 0 c4 fun j9=>aK 1 c4 fun k0=>ab .neq k0 (i_ 0) fun k1=>ae k1 (K a b) (iC p_ 16 [x3,j9] b fun c5 k2=>aK 0 c5 fun k3=>aK 1 c5 fun k4=>br 37 (.agg [(u8 0),(.str []),(i_ 0),(u8 0),(u8 0),(u8 0),(u8 0)]) k2 fun d k5=>aE 7 d k3 k5 fun u=>ab .neq k4 (i_ 0) fun c6=>aB (fun c7=>au c6 false (iFL 0 false 1 d u fun k6=>ab .eql k6 (u8 8) fun k7=>eC [x2,x3,e,a,c,d] (c7 [ff,k7] u)) (eC [x2,x3,e,a,c,d] (c7 [(aQ false c6),un] u))) fun k c8=>aB (fun c9=>au (nx k 1) true (ab .eql x3 (i_ 0) fun k8=>eC [x2,x3,e,a,c,d,(nx k 0)] (c9 [tt,k8] c8)) (eC [x2,x3,e,a,c,d,(nx k 0)] (c9 [(aQ true (nx k 1)),un] c8))) fun d0 d1=>aB (fun d2=>au (nx k 0) false (aH (nx d0 0) (nx d0 1) ff fun k9=>eC [x2,x3,e,a,c,d] (d2 [ff,k9] d1)) (eC [x2,x3,e,a,c,d] (d2 [(aQ false (nx k 0)),un] d1))) fun d3 m=>aH (nx d3 0) tt (nx d3 1) fun l0=>ae l0 (K a m) (iFL 0 false 1 c m fun l1=>aG 7 l1 (i_ 12) fun l2=>iFL 2 false 1 l2 m fun o=>aB (fun d4=>ab .lss x2 (i_ 0) fun l3=>ae l3 (eC [x2,x3,e,a,c,d,o] (d4 [o] m)) (eC [x2,x3,e,a,c,d,o] (d4 [x2] m))) fun d5 n=>aB (fun v=>ab .eql x3 (i_ 12) fun l4=>ae l4 (iFL 0 false 1 e n fun l5=>aG 7 l5 x3 fun l6=>iFL 2 false 1 l6 n fun d6=>ab .lss x2 (i_ 0) fun l7=>ae l7 (eC [x3,a,c,d] (v [d6,(i_ 16000)] n)) (eC [x3,a,c,d] (v [d6,(nx d5 0)] n))) (eC [x3,a,c,d] (v [o,(nx d5 0)] n))) fun d7 j=>aB (fun p=>iFL 0 false 1 d j fun l8=>ab .eql l8 (u8 3) fun l9=>ae l9 (iFL 2 false 1 d j fun m0=>iC p_ 17 [m0,(nx d7 0)] j fun m1 m2=>aY (.agg [(u8 0),(.str []),(i_ 0),(u8 0),(u8 0),(u8 0),(u8 0)]) [(0,1,(u8 2)),(2,1,m1)] fun m3=>aE 7 d m3 m2 fun m4=>eC [x3,a,c,d] (p [] m4)) (iFL 0 false 1 d j fun m5=>ab .eql m5 (u8 4) fun m6=>ae m6 (iFL 2 false 1 d j fun m7=>iC p_ 17 [m7,(nx d7 1)] j fun m8 m9=>aY (.agg [(u8 0),(.str []),(i_ 0),(u8 0),(u8 0),(u8 0),(u8 0)]) [(0,1,(u8 2)),(2,1,m8)] fun n0=>aE 7 d n0 m9 fun n1=>eC [x3,a,c,d] (p [] n1)) (ab .eql x3 (i_ 15) fun n2=>ae n2 (iFL 2 false 1 d j fun n3=>mg (i_ 1000) n3 fun n4=>iY (i_ 0) n4 fun n5=>bh 2 d fun n6=>aE 1 n6 n5 j fun n7=>eC [x3,a,c,d] (p [] n7)) (eC [x3,a,c,d] (p [] j))))) fun o1 l=>aB (fun d8=>au a true (bh 0 c fun d9=>ag false 1 d9 l fun e0=>aG 7 e0 x3 fun e1=>ag true 7 e1 l fun e2=>ag true 7 d l fun e3=>lQ false [1,2,1,1,1,1,1] e2 e3 fun n8=>d8 [d9,e0,x3,e1,e2,e3,n8] l) (d8 [un,un,un,un,un,un,un] l)) fun n9 _=>aH a (nx n9 6) ff fun o0=>K o0 l))))))
theorem V4(x0 x1 x2 x3:AV):cp p_ 4 [x0,x1,x2,x3] (W4 x0 x1 x2 x3):=mkM Tryz.func4 (sn (sn (.seq (.seq (.bz (oR 0 6 (.bj 5 false (fR 6 2) [0,2,3,5,9] [28,30]::oR 8 2 (.bj 9 false (fR 10 2) [0,2,3,5,9] [32,34]::oR 12 2 (.bj 13 false (fR 14 2) [0,2,3,5,9] [36,38]::.op 16 false::[]))))) .nil) (sn (sn (sn (.seq (.seq (.bz (oR 0 3 (.bj 2 false (fR 3 2) [0,2,3,5,9,10,12,13,14] [62,64]::oR 5 2 (.bj 6 false (fR 7 3) [0,2,3,5,9,10,12,13,14] [66,69]::oR 10 2 (.bj 11 false (fR 12 4) [0,2,3,5,9,10,12,13,14] [71,75]::.op 16 false::[]))))) .nil) (.seq (sn (.two (.seq (.draw 33 (oR 0 2 (.bj 1 true (fR 2 3) [] [81,82,83]::.bj 4 true (fR 5 8) [] [84,85,86,87,88,89,90,91]::.bj 1 true (fR 13 2) [] [92,93]::.bj 14 false (fR 15 3) [] [94,95,96]::.bj 17 true (fR 18 11) [] [97,98,99,100,101,102,103,104,105,106,107]::.bj 14 false [(29,false)] [] [108]::.bj 1 true [(30,false)] [] [109]::oR 31 2 [])) [] []) .nil) .nil)) (sn (.seq (.draw 14 (oR 0 14 []) [] []) (sn (sn (.seq (.seq (.bz (oR 0 3 (.bj 2 false (fR 3 4) [2,3,5,9,10,18] [142,146]::.bj 6 true (fR 7 2) [2,3,5,9,10,18,142] [146,148]::.bj 2 false [(9,false)] [2,3,5,9,10,18] [142,149]::.op 10 false::[]))) .nil) (sn (.join [2,3,5,9,10,18,20] [21] .nil (.join [3,9,10,18] [20,21] .nil (.join [3,9,10,18] [] .nil (.seq (.draw 11 (oR 0 2 (.bj 1 true (fR 2 7) [] [199,200,201,202,203,204,205]::oR 9 2 [])) [] []) .nil)))))))))))))))))) 207 [.tmp 8] (by kernel_rfl) fun _ _=>by kernel_rfl
def W17(x0 x1:AV)(h:aa)(K:AV→aa→Prop):Prop:=
 ab .lss x0 (i_ 0) fun a=>ae a (mR x0 fun b=>iC p_ 17 [b,x1] h fun c d=>mR c fun e=>K e d) (ab .lss x1 (i_ 0) fun f=>ae f (mR x1 fun g=>iC p_ 44 [x0,g] h fun i j=>mR i fun k=>K k j) (iC p_ 44 [x0,x1] h fun l m=>K l m))
theorem V17(x0 x1:AV):cp p_ 17 [x0,x1] (W17 x0 x1):=mkM Tryz.func17 .nil 22 [.tmp 4] (by kernel_rfl) fun _ _=>by kernel_rfl
def W44(x0 x1:AV)(h:aa)(K:AV→aa→Prop):Prop:=
 ab .quo x0 (i_ 1000) fun a=>ab .rem x0 (i_ 1000) fun b=>ab .gtr a (i_ 0) fun c=>aB (fun d=>au c true (ab .quo (i_ 1000000000000) a fun g=>ab .gtr x1 g fun i=>eC [x1,a,b] (d [tt,i] h)) (eC [x1,a,b] (d [(aQ true c),un] h))) fun e f=>aH (nx e 0) (nx e 1) ff fun j=>ae j (K (i_ 1000000000000) f) (ab .mul a x1 fun k=>ab .mul b x1 fun l=>ab .quo l (i_ 1000) fun m=>ab .add k m fun n=>iC p_ 84 [n] f fun o p=>K o p)
theorem V44(x0 x1:AV):cp p_ 44 [x0,x1] (W44 x0 x1):=mkM Tryz.func44 (sn (sn (.seq (.seq (.bz (oR 0 3 (.bj 2 true (fR 3 4) [1,5,6] [13,17]::.op 7 false::[]))) .nil) .nil))) 28 [.tmp 4] (by kernel_rfl) fun _ _=>by kernel_rfl
def W84(x0:AV)(h:aa)(K:AV→aa→Prop):Prop:=
 mg (i_ 1000000000000) x0 fun a=>iY (i_ (-1000000000000)) a fun b=>K b h
theorem V84(x0:AV):cp p_ 84 [x0] (W84 x0):=mkM Tryz.func84 .nil 6 [.tmp 2] (by kernel_rfl) fun _ _=>by kernel_rfl
end
section
open Go Go.Aw Go.dz Go.jC
def ZW:Option Rw→Option Rw→Bool
 | some q,some p=>decide (q.k=p.k)&&decide (q.w=p.w)&&decide (q.n=p.n)&&decide (q.r=p.r)&&decide (q.g=p.g)&&decide (q.b=p.b)&&decide (q.a=p.a)
 | _,_=>true
theorem afc{k:Nat}{p q:Rw}(hp:jl[k]?=some p)(hq:uX[k]?=some q):oZ q=oZ p:=by
 have t:((List.range 18).all fun i=>ZW (uX[i]?) (jl[i]?))=true:=by decide +kernel
 have hk:k<18:=by have:=(gE.1 hp).1;rw[mE]at this;exact this
 have e:=By.1 t k (ID.2 hk);rw[hp,hq]at e;unfold ZW at e;simp only[On,OF]at e;obtain⟨⟨⟨⟨⟨⟨e1,e2⟩,e3⟩,e4⟩,e5⟩,e6⟩,e7⟩:=e;unfold oZ;rw[e1,e2,e3,e4,e5,e6,e7]
theorem WM(q:Rw):(mh q).all dH=true:=by
 obtain⟨a,b,c,d,e,f,g,h,i,w,k,l⟩:=q;cases w<;>cases k<;>rfl
def prB(q:Rw):dh:=.aC ⟨41,mh q,true⟩
theorem Xj{h:aa}{id o n:Nat}{x:AV}{b:nJ}{cs:List AV}{K:AV→Prop}(e:x=.op id o)(hb:h[id]?=some (.aC b))(hn:n≤(b.cells.drop o).length)(hc:(b.cells.drop o).take n=cs)(q:K (.agg cs)):ag true n x h K:=cY e hb hn (by rw[hc];exact q)
structure ScF(P:Program)(fA fF fS fR fT fD fX fV fM:FuncId):Prop where
 bA:cd P fA=true
 bF:cd P fF=true
 bS:cd P fS=true
 bR:cd P fR=true
 bT:cd P fT=true
 bD:cd P fD=true
 bX:cd P fX=true
 bV:cd P fV=true
 bM:cd P fM=true
 cA:aP P fA [] tt
 cT:aP P fT [] (.sl 12 xH)
 cM:∀a b,eD a→eD b→aP P fM [i_ a,i_ b] (i_ (fb a b))
theorem aaU(f:ScF p_ 5 6 7 9 10 14 15 16 17){s:Sy}{l:List Dc}{root pr:Int}(io:wm s l)
 (cF:aP p_ 6 [.sl 11 (cy l),.agg (eH s),i_ root] (b_ (jy l s root)))
 (cS:jy l s root=true→aP p_ 7 [.sl 11 (cy l),.agg (eH s),i_ root] (.aF [.agg (eH (je l s root)),i_ 0]))
 (cR:jy l s root=true→aP p_ 9 [.agg (eH (je l s root))] (i_ 0))
 (cD:jy l s root=true→∀(k:Nat) (p:Rw),jl[k]?=some p→aP p_ 14 [.sl 11 (cy l),.str p.name] (.aF [i_ (fm l 4 p.name).1,.str (fm l 4 p.name).2,i_ 0]))
 (cX:jy l s root=true→∀d∈l,aP p_ 15 [.sl 6 (ar d.value),.sl 2 (az (fo s l))] (mn (dv (fo s l)) d.value))
 (cV:jy l s root=true→∀d∈l,(dM (dv (fo s l)) d.value).2=0→∀j:Nat,j<18→aP p_ 16 [i_ j,.sl 6 (ar (dM (dv (fo s l)) d.value).1)] (rV j (dM (dv (fo s l)) d.value).1)) :
 W4 (.sl 11 (cy l)) (.agg (eH s)) (i_ root) (i_ pr) [] (fg tt):=by
 unfold W4;obtain⟨aq,cus⟩:=s;obtain⟨S,hS⟩:∃S,dR (.sl 7 (bQ aq)) (.sl 2 (az cus))=S:=⟨_,rfl⟩;refine cI (cs:=[.sl 7 (bQ aq),.sl 2 (az cus)]) (n:=0) (h':=[S]) rfl rfl rfl (by rw[←hS];rfl) ?_;have g0:∀t:aa,(S:: t)[0]?=some (dR (.sl 7 (bQ aq)) (.sl 2 (az cus))):=fun t=>by rw[hS];rfl
 refine bK rfl f.bA f.cA (cY (id:=0) rfl (g0 _) (aS 2) (bK rfl f.bF cF (fJ rfl (ay ?_))));cases hf:jy l ⟨aq,cus⟩ root with
 | false =>
   refine aX rfl rfl (af (aO rfl (ay (aX rfl rfl (af (aO rfl (ay ?_)))))));refine aX rfl rfl (af (aO rfl (ao rfl rfl ?_)));exact .pure (by simp) rfl
 | true =>
 refine aM rfl rfl (bB rfl rfl (af (aL rfl (ay ?_))))
 by_cases p0:pr<0
 ·refine aX rfl (tO p0) (af (aO rfl (ay (aX rfl rfl (af (aO rfl (ao rfl rfl ?_)))))));exact .pure (by simp) rfl
 refine aM rfl (oN p0) (iy rfl rfl (af (aL rfl (ay ?_))))
 by_cases p1:18≤pr
 ·refine aX rfl (tO p1) (af (aO rfl (ao rfl rfl ?_)));exact .pure (by simp) rfl
 refine aM rfl (oN p1) (fJ rfl (af (aL rfl (ah rfl rfl ?_))));have cS:=cS hf;have cR:=cR hf;have cD:=cD hf;have cX:=cX hf;have cV:=cV hf;obtain⟨k,rfl⟩:∃k:Nat,pr=k:=⟨pr.toNat,by omega⟩;have hk18:k<18:=by omega
 have lawP:=fun (p:Rw) (hp:jl[k]?=some p) (n:Nat) (d:Dc)=>WV io hf hp (k:=n) (d:=d);have lawW:=fun (p:Rw) (x:Vv) (hp:jl[k]?=some p) (hx:aq[k]?=some x)=>WX (s:=⟨aq,cus⟩) hf hp hx;obtain⟨hr1,hr2⟩:-1≤root∧root≤1000000000000:=(jz hf).2.2.2;have sv0:=qw (jz hf).2.2.1;have sv1:=qw (uh io hf);dsimp only at sv0;obtain⟨em,hem⟩:∃em,(ju (dv (fo ⟨aq,cus⟩ l)) l aq root 12).num=em:=⟨_,rfl⟩;obtain⟨z,hz,hzn⟩:∃z,(je l ⟨aq,cus⟩ root).aq[12]?=some z∧z.num=em:=⟨_,Ac (by decide),hem⟩;have hzo:eD em:=by
  rw[←hzn];exact nT sv1 hr1 hr2 (i:=12) (by decide) (sv1.has 12 z hz).1
 obtain⟨y,hy⟩:∃y,aq[12]?=some y:=⟨_,dO (by rw[sv0.len];decide)⟩;have hyo:eD y.num:=nT sv0 hr1 hr2 (i:=12) (by decide) (sv0.has 12 y hy).1;have hyD:aq.getD 12 v0=y:=by rw[oF,hy];rfl
 have hcu:(je l ⟨aq,cus⟩ root).bn=fo ⟨aq,cus⟩ l:=rfl;obtain⟨x,hx⟩:∃x,aq[k]?=some x:=⟨_,dO (by rw[sv0.len];exact hk18)⟩;obtain⟨t,ht⟩:∃t,je l ⟨aq,cus⟩ root=t:=⟨_,rfl⟩;have htv:∃v,t.aq[k]?=some v:=⟨_,by rw[←ht];exact Ac (by omega)⟩;rw[ht]at cS cR hz hcu;simp only[ht]at lawP lawW;obtain⟨v,hv⟩:=htv;obtain⟨T,hT⟩:∃T,dR (.sl 7 (bQ t.aq)) (.sl 2 (az t.bn))=T:=⟨_,rfl⟩;have g1:∀u:aa,(S:: T:: u)[1]?=some (dR (.sl 7 (bQ t.aq)) (.sl 2 (az t.bn))):=fun u=>by rw[hT];rfl
 refine cY (id:=0) rfl (g0 _) (aS 2) (bK rfl f.bS cS (bl rfl rfl (bl rfl rfl (cI (cs:=[bw,bw]) (n:=1) (h':=[S,dR bw bw]) rfl rfl rfl rfl ?_))));refine cf (id:=1) (cs:=[.sl 7 (bQ t.aq),.sl 2 (az t.bn)]) (b:=⟨26,[bw,bw],true⟩) (h':=[S,T]) rfl rfl rfl rfl (aS 2) rfl rfl (by rw[←hT];rfl) ?_;refine bK rfl f.bT f.cT ?_;obtain⟨q,hq⟩:∃q,uX[k]?=some q:=⟨_,dO (by rw[z7];omega)⟩;obtain⟨p,hp⟩:=vX (i:=k) (by omega);have hnm:=rnm hp hq;have hin:=afc hp hq;refine dm (f:=mh) rfl Fi rfl hq (dV (cs:=mh q) rfl rfl (cI (cs:=[(.str []),ff,(u8 0),(.str []),(i_ 0),(u8 0),(u8 0),(u8 0),(u8 0),bw,bw,ff]) (n:=2) (h':=[S,T,.aC ⟨41,[(.str []),ff,(u8 0),(.str []),(i_ 0),(u8 0),(u8 0),(u8 0),(u8 0),bw,bw,ff],true⟩]) rfl rfl rfl rfl ?_));obtain⟨R,hR⟩:∃R,prB q=R:=⟨_,rfl⟩;have g2:∀u:aa,(S:: T:: R:: u)[2]?=some (.aC ⟨41,mh q,true⟩):=fun u=>by rw[←hR];rfl
 refine cf (id:=2) (cs:=mh q) (b:=⟨41,[(.str []),ff,(u8 0),(.str []),(i_ 0),(u8 0),(u8 0),(u8 0),(u8 0),bw,bw,ff],true⟩) (h':=[S,T,R]) rfl rfl rfl rfl (aS 12) rfl (WM q) (by rw[←hR];rfl) ?_;refine aV rfl (aR (c:=.str q.name) rfl (g2 _) rfl ?_);rw[hnm];have cD:=cD k p hp;refine bK rfl f.bD cD (bl rfl rfl (bl rfl rfl (bl rfl rfl (cZ rfl rfl (ay (aM rfl rfl (cZ rfl rfl ?_)))))));refine af (aL rfl (ay (aM rfl rfl (cY (id:=1) rfl (g1 _) (aS 2) (bK rfl f.bR cR (cZ rfl rfl (af ?_)))))));refine aL rfl (ay (aM rfl rfl ?_));refine dg (n:=l.length) rfl (by simp[cy]) fun _=>?_;refine iy rfl rfl (af ?_);rcases qY l 4 p.name with hat|⟨n,d,e1,e2,e3,e4⟩
 ·refine aL rfl ?_;refine ah rfl (oN (by rw[hat];omega)) ?_;refine bB rfl rfl ?_;refine ao rfl (tO (by rw[hat];omega)) ?_;refine ay (aM rfl rfl (fx rfl rfl (ay ?_)));rcases lawW p x hp hx hat with⟨h1,h2⟩|⟨h1,h2⟩
  ·obtain rfl:v=oZ p:=by rw[hv]at h2;exact Is h2
   have e:=tO h1;refine aM rfl e (aV rfl (aR rfl (g1 _) rfl (dm (f:=bL) rfl rfl (n:=k) rfl hv (dV rfl rfl (aV rfl ?_)))));refine Xj (id:=2) (o:=0+2) (cs:=bL (oZ p)) rfl (g2 _) (by simp[mh]) (by rw[←hin];rfl) ?_;refine p9 rfl rfl (CE (oZ p)) (ay (aM rfl rfl ?_));refine aO (by show Aw.b_ (decide _)=_;rw[show decide ((fm l 4 p.name).2=[105,110,105,116,105,97,108])=_ from e]) ?_;refine ay (aX rfl rfl (ay (iG rfl (ay (aX rfl rfl (ay (aM rfl rfl ?_)))))));refine aO rfl (aO rfl ?_);exact .pure (by simp) rfl
  ·obtain rfl:v=x:=by rw[hv]at h2;exact Is h2
   have e:decide ((fm l 4 p.name).2=vS)=false:=by rw[h1];decide
   refine aX rfl e (ay (aM rfl rfl ?_));refine aL (by show Aw.b_ (decide _)=_;rw[show decide ((fm l 4 p.name).2=[105,110,105,116,105,97,108])=_ from e]) ?_;refine ay (aM rfl rfl (fx rfl rfl ?_));have e':decide ((fm l 4 p.name).2=sJ)=true:=tO h1;refine ay (aM rfl e' (aV rfl (aR rfl (g1 _) rfl (dm (f:=bL) rfl rfl (n:=k) rfl hv (dV rfl rfl (aV rfl (aR rfl (g0 _) rfl ?_)))))));refine dm (f:=bL) rfl rfl (n:=k) rfl hx (dV rfl rfl (p9 rfl rfl (CE v) (ay (aM rfl rfl ?_))));refine aO (by show Aw.b_ (decide _)=_;rw[show decide ((fm l 4 p.name).2=[105,110,104,101,114,105,116])=_ from e']) ?_;refine ay (aM rfl rfl (aL rfl (aO rfl ?_)));exact .pure (by simp) rfl
 ·have hnl:=(gE.1 e2).1;have hdl:=gO e2;rw[e1];refine aL rfl ?_;refine ah rfl (oN (by omega)) ?_;refine bB rfl rfl ?_;refine ah rfl (oN (by omega)) ?_;refine dm (f:=dD) rfl rfl (n:=n) rfl e2 (dX rfl (dX rfl (de (c:=.str d.whole) rfl (rY rfl rfl ?_))))
  by_cases hw:d.whole=[]
  rotate_left
  ·refine ao rfl (by simpa using hw) ?_;exact .pure (by simp) rfl
  refine ah rfl (by simpa using hw) ?_;refine dm (f:=dD) rfl rfl (n:=n) rfl e2 (dX rfl (dX rfl (de (c:=.sl 6 (ar d.value)) rfl (aV rfl (aR rfl (g1 _) rfl ?_)))));rw[hcu];refine ig rfl f.bX (cX d hdl) ?_;unfold mn;refine bl rfl rfl (bl rfl rfl (cZ rfl rfl ?_))
  by_cases hr:(dM (dv (fo ⟨aq,cus⟩ l)) d.value).2=0
  rotate_left
  ·refine ao rfl (by simpa using hr) ?_;exact .pure (by simp) rfl
  refine ah rfl (by simpa using hr) ?_;rw[if_pos hr];have cV:=cV d hdl hr k hk18;unfold rV at cV;cases hpr:lJ k (dM (dv (fo ⟨aq,cus⟩ l)) d.value).1 with
  | none =>
    rw[hpr]at cV;refine bK rfl f.bV cV (bl rfl rfl (bl rfl rfl (cI (cs:=bL v0) (n:=3) (h':=[S,T,R,wB v0]) rfl rfl rfl rfl (iz (v:=v0) (w:=v0) (h':=[S,T,R,wB v0]) rfl rfl (cZ rfl rfl (ay (aX rfl rfl ?_)))))));refine af (ay (iG rfl (af (ay (aX rfl rfl (af (aO rfl ?_)))))));refine ao rfl rfl ?_;exact .pure (by simp) rfl
  | some w =>
    rw[hpr]at cV;have hwb:hasB k w=true:=by
     unfold lJ at hpr;split at hpr
     ·exact List.find?_some hpr
     ·cases hpr
    have hwn:eD w.num:=nT sv0 hr1 hr2 hk18 hwb;refine bK rfl f.bV cV (bl rfl rfl (bl rfl rfl (cI (cs:=bL v0) (n:=3) (h':=[S,T,R,wB v0]) rfl rfl rfl rfl (iz (v:=v0) (w:=w) (h':=[S,T,R,wB w]) rfl rfl (cZ rfl rfl (ay (aM rfl rfl ?_)))))));refine aV rfl (oA (i:=0) (v:=w) rfl rfl (dy rfl rfl (af ?_)));refine gF (fun s G=>(s=[tt,b_ (decide (w.kind=8∧k=0))]∨s=[ff,un]∧¬(w.kind=8∧k=0))∧G=[S,T,R,wB w]) ?_ fun F hF=>?_;rotate_left
    ·by_cases h8:w.kind=8
     ·refine aM rfl (tO h8) (dy rfl rfl (af ?_));refine hF _ _ ⟨.inl ?_,rfl⟩;rw[show decide ((k:Int)=0)=decide (w.kind=8∧k=0) from decide_eq_decide.2 ⟨fun h=>⟨h8,by omega⟩,fun h=>by omega⟩]
     ·refine aX rfl (oN h8) (af ?_);refine hF _ _ ⟨.inr ⟨?_,fun h=>h8 h.1⟩,rfl⟩;rfl
    rintro _ G ⟨hs,rfl⟩;refine gF (fun s G=>s=[ff,b_ (decide (w.kind=8∧k=0))]∧G=[S,T,R,wB w]) ?_ fun F hF=>?_;rotate_left
    ·refine aM rfl rfl ?_;rcases hs with rfl|⟨rfl,hn⟩
     ·refine aO rfl (af ?_);exact hF _ _ ⟨rfl,rfl⟩
     ·refine aL rfl (af ?_);exact hF _ _ ⟨by rw[oN hn],rfl⟩
    rintro _ G ⟨rfl,rfl⟩;refine aL rfl ?_
    by_cases h8:w.kind=8∧k=0
    ·refine ao rfl (tO h8) ?_;exact .pure (by simp) rfl
    refine ah rfl (oN h8) (aV rfl (aR rfl (g1 _) rfl (dm (f:=bL) rfl rfl (n:=12) rfl hz (dX rfl (de (c:=i_ z.num) rfl ?_)))));rw[hzn];refine gF (fun s G=>s=[i_ (if root<0 then em else root)]∧G=[S,T,R,wB w]) ?_ fun F hF=>?_;rotate_left
    ·refine bB rfl rfl ?_
     by_cases h:root<0
     ·refine ao rfl (tO h) (af ?_);exact hF _ _ ⟨by rw[if_pos h],rfl⟩
     ·refine ah rfl (oN h) (af ?_);exact hF _ _ ⟨by rw[if_neg h],rfl⟩
    rintro _ G ⟨rfl,rfl⟩;refine gF (fun s G=>s=[i_ (if k=12 then y.num else em),i_ (if k=12 then pV root else if root<0 then em else root)]∧G=[S,T,R,wB w]) ?_ fun F hF=>?_;rotate_left
    ·refine dy rfl rfl ?_
     by_cases h12:k=12
     ·refine ao rfl (tO (by omega)) ?_;refine aV rfl (aR rfl (g0 _) rfl ?_);refine dm (f:=bL) rfl rfl (n:=k) rfl (by rw[h12];exact hy) ?_;refine dX rfl (de (c:=i_ y.num) rfl (bB rfl rfl ?_))
      by_cases h:root<0
      ·refine ao rfl (tO h) (af ?_);exact hF _ _ ⟨by rw[if_pos h12,if_pos h12];unfold pV;rw[if_pos h],rfl⟩
      ·refine ah rfl (oN h) (af ?_);exact hF _ _ ⟨by rw[if_pos h12,if_pos h12];unfold pV;rw[if_neg h,if_neg h];rfl,rfl⟩
     ·refine ah rfl (oN (by omega)) ?_;refine af ?_;exact hF _ _ ⟨by rw[if_neg h12,if_neg h12];rfl,rfl⟩
    rintro _ G ⟨rfl,rfl⟩;have lw:=lawP p hp n d e1 e2 hw hr hpr h8;rw[hyD,hem]at lw;have hEo:eD (if k=12 then y.num else em):=by split<;>assumption
    have hRo:eD (if k=12 then pV root else if root<0 then em else root):=by
     split
     ·exact (Hf sv0 hr1 hr2).2
     ·split
      ·exact hzo
      ·unfold eD;omega
    generalize (if k=12 then y.num else em)=EM at lw hEo ⊢;generalize (if k=12 then pV root else if root<0 then em else root)=REM at lw hRo ⊢;obtain rfl:v=rX w k EM REM:=by rw[hv]at lw;exact Is lw
    refine gF (fun s G=>s=[]∧G=[S,T,R,wB (rX w k EM REM)]) ?_ fun F hF=>?_;rotate_left
    ·refine aV rfl (oA (i:=0) (v:=w) rfl rfl (dy rfl rfl ?_))
     by_cases h3:w.kind=3
     ·refine ao rfl (tO h3) (aV rfl (oA (i:=2) (v:=w) rfl rfl (bK rfl f.bM (f.cM _ _ hwn hEo) (bt (cs:=bL ⟨2,[],fb w.num EM,0,0,0,0⟩) rfl (iz (v:=w) (w:=⟨2,[],fb w.num EM,0,0,0,0⟩) (h':=[S,T,R,wB ⟨2,[],fb w.num EM,0,0,0,0⟩]) rfl rfl (af ?_))))));exact hF _ _ ⟨rfl,by unfold rX;rw[if_pos h3]⟩
     refine ah rfl (oN h3) (aV rfl (oA (i:=0) (v:=w) rfl rfl (dy rfl rfl ?_)))
     by_cases h4:w.kind=4
     ·refine ao rfl (tO h4) (aV rfl (oA (i:=2) (v:=w) rfl rfl (bK rfl f.bM (f.cM _ _ hwn hRo) (bt (cs:=bL ⟨2,[],fb w.num REM,0,0,0,0⟩) rfl (iz (v:=w) (w:=⟨2,[],fb w.num REM,0,0,0,0⟩) (h':=[S,T,R,wB ⟨2,[],fb w.num REM,0,0,0,0⟩]) rfl rfl (af ?_))))));exact hF _ _ ⟨rfl,by unfold rX;rw[if_neg h3,if_pos h4]⟩
     refine ah rfl (oN h4) (dy rfl rfl ?_)
     by_cases h15:k=15
     ·refine ao rfl (tO (by omega)) ?_;refine aV rfl (oA (i:=2) (v:=w) rfl rfl (B6 rfl rfl (tq rfl rfl (aV rfl ?_))));refine cf (id:=3) (o:=0+2) (b:=⟨37,bL w,true⟩) (cs:=[i_ (max 0 (min 1000 w.num))]) (h':=[S,T,R,wB { w with num:=max 0 (min 1000 w.num) }]) rfl rfl rfl rfl (by show 0+2+1≤7;decide) rfl rfl rfl ?_;refine af ?_;exact hF _ _ ⟨rfl,by unfold rX;rw[if_neg h3,if_neg h4,if_pos h15]⟩
     ·refine ah rfl (oN (by omega)) ?_;refine af ?_;exact hF _ _ ⟨rfl,by unfold rX;rw[if_neg h3,if_neg h4,if_neg h15]⟩
    rintro _ G ⟨rfl,rfl⟩;refine ay (aM rfl rfl (aV rfl (aR rfl (g1 _) rfl (dm (f:=bL) rfl rfl (n:=k) rfl hv (dV rfl rfl (iV (v:=rX w k EM REM) rfl (p9 rfl rfl (CE _) ?_)))))));refine aO rfl ?_;exact .pure (by simp) rfl
end
section
open Go Go.Aw Go.RowKit
variable{args:List AV}{P:Program}
abbrev nK:=List (Nat×List AV×AV)
def yp(xs ys:List AV):Bool:=ke (.aF xs) (.aF ys)
def mB[Laid](P:Program)(C:yf)(known:aZ)(l:nK):Bool:=qc (fun p=>match cd P p.1,jJ p.2.1,jJ [p.2.2],sN P C known 80 p.1 p.2.1 [] with|true,true,true,some (r,none)=>ke r p.2.2|_,_,_,_=>false) l
def G4(l:nK)(f:Nat)(args:List AV):Option AV:=List.rec (motive:=fun _=>Option AV) none (fun p _ ih=>match Nat.beq p.1 f with|true=>(match yp p.2.1 args with|true=>some p.2.2|false=>ih)|false=>ih) l
def pz(l:nK)(known:aZ):aZ:=fun f args h=>match G4 l f args with|some r=>some (r,none)|none=>known f args h
variable{l:nK}
theorem O5{f:Nat}{r:AV}(e:G4 l f args=some r):(f,args,r)∈l:=by
 induction l with
 | nil=>cases e
 | cons p l ih =>
   have e:(match Nat.beq p.1 f with|true=>(match yp p.2.1 args with|true=>some p.2.2|false=>G4 l f args)|false=>G4 l f args)=some r:=e;split at e
   ·rename_i h1;split at e
    ·rename_i h2;cases e;have h2:=qS _ _ h2;cases h2;have h1:=nE h1;subst h1;exact acN
    ·exact MK _ (ih e)
   ·exact MK _ (ih e)
theorem Sx[Laid]{C:yf}{known:aZ}(hk:dZ P known)(h:mB P C known l=true){f:Nat}{r:AV}(m:(f,args,r)∈l):cd P f=true∧aP P f args r:=by
 unfold mB at h;rw[iU]at h;have:=By.1 h _ m;split at this
 ·rename_i r' h1 h2 h3 h4;simp only at h1 h2 h3 h4 this;have:=qS _ _ this;subst this;exact⟨h1,uz hk h2 h3 h1 h4⟩
 ·cases this
theorem lY[Laid]{C:yf}{known known':aZ}(hk:dZ P known)(hk':dZ P known')(h:∀p∈l,∃m:nK,p∈m∧mB P C known m=true):dZ P (pz l known'):=by
 intro f args hp v oh e;unfold pz at e;split at e
 ·rename_i r hr;cases e;obtain⟨m,hm,ho⟩:=h _ (O5 hr);obtain⟨hb,c⟩:=Sx hk ho hm;exact .inl ⟨hb,c.call ⟨rfl,rfl⟩⟩
 ·exact hk' _ _ _ _ _ e
def S6(args:List AV)(h:aa):Option (AV×Option aa):=match args with
 | [.fn (.func g) [] [.op id o]]=>(match Nat.beq g 142,Nat.beq o 0 with
   | true,true=>(match nR h id with
     | some (.aC x)=>(match x.cells with
       | .mp mid:: _=>(match nR h mid with
         | some (.mp c es)=>(match BS c es with|some r=>some (r,none)|none=>none)
         | _=>none)
       | _=>none)
     | _=>none)
   | _,_=>none)
 | _=>none
theorem W5{h:aa}{v:AV}{oh:Option aa}(e:S6 args h=some (v,oh)):oh=none∧dY p_ 95 args h fun r hh=>r=v∧hh=h:=by
 unfold S6 at e;split at e
 ·rename_i g id o;split at e
  ·rename_i h1 h2;obtain rfl:=nE h1;obtain rfl:=nE h2;split at e
   ·rename_i x hx;split at e
    ·rename_i mid tl hc;split at e
     ·rename_i c es hm;split at e
      ·rename_i r hr;cases e;rw[lh]at hx hm;exact⟨rfl,J6 hx (by rw[hc];rfl) hm hr⟩
      ·cases e
     ·cases e
    ·cases e
   ·cases e
  ·cases e
 ·cases e
def zN:aZ:=fun f args h=>match Nat.beq f 28 with
 | true=>(match args with|[]=>some (.sl 12 lW,none)|_=>none)
 | false=>(match Nat.beq f 10 with
   | true=>(match args with|[]=>some (.sl 12 xH,none)|_=>none)
   | false=>(match Nat.beq f 95 with
     | true=>S6 args h
     | false=>none))
theorem Ds:dZ p_ zN:=by
 intro f args h v oh e;unfold zN at e;split at e
 ·rename_i hf;obtain rfl:=nE hf;split at e
  ·cases e;exact .inl ⟨by kernel_rfl,lz.call ⟨rfl,rfl⟩⟩
  ·cases e
 ·split at e
  ·rename_i hf;obtain rfl:=nE hf;split at e
   ·cases e;exact .inl ⟨by kernel_rfl,oC.call ⟨rfl,rfl⟩⟩
   ·cases e
  ·split at e
   ·rename_i hf;obtain rfl:=nE hf;obtain⟨rfl,q⟩:=W5 e;exact .inl ⟨by kernel_rfl,q⟩
   ·cases e
def aeJ:yf:=⟨fun _ _ _=>false,fun _=>false,100000⟩
def abl:aZ:=sN p_ aeJ zN 80
def Iv:aZ:=fun f args h=>match Nat.beq f 39 with
 | true=>(match HU abl args with|some r=>some (r,none)|none=>none)
 | false=>zN f args h
theorem Pl:dZ p_ Iv:=by
 intro f args h v oh e;unfold Iv at e;split at e
 ·rename_i hf;obtain rfl:=nE hf;split at e
  ·rename_i r hr;cases e;obtain⟨q1,q2⟩:=Ki (AQ Ds 80) hr;exact .inl ⟨q1,q2 h⟩
  ·cases e
 ·exact Ds _ _ _ _ _ e
def inP(l:List (Nat×Nat))(a b:Nat):Bool:=match l with
 | []=>false
 | x:: l=>match Nat.beq x.1 a,Nat.beq x.2 b with|true,true=>true|_,_=>inP l a b
def afb:List (Nat×List (Nat×Nat)):=
 [(226,[(3,2)]),
  (178,[(6,2),(8,15),(8,16),(10,14),(10,15)]),
  (89,[(6,13)]),
  (131,[(8,2)]),
  (19,[(6,8)])]
def aal:List (Nat×List (Nat×Nat))→Nat→Nat→Nat→Bool
 | [],_,_,_=>false
 | x:: l,f,id,i=>match Nat.beq x.1 f with|true=>inP x.2 id i|false=>aal l f id i
def lM:yf:=⟨aal afb,fun f=>(match f with|19=>true|42=>true|96=>true|226=>true|_=>false),100000⟩
end
section
open Go Go.Aw Go.dz
variable{l:List Cu}
def zx(l:List Cu)(k:Nat):dJ:=fun s=>match my l s with
 | some i=>if i<k then some (pX l i) else none
 | none=>none
theorem W2(inj:ny l)(hz:∀c∈l,aW c.value≤2000)(hv:∀c∈l,ct c.value=false)(hk:∀c∈l,dC c.value=0){k:Nat}(h:k<l.length):nY (zx l k) l k=zx l (k+1):=by
 have e:pX l k=l[k].value:=uk (dO h);have hm:=acA h;have r:=zZ (zx l k) (hv _ hm) (hk _ hm);unfold nY;rw[e,r,if_pos ⟨rfl,hz _ hm⟩]
 funext s
 unfold zx
 by_cases q:s=dQ l k
 ·subst q;rw[if_pos rfl,EC inj h];dsimp only;rw[if_pos (by omega),e]
 ·rw[if_neg q];cases hx:my l s with
  | none=>rfl
  | some i =>
    dsimp only;have hi:=nU hx;have:i≠k:=fun x=>q (by rw[←hi.2,x])
    by_cases h2:i<k
    ·rw[if_pos h2,if_pos (by omega)]
    ·rw[if_neg h2,if_neg (by omega)]
theorem LA{l:List Cu}(inj:ny l)(hz:∀c∈l,aW c.value≤2000)(hv:∀c∈l,ct c.value=false)(hk:∀c∈l,dC c.value=0)(hu:∀c∈l,iO c.value=[]):∀n k,k+n=l.length→pI l n (fun i=>decide (k≤i)) (zx l k)=zx l l.length
 | 0,k,h=>by rw[pI,show k=l.length by omega]
 | n+1,k,h=>by
   have f:qh l (fun i=>decide (k≤i))=some k:=by
    unfold qh;rw[List.range_eq_range'];refine wW _ _ (acr _) (by omega) ?_ fun i _ hi=>?_
    ·unfold rA;rw[uk (dO (by omega)),hu _ (acA (by omega))];simp
    ·unfold rA;dsimp only;rw[show decide (k≤i)=false from oN (by omega)];rfl
   rw[pI,f];dsimp only;rw[W2 inj hz hv hk (by omega),←LA inj hz hv hk hu n (k+1) (by omega)]
   congr 1
   funext j
   unfold sF
   by_cases q:j=k
   ·rw[if_pos q,oN (by omega)]
   ·rw[if_neg q];exact decide_eq_decide.2 ⟨fun _=>by omega,fun _=>by omega⟩
theorem S0(inj:ny l)(hz:∀c∈l,aW c.value≤2000)(hv:∀c∈l,ct c.value=false)(hk:∀c∈l,dC c.value=0)(hu:∀c∈l,iO c.value=[]):mX l=l:=by
 have hu':∀i,iO (pX l i)=[]:=fun i=>by
  cases e:l[i]? with
  | none=>unfold pX;rw[oF,lE,e];rfl
  | some c=>rw[uk e];exact hu c (gO e)
 have hc:∀i,jH l i=false:=fun i=>Za fun h=>by
  rcases h with⟨⟨j,_,_,hj⟩,_⟩|⟨⟨⟨j,_,_,hj⟩,_⟩,_⟩<;>(rw[hu' j]at hj;cases hj)
 have hs:uZ l=zx l l.length:=by
  unfold uZ;rw[←LA inj hz hv hk hu l.length 0 (by omega)]
  congr 1
  ·funext i;rw[hc];simp
  ·funext s;unfold zx;split<;>simp
 unfold mX kR;rw[hs];have key:∀x∈l,((zx l l.length x.name).map fun v=>(⟨x.name,v⟩:Cu))=some x:=fun x hx=>by
  obtain⟨i,hi,rfl⟩:=List.mem_iff_getElem.1 hx;have e:=dO hi;have:zx l l.length l[i].name=some l[i].value:=by
   unfold zx;rw[←nk e,EC inj hi];dsimp only;rw[if_pos hi,uk e]
  rw[this];rfl
 rw[tK key];clear key hs hc hu' hu hk hv hz inj;induction l with
 | nil=>rfl
 | cons a l ih=>rw[acv];dsimp only;rw[ih]
end
section
open Go Go.Aw Go.RowKit Go.dz
theorem Ea{P:Program}{f:FuncId}{a b:AV}{h:aa}{K:AV→aa→Prop}(q:tn a b)(c:dY P f [b] h K):dY P f [a] h K:=by
 intro base ι S w vs h1 h2;refine c base ι S w vs ?_ h2
 match vs,h1 with
 | [],h1=>simp at h1
 | _:: _:: _,h1=>simp at h1
 | [v],h1 =>
   simp only[dc,kF,and_true]at h1 ⊢;exact q _ _ _ _ h1
theorem zF{K:AV→Prop}(q:K (i_ 0)):bu (.v (.slice none 0 0)) K:=q
theorem JM:aP p_ 145 [.v (.slice none 0 0)] (.v (.slice none 0 0)):=by
 refine (XB _).gives (by simp) (by simp) ?_;unfold QN;have inj:ny []:=fun x y hx=>by simp at hx
 refine KQ (α:=Empty) (fun _=>True) (fun _=>[]) (fun _=>[]) (fun _=>0) ?_ (fun x=>x.elim);refine su (by kernel_rfl) rfl (Ea (tn.nil 2) (yk (l:=[]) (by simp) inj (by simp))) fun r h1 ⟨id,er,hid⟩ _=>?_;subst er;have hlt:=(gE.1 hid).1;refine qa (n:=h1.length) (h':=h1++[.mp 0 []]) rfl rfl ?_;refine su (by kernel_rfl) rfl (Ea (tn.nil 2) (yn (l:=[]) (by simp) inj)) fun r G ⟨er,eG⟩ _=>?_;subst er;subst eG;refine GH (es:=[]) (c:=0) rfl (by rw[TO,iD hlt];exact hid) rfl rfl ?_;refine aU (α:=Unit) (fun _=>True) (fun _=>[]) (fun _=>h1++[.mp 0 []]++[.mp 0 []]++[.it id 0 [] 0]) (fun _=>0) () trivial (Wk.refl _ _ _ (aS _)) ?_;intro _ _;refine GG (m:=id) (sn:=[]) (es:=[]) rfl KL (by rw[TO,TO,iD hlt];exact hid) rfl (aS _) (fun _=>?_) fun p hp=>by simp[fq]at hp
 refine zzB rfl (zzK rfl (zF (aU (α:=Unit) (fun _=>True) (fun _=>[i_ 0]) (fun _=>_) (fun _=>0) () trivial (Wk.refl _ _ _ (aS _)) ?_)));intro _ _;refine zzC (zzK rfl (zF (aU (α:=Unit) (fun _=>True) (fun _=>[.v (.slice none 0 0),i_ 0]) (fun _=>_) (fun _=>0) () trivial (Wk.refl _ _ _ (aS _)) ?_)));intro _ _;refine zzC (zzK rfl ?_);exact .pure (by simp) rfl
theorem Mj:aP p_ 60 [.v (.slice none 0 0)] tt:=by
 have h:=yC [] (by simp);exact h.arg (.cons (.nil 2) .nil) (by simp)
theorem JK:aP p_ 98 [.v (.slice none 0 0)] (.aF [.v (.slice none 0 0),i_ 0]):=by
 refine (V98 _).gives (by simp) (by simp) ?_;unfold YH;refine zF (zzE (zzK rfl (zzS (by kernel_rfl) Mj (zzO (zzK rfl (zF (aU (α:=Unit) (fun _=>True) (fun _=>[i_ 0]) (fun _=>[]) (fun _=>0) () trivial (Wk.refl _ _ _ (aS _)) ?_)))))));intro _ _;refine zzC (zzK rfl (zzS (by kernel_rfl) JM ?_));exact .pure (by simp) rfl
def Ue(n:Int):Vl:=.mk 12 [] n [112,120] true []
def Y8:List Cu:=[⟨[45,45,112],[Ue 5000]⟩]
def Y9:List Cu:=[⟨[45,45,97],[Ue 1000]⟩,⟨[45,45,112],[Ue 5000]⟩]
def DN(n:aD)(k:Int):List AV:=[.str n,.sl 6 [[u1 12,.str [],i_ k,.str [112,120],tt,.v (.slice none 0 0)]]]
theorem Rx(n:aD)(k:Int):qJ (DN n k) (eT ⟨n,[Ue k]⟩):=
 .cons (.refl _) (.cons (.sl (.cons (.cons (.refl _) (.cons (.refl _) (.cons (.refl _) (.cons (.refl _) (.cons (.refl _) (.cons (.nil 6) .nil)))))) .nil)) .nil)
theorem TM{l:List Cu}(h:(Nat.ble l.length 64&&fY l&&l.all fun c=>Nat.ble (aW c.value) 2000&&!ct c.value&&decide (dC c.value=0)&&decide (iO c.value=[]))=true):aP p_ 98 [.sl 2 (az l)] (.aF [.sl 2 (az l),i_ 0]):=by
 simp only[On,By,OF,acM]at h;obtain⟨⟨h1,h2⟩,h3⟩:=h;have hz:∀c∈l,aW c.value≤2000:=fun c hc=>nO (h3 c hc).1.1.1;have:=Ar (nO h1) h2 (fun c hc=>acy (hz c hc) (by decide)) (fun c hc=>(h3 c hc).1.2)
 rwa [S0 (uT h2) hz (fun c hc=>(h3 c hc).1.1.2) (fun c hc=>(h3 c hc).1.2) (fun c hc=>(h3 c hc).2)]at this
theorem Y6:aP p_ 98 [.sl 2 [DN [45,45,112] 5000]] (.aF [.sl 2 (az Y8),i_ 0]):=
 (TM (l:=Y8) (by decide +kernel)).arg (.cons (.sl (.cons (Rx _ _) .nil)) .nil) (by simp[DN])
theorem Y7:aP p_ 98 [.sl 2 [DN [45,45,97] 1000,DN [45,45,112] 5000]] (.aF [.sl 2 (az Y9),i_ 0]):=
 (TM (l:=Y9) (by decide +kernel)).arg (.cons (.sl (.cons (Rx _ _) (.cons (Rx _ _) .nil))) .nil) (by simp[DN])
theorem zG{xs ys:List AV}(h:yp xs ys=true):xs=ys:=by
 unfold yp at h;have:=qS _ _ h;cases this;rfl
def Ut(a:AV):AV:=match a with|.sb _ sz rows=>.sl sz rows|_=>a
theorem aav(id sz:Nat)(rows:List (List AV)):tn (.sb id sz rows) (.sl sz rows):=by
 intro ι S w v r;rw[ax]at r;rw[ax];exact r.1
theorem Qc(a:AV):tn a (Ut a):=by
 cases a with
 | sb id sz rows=>exact aav id sz rows
 | _=>exact tn.refl _
def SZ(a:AV):Option AV:=match yp [a] [.v (.slice none 0 0)] with
 | true=>some (.aF [.v (.slice none 0 0),i_ 0])
 | false=>(match yp [a] [.sl 2 [DN [45,45,112] 5000]] with
   | true=>some (.aF [.sl 2 (az Y8),i_ 0])
   | false=>(match yp [a] [.sl 2 [DN [45,45,97] 1000,DN [45,45,112] 5000]] with
     | true=>some (.aF [.sl 2 (az Y9),i_ 0])
     | false=>none))
theorem W0{a r:AV}(e:SZ a=some r):aP p_ 98 [a] r:=by
 unfold SZ at e;split at e
 ·rename_i ha;have:=zG ha;cases this;cases e;exact JK
 ·split at e
  ·rename_i ha;have:=zG ha;cases this;cases e;exact Y6
  ·split at e
   ·rename_i ha;have:=zG ha;cases this;cases e;exact Y7
   ·cases e
def Iw:aZ:=fun f args h=>match Nat.beq f 98 with
 | true=>(match args with
   | [a]=>(match SZ (Ut a) with|some r=>some (r,none)|none=>none)
   | _=>none)
 | false=>Iv f args h
theorem Pm:dZ p_ Iw:=by
 intro f args h v oh e;unfold Iw at e;split at e
 ·rename_i hf;obtain rfl:=nE hf;split at e
  ·split at e
   ·rename_i r hr;cases e;exact .inl ⟨by kernel_rfl,Ea (Qc _) ((W0 hr).call ⟨rfl,rfl⟩)⟩
   ·cases e
  ·cases e
 ·exact Pl _ _ _ _ _ e
end
section
open Go Go.Aw
variable{K:AV→Prop}
abbrev atR(n:List UInt8)(v:AV)(wh:List UInt8)(o:Int):List AV:=[.str n,v,.str wh,ff,u8 3,tt,i_ 0,i_ 0,i_ 0,i_ 0,i_ o]
abbrev xU(o:Int):List AV:=[i_ 3,i_ 1,i_ 0,i_ 0,i_ 0,i_ 0,i_ o]
abbrev JA:List AV:=[i_ 0,i_ 0,i_ 0,i_ 0,i_ 0,i_ 0,i_ 0]
abbrev ux(l:List AV):dh:=.aC ⟨231,l,true⟩
theorem rM{len sz id o:Nat}{x i:AV}{n:Nat}(ex:x=.op id o)(ei:i=i_ n)(hn:n<len)(q:K (.op id (o+n*sz))):gM len sz x i K:=by
 subst ex;subst ei;exact⟨⟨by omega,by omega⟩,by simpa using q⟩
theorem abh{k k':IntKind}{x:AV}{n m:Int}(e:x=.v (.int k' n))(hm:k.wrap n=m)(q:K (.v (.int k m))):gZ k x K:=by subst hm;exact⟨k',n,e,q⟩
theorem Kg{n wh:List UInt8}{v:AV}{o:Int}(pv:Aw.Pure v)(sv:dH v=true):aP p_ 137 [.agg (atR n v wh o)] (.agg (xU o)):=by
 refine (Xz _).gives (by simp[bf,Aw.Pure,pv]) (by simp[bf,Aw.Pure]) ?_;unfold QL;refine cI (cs:=atR n v wh o) (n:=0) (h':=[.aC ⟨50,atR n v wh o,true⟩]) rfl (by show (dH (.str _)&&(dH _&&_))=true;rw[sv];rfl) rfl rfl ?_;refine cI (cs:=JA) (n:=1) (h':=[_,ux JA]) rfl rfl rfl rfl (aV rfl (aR (id:=0) rfl rfl rfl (abh (m:=3) rfl rfl (aV rfl (aR (id:=0) rfl rfl rfl (aV rfl ?_))))));refine rM (n:=0) rfl rfl (by omega) ?_;refine aR (id:=0) rfl rfl rfl (aV rfl ?_);refine rM (n:=1) rfl rfl (by omega) ?_;refine aR (id:=0) rfl rfl rfl (aV rfl ?_);refine rM (n:=2) rfl rfl (by omega) ?_;refine aR (id:=0) rfl rfl rfl (aV rfl (aR (id:=0) rfl rfl rfl (bt (cs:=[i_ 3,i_ 0,i_ 0,i_ 0,i_ 0,i_ 0,i_ o]) rfl (cI (cs:=JA) (n:=2) (h':=[_,_,ux JA]) rfl rfl rfl rfl (cf (id:=2) (cs:=[i_ 3,i_ 0,i_ 0,i_ 0,i_ 0,i_ 0,i_ o]) (h':=[.aC ⟨50,atR n v wh o,true⟩,ux JA,ux [i_ 3,i_ 0,i_ 0,i_ 0,i_ 0,i_ 0,i_ o]]) rfl rfl rfl rfl (aS _) rfl rfl rfl (ay (aV rfl ?_)))))));refine aR (id:=0) rfl rfl rfl (ao rfl rfl ?_);refine rM (n:=1) rfl rfl (by omega) ?_;refine cf (id:=2) (cs:=[i_ 1]) (h':=[.aC ⟨50,atR n v wh o,true⟩,ux JA,ux (xU o)]) rfl rfl rfl rfl (by show 0+1*1+1≤7;omega) rfl rfl rfl ?_;refine af (ay (aV rfl (aR (id:=0) rfl rfl rfl (ah rfl rfl (af (cY (id:=2) rfl rfl (aS 7) (cf (id:=1) (cs:=xU o) (h':=[.aC ⟨50,atR n v wh o,true⟩,ux (xU o),ux (xU o)]) rfl rfl rfl rfl (aS _) rfl rfl rfl ?_)))))));refine cY (id:=1) rfl rfl (aS 7) ?_;exact .pure (by simp[bf,Aw.Pure]) rfl
theorem QZ{n wh n' wh':List UInt8}{v v':AV}{o o':Int}(pv:Aw.Pure v)(sv:dH v=true)(pv':Aw.Pure v')(sv':dH v'=true):aP p_ 93 [.agg (atR n v wh o),.agg (atR n' v' wh' o')] (b_ (decide (o<o'))):=by
 refine (V93 _ _).gives (by simp[bf,Aw.Pure,pv,pv']) (by simp) ?_;unfold YF;refine cI (cs:=atR n v wh o) (n:=0) (h':=[.aC ⟨50,atR n v wh o,true⟩]) rfl (by show (dH (.str _)&&(dH _&&_))=true;rw[sv];rfl) rfl rfl ?_;refine cI (cs:=atR n' v' wh' o') (n:=1) (h':=[.aC ⟨50,atR n v wh o,true⟩,.aC ⟨50,atR n' v' wh' o',true⟩]) rfl (by show (dH (.str _)&&(dH _&&_))=true;rw[sv'];rfl) rfl rfl ?_;refine cY (id:=0) rfl rfl (aS 11) ?_;refine sw rfl (by kernel_rfl) (Kg pv sv) ?_;refine cY (id:=1) rfl rfl (aS 11) ?_;refine sw rfl (by kernel_rfl) (Kg pv' sv') ?_;refine cf (id:=4) (o:=0) (cs:=xU o) (h':=[.aC ⟨50,atR n v wh o,true⟩,.aC ⟨50,atR n' v' wh' o',true⟩,.dead,.dead,ux (xU o),ux JA]) rfl rfl rfl rfl (aS _) rfl rfl rfl (cf (id:=5) (o:=0) (cs:=xU o') (h':=[.aC ⟨50,atR n v wh o,true⟩,.aC ⟨50,atR n' v' wh' o',true⟩,.dead,.dead,ux (xU o),ux (xU o')]) rfl rfl rfl rfl (aS _) rfl rfl rfl ?_);refine aU (α:=Nat) (fun k=>k≤7∧(k=7→o=o')) (fun k=>[i_ k]) (fun _=>[.aC ⟨50,atR n v wh o,true⟩,.aC ⟨50,atR n' v' wh' o',true⟩,.dead,.dead,ux (xU o),ux (xU o')]) (fun k=>7-k) 0 ⟨by omega,by omega⟩ (Wk.refl _ _ _ (aS _)) ?_;rintro k ⟨hk,hf⟩;refine bB rfl rfl ?_;obtain rfl|rfl|rfl|rfl|rfl|rfl|rfl|rfl:k=0∨k=1∨k=2∨k=3∨k=4∨k=5∨k=6∨k=7:=by omega
 iterate 6
  ·refine ao rfl (by decide) ?_;refine rM (id:=4) (o:=0) rfl rfl (by omega) ?_;refine aR (id:=4) rfl rfl rfl ?_;refine rM (id:=5) (o:=0) rfl rfl (by omega) ?_;refine aR (id:=5) rfl rfl rfl (cZ rfl rfl ?_);refine ah rfl (by simp) ?_;refine di rfl rfl (by unfold aN;omega) ?_;refine af ?_;exact⟨_,⟨by omega,by omega⟩,Wk.refl _ [i_ (((_:Nat)+1:Nat):Int)] _ (aS _),by omega⟩
 ·refine ao rfl (by decide) ?_;refine rM (id:=4) (o:=0) (n:=6) rfl rfl (by omega) ?_;refine aR (id:=4) (c:=i_ o) rfl rfl rfl ?_;refine rM (id:=5) (o:=0) (n:=6) rfl rfl (by omega) ?_;refine aR (id:=5) (c:=i_ o') rfl rfl rfl (cZ rfl rfl ?_);refine fQ rfl (fun hc=>?_) (fun hc=>?_)
  ·refine rM (id:=4) (o:=0) (n:=6) rfl rfl (by omega) ?_;refine aR (id:=4) (c:=i_ o) rfl rfl rfl ?_;refine rM (id:=5) (o:=0) (n:=6) rfl rfl (by omega) ?_;refine aR (id:=5) (c:=i_ o') rfl rfl rfl (bB rfl rfl ?_);exact .pure (by simp) rfl
  ·have e:o=o':=by simpa using hc
   refine di rfl rfl (by unfold aN;omega) ?_;refine af ?_;exact⟨7,⟨by omega,fun _=>e⟩,Wk.refl _ _ _ (aS _),by omega⟩
 ·refine ah rfl (by decide) ?_;refine .pure (by simp) ?_;rw[hf rfl];simp
end
section
open Go Go.Aw Go.RowKit
theorem WB{v:AV}(h:jJ [v]=true):Aw.Pure v:=by
 unfold jJ at h;rw[iU]at h;have:∀a∈[v],Bd 0 a:=fun a ha=>by
  have:=By.1 h a ha;split at this
  ·rename_i z;exact se 0 a (by omega)
  ·cases this
 exact tz v (this v (by simp))
def TH(a:AV):Option (List UInt8×AV×List UInt8×Int):=match a with
 | .agg [.str n,v,.str wh,i,g,t,a,b,c,d,.v (.int .i64 o)]=>(match yp [i,g,t,a,b,c,d] [.v (.bool false),u8 3,.v (.bool true),i_ 0,i_ 0,i_ 0,i_ 0],jJ [v],dH v with
   | true,true,true=>some (n,v,wh,o)
   | _,_,_=>none)
 | _=>none
theorem N5{a:AV}{n wh:List UInt8}{v:AV}{o:Int}(h:TH a=some (n,v,wh,o)):a=.agg (atR n v wh o)∧Aw.Pure v∧dH v=true:=by
 unfold TH at h;split at h
 ·split at h
  ·rename_i h1 h2 h3;have e:=zG h1;cases e;cases h;exact⟨rfl,WB h2,h3⟩
  ·cases h
 ·cases h
def Z0(args:List AV):Option AV:=match args with
 | [x,y]=>(match TH x,TH y with
   | some (_,_,_,o),some (_,_,_,o')=>some (.v (.bool (tW o o')))
   | _,_=>none)
 | _=>none
def vQ:aZ:=fun f args h=>match Nat.beq f 93 with
 | true=>(match Z0 args with|some r=>some (r,none)|none=>none)
 | false=>Iw f args h
theorem uM:dZ p_ vQ:=by
 intro f args h v oh e;unfold vQ at e;split at e
 ·rename_i hf;obtain rfl:=nE hf;split at e
  ·rename_i r hr;cases e;unfold Z0 at hr;split at hr
   ·split at hr
    ·rename_i q1 q2;cases hr;obtain⟨rfl,p1,s1⟩:=N5 q1;obtain⟨rfl,p2,s2⟩:=N5 q2;rw[o8];exact .inl ⟨by kernel_rfl,(QZ p1 s1 p2 s2).call ⟨rfl,rfl⟩⟩
    ·cases hr
   ·cases hr
  ·cases e
 ·exact Pm _ _ _ _ _ e
def qZ:AV:=.v (.int .u8 0)
def qN:AV:=.v (.slice none 0 0)
def qF:AV:=.v (.bool false)
def qT:AV:=.v (.bool true)
def qE:AV:=.str []
def qO:AV:=i_ 0
def qR(l:List UInt8):List AV:=[.v (.int .u8 1),.str l,i_ 0,.v (.int .u8 0),.v (.int .u8 0),.v (.int .u8 0),.v (.int .u8 0)]
def qV(k:Int)(n:Int):List AV:=[.v (.int .u8 k),.str [],i_ n,.v (.int .u8 0),.v (.int .u8 0),.v (.int .u8 0),.v (.int .u8 0)]
def qK(k:Int)(l:List UInt8):List AV:=[.v (.int .u8 k),.str l,i_ 0,.str [],.v (.bool false),.v (.slice none 0 0)]
end
end Go.Proofs.YtldpambpnajgiaaGreatDoor
end
