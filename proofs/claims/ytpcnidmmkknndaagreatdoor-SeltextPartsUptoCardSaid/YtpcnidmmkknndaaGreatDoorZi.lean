/-
 Values of a list read again: the parts of a list.
 No conditions.
-/
import Derived.Test.YtpcnidmmkknndaaGreatDoorTie
import Derived.Test.YtpcnidmmkknndaaGreatDoorCards
import Derived.Lib.LaidTab
import Derived.Lay
import Derived.LaidMore
import Derived.LaidHandle
import Derived.Stop.Joined
import Derived.ChangeSame
import Derived.JoinedCond
import Derived.Test.YtpcnidmmkknndaaGreatDoorProg
import Derived.KernelRfl
import Derived.Tactics
import Derived.Tactics2
import Derived.Defers
import Derived.Laws.Pointers
import Derived.RegionTactic
import Derived.RegionCalls
import Derived.ChangeAlike
import Derived.WalkKit
import Derived.Laws.Externs
import Derived.Lib.Builder
import Derived.Lib.UnsafeStr
import Derived.Test.YtpcnidmmkknndaaGreatDoorZh
import Derived.Test.YtpcnidmmkknndaaGreatDoorZc
import Derived.Test.YtpcnidmmkknndaaGreatDoorZd
import Derived.Test.YtpcnidmmkknndaaGreatDoorZe
import Derived.Test.YtpcnidmmkknndaaGreatDoorZg
import Derived.Test.YtpcnidmmkknndaaGreatDoorZf
set_option linter.unusedVariables false
set_option linter.unusedSimpArgs false
set_option linter.unusedSectionVars false
set_option linter.defProp false
set_option autoImplicit true
set_option maxRecDepth 1000000
set_option maxHeartbeats 16000000
open Go.Proofs.Tryz renaming prog→p_
noncomputable section
namespace Go.Proofs.YtpcnidmmkknndaaGreatDoor
section
open Go Go.Aw Go.dD Go.RowKit
open Go.bo hiding u1 ae
mutual
def hX:Cx→Bool
 | .mk l ps _=>decide (0≤l)&&AE ps
def AE:List Cp→Bool
 | []=>true
 | p:: l=>hP p&&AE l
def hP:Cp→Bool
 | .mk _ ss=>AF ss
def AF:List Sm→Bool
 | []=>true
 | s:: l=>hS s&&AF l
def hS:Sm→Bool
 | .mk _ _ _ _ _ _ _ _ l=>nR l
def nR:List Cx→Bool
 | []=>true
 | x:: l=>hX x&&nR l
end
def AK(sep:Nat→List Vl)(v:List Vl)(vs:List (List Vl)):gB sep (v:: vs)=sep 0++(v++(List.range vs.length).flatMap fun i=>sep (i+1)++vs.getD i []):=by
 unfold gB;rw[aaP,List.range_succ_eq_map,List.flatMap_cons,List.flatMap_map,To];rfl
theorem Ia:∀(ps:List Cp) (cs:List Int),cs.length=ps.length→((List.range (nW ps).length).flatMap fun i=>mX (cs.getD i 0)++(nW ps).getD i [])=cL [] ps cs
 | [],[],_=>by rw[nW,cL.eq_def];rfl
 | p:: ps,c:: cs,h=>by
   rw[nW,aaP,List.range_succ_eq_map,List.flatMap_cons,List.flatMap_map,cL,To,←Ia ps cs (by simpa using h)];rfl
theorem FF:∀(ps:List Cp) (cs:List Int),cs.length=ps.length→ps.length≤(cL [] ps cs).length
 | [],[],_=>aa2 _
 | p:: ps,c:: cs,h=>by
   have:=FF ps cs (by simpa using h);have h1:1≤(mX c).length:=by
    unfold mX
    by_cases h:c=1
    ·rw[if_pos h];exact bY _
    ·rw[if_neg h];show 1≤3;decide
   rw[cL,AT,AT,aaP];omega
def Pe(p:Cp)(ps:List Cp)(cs:List Int)(h:cs.length=ps.length):gB (vJ cs) (nW (p:: ps))=vP p++cL [] ps cs:=by
 rw[nW,AK,←Ia ps cs h];rfl
theorem VZ{fn:ae→List Vl→Sm×Bool}{has rel:Bool}(ok:eS d has rel x=true)(g:gX x=true)(hl:0≤x.lead)(hf:∀p∈x.parts,RU fn p)(pre:List Vl)(hp:pre=[]∨pre=[dW])(ho:Po o):
 kE fn (cN d has) rel (pre++(vX x++o))=(x,true):=by
 obtain⟨l,ps,cs⟩:=x;rw[eS]at ok;simp only[NO,Of,beq_iff_eq,At]at ok;obtain⟨⟨⟨⟨⟨hr,h4⟩,hlen⟩,h64⟩,hc⟩,ops⟩:=ok;rw[gX]at g;cases ps with
 | nil=>simp at hlen
 | cons p ps =>
   have hlen':cs.length=ps.length:=by simpa using hlen
   rw[jQ,NO]at ops;rw[tj,NO]at g;have hl0:0≤l:=hl;obtain⟨v,u,e,hv⟩:=IG p ops.1;have sk:∀q:List Vl,cv (pre++q)=cv q:=by
    intro q;rcases hp with rfl|rfl
    ·rfl
    ·exact xh q
   have skP:cv (vP p++cL o ps cs)=vP p++cL o ps cs:=by rw[e,abv,nB hv.nk.1]
   have ln:ps.length≤(cL o ps cs).length:=by have:=FF ps cs hlen';rw[zE,AT];omega
   have go:∀lead n,ps.length<n→jt fn (cN d has) lead n [] [] (vP p++cL o ps cs)=(.mk lead (p:: ps) cs,true):=fun lead n hn =>
    GZ lead ho ps cs p n [] [] hlen' (fun c h=>by simpa using hc c h) ops.1 ops.2 g.1 g.2 (hf p (abn ..)) (fun q h=>hf q (Lt _ h)) (by simp at h64 ⊢;omega) hn
   unfold kE;have ej:∀q:List Vl,(q++(vP p++cL [] ps cs))++o=q++(vP p++cL o ps cs):=fun q=>by rw[zE o];simp only[To]
   rw[sk,vX,Pe p ps cs hlen',ej];cases rel with
   | false =>
     have l0:l=0:=by simpa using hr
     subst l0;rw[if_neg (show ¬(1:Int)<0 by decide),List.nil_append,skP];dsimp only;rw[if_neg (by decide)];exact go 0 _ (by rw[AT];omega)
   | true =>
     have l0:l≠0:=by simpa using hr
     dsimp only;rw[if_pos rfl]
     by_cases h1:1<l
     ·rw[if_pos h1];have:cv (([ju (bC_ l),dW]:List Vl)++(vP p++cL o ps cs))=ju (bC_ l):: dW:: (vP p++cL o ps cs):=by
       show cv (ju (bC_ l):: dW:: (vP p++cL o ps cs))=_;rw[nB (show (ju (bC_ l)).kind≠13 by show (9:Int)≠13;decide)]
      rw[this,Kk (by omega) h4,xh,skP];dsimp only;rw[if_neg l0];exact go l _ (by rw[AT];omega)
     ·have l1:l=1:=by omega
      subst l1;rw[if_neg h1,List.nil_append,skP,show kv (vP p++cL o ps cs)=(0,vP p++cL o ps cs) by rw[e,abv];exact O6 hv];dsimp only;rw[if_pos rfl];exact go 1 _ (by rw[AT];omega)
def VY{fn:ae→List Vl→Sm×Bool}{ok:Cp→Bool}{rel:Bool}(h:kE fn ok rel (q++(vX x++[]))=(x,true)):kE fn ok rel (q++vX x)=(x,true):=by rwa [aaZ]at h
def NC(l:List Vl):Prop:=∀v∈l,v.kind≠18
def NC.app(x:NC a)(y:NC b):NC (a++b):=fun v hv=>(Is.1 hv).elim (x v) (y v)
def nq(h:v.kind≠18):NC [v]:=fun u hu=>by rw[TO.1 hu];exact h
def ux(h:v.kind≠18)(h2:w.kind≠18):NC [v,w]:=(nq h).app (nq h2)
theorem po:∀a:List Vl,NC a→dR a=[a]
 | [],_=>by rw[dR]
 | v:: a,h=>by rw[dR,if_neg (h v (abn ..)),po a fun u hu=>h u (Lt _ hu)]
theorem Il(r:List Vl):∀a:List Vl,NC a→dR (a++jW:: r)=a:: dR r
 | [],_=>by rw[List.nil_append,dR,if_pos (show jW.kind=18 from rfl)]
 | v:: a,h=>by rw[abv,dR,if_neg (h v (abn ..)),Il r a fun u hu=>h u (Lt _ hu)]
theorem Z0:∀s:Sm,NC (vS s)
 | .mk k n o v f a b w l=>by
   have d:∀{k:Int} {t:ae} {n:Int} {u:ae} {f:Bool} {l:List Vl},k≠18→(Vl.mk k t n u f l).kind≠18:=fun h=>h;rw[vS]
   by_cases k1:k=1
   ·rw[if_pos k1];exact nq (d (by decide))
   rw[if_neg k1]
   by_cases k2:k=2
   ·rw[if_pos k2];exact ux (d (by decide)) (d (by decide))
   rw[if_neg k2]
   by_cases k3:k=3
   ·rw[if_pos k3];exact nq (d (by decide))
   rw[if_neg k3]
   by_cases fr:kq k a b w=true
   ·rw[if_pos fr];exact ux (d (by decide)) (d (by decide))
   rw[if_neg fr]
   by_cases k8:k≤8
   ·rw[if_pos k8];exact ux (d (by decide)) (d (by decide))
   ·rw[if_neg k8];exact ux (d (by decide)) (d (by decide))
theorem Pm:∀l:List Sm,NC (nC l)
 | []=>by rw[nC];exact fun _ h=>absurd h (List.not_mem_nil)
 | s:: l=>by rw[nC];exact (Z0 s).app (Pm l)
theorem Ui:∀p:Cp,NC (vP p)
 | .mk t ss=>by
   rw[vP];refine NC.app ?_ (Pm ss)
   by_cases h42:t=[42]
   ·rw[if_pos h42];exact nq (show (9:Int)≠18 by decide)
   rw[if_neg h42]
   by_cases h0:t=[]
   ·rw[if_pos h0];exact fun _ h=>absurd h (List.not_mem_nil)
   ·rw[if_neg h0];exact nq (show (1:Int)≠18 by decide)
theorem HJ:∀(ps:List Cp) (cs:List Int),NC (cL [] ps cs)
 | [],_=>by rw[cL.eq_def];exact fun _ h=>absurd h (List.not_mem_nil)
 | _:: _,[]=>by rw[cL.eq_def];exact fun _ h=>absurd h (List.not_mem_nil)
 | p:: ps,c:: cs=>by
   rw[cL];refine NC.app ?_ ((Ui p).app (HJ ps cs));unfold mX
   by_cases h:c=1
   ·rw[if_pos h];exact nq (show (13:Int)≠18 by decide)
   ·rw[if_neg h];exact (nq (v:=dW) (show (13:Int)≠18 by decide)).app (ux (show (9:Int)≠18 by decide) (show (13:Int)≠18 by decide))
def Uj{has rel:Bool}(ok:eS d has rel x=true):NC (vX x):=by
 obtain⟨l,ps,cs⟩:=x;rw[eS]at ok;simp only[NO,Of,beq_iff_eq,At]at ok;obtain⟨⟨⟨⟨⟨hr,h4⟩,hlen⟩,h64⟩,hc⟩,ops⟩:=ok;cases ps with
 | nil=>simp at hlen
 | cons p ps =>
   rw[vX,Pe p ps cs (by simpa using hlen)];refine NC.app ?_ ((Ui p).app (HJ ps cs))
   by_cases h:1<l
   ·rw[if_pos h];exact ux (show (9:Int)≠18 by decide) (show (13:Int)≠18 by decide)
   ·rw[if_neg h];exact fun _ h=>absurd h (List.not_mem_nil)
def tF:List Cx→List Vl
 | []=>[]
 | x:: l=>jW:: dW:: (vX x++tF l)
theorem Iw:∀l:List Cx,((List.range (jE l).length).flatMap fun i=>jc (i+1)++(jE l).getD i [])=tF l
 | []=>by rw[jE,tF];rfl
 | x:: l=>by
   rw[jE,aaP,List.range_succ_eq_map,List.flatMap_cons,List.flatMap_map,tF,To,←Iw l];rfl
def RH(x:Cx)(l:List Cx):vL (x:: l)=vX x++tF l:=by
 unfold vL;rw[jE,AK,←Iw];rfl
theorem Dj{has rel:Bool}:∀(l:List Cx) (a:List Vl),NC a→cX d has rel l=true→dR (a++tF l)=a:: l.map fun x=>dW:: vX x
 | [],a,h,_=>by rw[tF,aaZ,po a h];rfl
 | x:: l,a,h,ok=>by
   rw[cX,NO]at ok;rw[tF,Il _ a h];have:=Dj l (dW:: vX x) ((nq (v:=dW) (show (13:Int)≠18 by decide)).app (Uj ok.1)) ok.2;rw[abv]at this;rw[this];rfl
theorem HX{cp:List Vl→Cx×Bool}{forg:Bool}:∀(l:List Cx) (acc:List Cx),(∀x∈l,cp (dW:: vX x)=(x,true))→fu cp forg (l.map fun x=>dW:: vX x) acc=(acc++l,true)
 | [],acc,_=>by rw[List.map_nil,fu,aaZ]
 | x:: l,acc,h=>by
   rw[GO,fu,h x (abn ..),if_pos rfl,HX l _ fun y hy=>h y (Lt _ hy),To];rfl
theorem Wm{cp:List Vl→Cx×Bool}{forg:Bool}{has rel:Bool}(ok:cX d has rel l=true)(pre:List Vl)(hp:pre=[]∨pre=[dW])(hc:∀x∈l,∀q,(q=[]∨q=[dW])→cp (q++vX x)=(x,true))
 (hn:l=[]→forg=true∧(cp pre).2=false):fu cp forg (dR (pre++vL l)) []=(l,true):=by
 have np:NC pre:=by rcases hp with rfl|rfl;exact (fun _ h=>absurd h (List.not_mem_nil));exact nq (show (13:Int)≠18 by decide)
 cases l with
 | nil =>
   obtain⟨h1,h2⟩:=hn rfl;rw[show vL []=[] from rfl,aaZ,po _ np,fu,h2,if_neg (by decide),if_pos h1,fu]
 | cons x l =>
   rw[cX,NO]at ok;rw[RH,←To,Dj l _ (np.app (Uj ok.1)) ok.2,fu,hc x (abn ..) pre hp,if_pos rfl,HX l _ fun y hy=>hc y (Lt _ hy) [dW] (Or.inr rfl)];rfl
def Pq(A B:Int):∀v∈lX A B,ja v=false:=by
 have hk:∀t:Tok,t.k≠1→ja (gD t [])=false:=fun t h=>by
  unfold ja;rw[show (gD t []).kind=t.k from rfl,nO h,Bool.false_and]
 have hh:∀(c:UInt8) (y:ae),bo.dX c≠111→ja (gD ⟨1,c:: y,0,[],false⟩ [])=false:=fun c y h=>by
  unfold ja;rw[show (gD ⟨1,c:: y,0,[],false⟩ []).text=c:: y from rfl,nO (show ¬cg (c:: y)=[111,102] from fun e=>h (List.head_eq_of_cons_eq e)),Bool.and_false]
 have hn:ja (gD (lM B) [])=false:=hk _ (show (10:Int)≠1 by decide);have ht:∀t∈jC B,ja (gD t [])=false:=fun t h=>by
  unfold jC at h;split at h
  ·rw[TO.1 h];exact hn
  ·cases h
 intro v hv;unfold lX at hv;obtain⟨t,h,rfl⟩:=aaT.1 hv;unfold oS at h;split at h
 ·rw[TO.1 h];exact hn
 ·rcases ID.1 h with rfl|h
  ·split
   ·exact hh 110 _ (by decide)
   ·split
    ·exact hh 45 _ (by decide)
    ·exact hk _ (show (12:Int)≠1 by decide)
  ·exact ht t h
theorem Hk(q:List Vl):∀p:List Vl,(∀v∈p,ja v=false)→(p++dW:: lf 1 [111,102] false:: q).findIdx? ja=some (p.length+1)
 | [],_=>rfl
 | v:: p,h=>by
   rw[abv,List.findIdx?_cons,h v (abn ..),if_neg (by decide),Hk q p fun u hu=>h u (Lt _ hu)];rfl
theorem Hj:∀p:List Vl,(∀v∈p,ja v=false)→p.findIdx? ja=none
 | [],_=>rfl
 | v:: p,h=>by
   rw[List.findIdx?_cons,h v (abn ..),if_neg (by decide),Hj p fun u hu=>h u (Lt _ hu)];rfl
def MU(A B:Int):(oS A B).length≤2:=by
 have:(jC B).length≤1:=by unfold jC;split<;>simp
 unfold oS;split
 ·simp
 ·rw[aaP];omega
def Lf(ha:bo.gu a=true)(hb:bo.gu b=true)(sp:List Vl)(hs:sp=[]∨sp=[dW])(k:Int)(w:Bool)(l:List Cx):sd k w l (lX a b++sp)=(.mk k [] 0 [] false a b w l,true):=by
 have hS:Sh 0 (lX a b++sp):=(LV 0 a b).app (by rcases hs with rfl|rfl;exact Sh.nil 0;exact qR 0);have tk:bu (lX a b++sp)=oS a b++bu sp:=by rw[eZ];unfold lX;rw[zK _ (CE a b)]
 have h13:∀t∈bu sp,t.k=13:=by
  intro t ht;rcases hs with rfl|rfl
  ·rw[cE]at ht;cases ht
  ·rw[bD,cE,aaZ,JN,TO]at ht;rw[ht]
 have hc:dh (lX a b++sp)≤1500:=by
  rw[←mq,tk,AT];have h1:=MU a b;have h2:(bu sp).length≤1:=by
   rcases hs with rfl|rfl
   ·rw[cE];decide
   ·rw[bD,cE,aaZ,JN];exact bY _
  omega
 unfold sd;rw[if_pos (GS _ (hS.1 0 (Or.inl rfl)) (aa7 hS.2 (aa2 _)) hc),tk,VO a b (xV ha).1 (xV hb).1 _ h13]
def Hv:∀i,i<11→kT dY (cg (dY.getD i []))=i:=by
 intro i h
 match i,h with
 | 0,_=>rfl
 | 1,_=>rfl
 | 2,_=>rfl
 | 3,_=>rfl
 | 4,_=>rfl
 | 5,_=>rfl
 | 6,_=>rfl
 | 7,_=>rfl
 | 8,_=>rfl
 | 9,_=>rfl
 | 10,_=>rfl
def Rk(d:Nat):Prop:=∀(has rel forg:Bool) (l:List Cx) (pre:List Vl),cX d has rel l=true→jK l=true→nR l=true→(l=[]→forg=true)→(pre=[]∨pre=[dW])→kz (3-d) has (pre++vL l) rel forg=(l,true)
def NH(p q:List Vl):(p++x:: y:: q).drop (p.length+2)=q:=by
 rw[show p++x:: y:: q=(p++[x,y])++q by simp,show p.length+2=(p++[x,y]).length by simp,List.drop_left]
def take_one(p q:List Vl):(p++x:: y:: q).take (p.length+1)=p++[x]:=by
 rw[show p++x:: y:: q=(p++[x])++(y:: q) by simp,show p.length+1=(p++[x]).length by simp,List.take_left]
theorem ZP(hd:d≤3){has:Bool}(hk:d<3→Rk (d+1)):∀s:Sm,ic d has s=true→gS s=true→hS s=true→Fo (iz (dm d has)) s
 | .mk k n o v f a b w l,ok,g,hh=>by
   intro k9 fr;rw[ic,NO]at ok;obtain⟨ob,ol⟩:=ok;rw[gS,NO]at g;rw[hS]at hh;rw[jq,if_neg (by omega),if_neg (by omega)]at ob;simp only[NO,Of,abm]at ob;obtain⟨⟨⟨⟨⟨hn,h0⟩,hv⟩,hf0⟩,hkk⟩,hi⟩:=ob;obtain⟨i,hi11,rfl⟩:∃i:Nat,i<11∧k=4+(i:Int):=⟨(k-4).toNat,by omega,by omega⟩;rw[show ((4+(i:Int))-4).toNat=i by omega];unfold iz;dsimp only;rw[Hv i hi11,if_neg (show ¬((i:Int)<5) by omega)];have inner:gw (4+(i:Int)) w=true→∀(pre:List Vl),(pre=[]∨pre=[dW])→dm d has (4+(i:Int)) (pre++vL l) (decide (4+(i:Int)=14)) (nF (4+(i:Int)))=some (l,true):=by
    intro hL pre hp;rw[if_pos hL]at ol;simp only[NO,Of,abm]at ol;obtain⟨⟨⟨d3,h14⟩,hfree⟩,okl⟩:=ol;unfold dm;have hin:ij d has (4+(i:Int))=true:=by
     unfold ij;rw[nO d3,Bool.false_or,h14];rfl
    rw[if_pos hin]
    by_cases dd:d<3
    ·rw[hk dd _ _ _ l pre okl g.2 hh (fun e=>by rw[e]at hfree;simpa using hfree) hp]
    ·exact absurd (show d=3 by omega) d3
   subst hn h0 hv hf0
   by_cases i7:(i:Int)<7
   ·rw[if_pos i7];have nt:eO (4+(i:Int))=true:=by unfold eO;simp;omega
    have n14:decide (4+(i:Int)=14)=false:=nO (by omega);have nfr:nF (4+(i:Int))=false:=by unfold nF;simp;omega
    rw[if_pos nt]at hi;simp only[NO]at hi;rw[n14,nfr]at inner;unfold pb;rw[if_pos nt];unfold vC;cases w with
    | true =>
      have hL:gw (4+(i:Int)) true=true:=by unfold gw;rw[nt];rfl
      rw[if_pos rfl,To];rw[show ([dW,lf 1 [111,102] false,dW]:List Vl)++gB jc (jE l)=dW:: lf 1 [111,102] false:: ([dW]++vL l) from rfl];rw[Hk _ _ (Pq a b)];dsimp only;have e1:(lX a b++dW:: lf 1 [111,102] false:: ([dW]++vL l)).drop ((lX a b).length+1+1)=[dW]++vL l:=NH _ _;have e2:(lX a b++dW:: lf 1 [111,102] false:: ([dW]++vL l)).take ((lX a b).length+1)=lX a b++[dW]:=take_one _ _;rw[e1,e2,inner hL [dW] (Or.inr rfl)];dsimp only;exact Lf hi.1 hi.2 [dW] (Or.inr rfl) _ true l
    | false =>
      have hL:gw (4+(i:Int)) false=false:=by unfold gw;rw[nt];simp;omega
      rw[if_neg (by rw[hL];decide)]at ol;have e:l=[]:=List.isEmpty_iff.1 ol;subst e;rw[if_neg (by decide),aaZ,show gB jc (jE [])=[] from rfl,aaZ,Hj _ (Pq a b)];dsimp only;have:=Lf hi.1 hi.2 [] (Or.inl rfl) (4+(i:Int)) false [];rw[aaZ]at this;exact this
   ·rw[if_neg i7];have nt:eO (4+(i:Int))=false:=by unfold eO;simp;omega
    rw[nt,if_neg (by decide)]at hi;simp only[NO,Of,abm]at hi;obtain⟨⟨a0,b0⟩,w0⟩:=hi;have hL:gw (4+(i:Int)) w=true:=by unfold gw;simp;omega
    have fr':decide (4+(i:Int)≤12)=nF (4+(i:Int)):=by unfold nF;rw[Bool.eq_iff_iff];simp;omega
    unfold pb;rw[nt,if_neg (by decide),List.nil_append,fr'];have:=inner hL [] (Or.inl rfl);rw[List.nil_append]at this;rw[show gB jc (jE l)=vL l from rfl,this];subst a0 b0 w0;rfl
theorem BK:∀l,AE l=l.all hP
 | []=>by simp[AE]
 | p:: l=>by simp[AE,BK l]
theorem BL:∀l,AF l=l.all hS
 | []=>by simp[AF]
 | s:: l=>by simp[AF,BL l]
theorem BM:∀l,nR l=l.all hX
 | []=>by simp[nR]
 | x:: l=>by simp[nR,BM l]
def VW(hd:d≤3)(hk:d<3→Rk (d+1)){has rel:Bool}(ok:eS d has rel x=true)(g:gX x=true)(hh:hX x=true)(q o:List Vl)(hq:Po q)(ho:Po o):kE (iz (dm d has)) (cN d has) rel (q++(vX x++o))=(x,true):=by
 obtain⟨ld,ps,cs⟩:=x;have h3:=hh;rw[hX,NO]at h3;refine VZ ok g (oN h3.1) ?_ q hq ho;intro p hpp s hs;have o1:jQ d has ps=true:=by rw[eS,NO]at ok;exact ok.2
 rw[ml,At]at o1;rw[gX,xG,At]at g;have h4:=h3.2;rw[BK,At]at h4;obtain⟨t,ss⟩:=p;have o2:=o1 _ hpp;have g2:=g _ hpp;have k2:=h4 _ hpp;rw[cN,NO]at o2;have o3:=o2.2;rw[kU,At]at o3;rw[gP,xH,At]at g2;rw[hP,BL,At]at k2;exact ZP hd hk s (o3 _ hs) (g2 _ hs) (k2 _ hs)
def DP(hd:d≤3)(hk:d<3→Rk (d+1)):Rk d:=by
 intro has rel forg l pre ok g hh hn hp;rw[nw hd];rw[xI,At]at g;rw[BM,At]at hh;have okx:=ok;rw[kV,At]at okx;refine Wm ok pre hp (fun x hx q hq=>VY (VW hd hk (okx _ hx) (g _ hx) (hh _ hx) q [] hq (Or.inl rfl))) fun e=>⟨hn e, ?_⟩;have e0:cN d has (.mk [] [])=false:=by rw[cN];simp
 have es:cv pre=[]:=by rcases hp with rfl|rfl<;>rfl
 unfold kE;rw[es];cases rel
 ·dsimp only;rw[if_neg (by decide),jt.eq_def];dsimp only[abr];rw[ep,di];dsimp only;rw[e0,if_neg (by decide)]
 ·rw[show kv []=(0,[]) from rfl];dsimp only;rw[if_pos rfl,jt.eq_def];dsimp only[abr];rw[ep,di];dsimp only;rw[e0,if_neg (by decide)]
def Z7:Rk 3:=DP (bY _) fun h=>absurd h (by decide)
def Z6:Rk 2:=DP (by decide) fun _=>Z7
def Ol:Rk 1:=DP (by decide) fun _=>Z6
def UK:Rk 0:=DP (by decide) fun _=>Ol
def Z5(ok:cX 0 false false l=true)(g:jK l=true)(h:nR l=true)(hn:l≠[])(pre:List Vl)(hp:pre=[]∨pre=[dW]):kz 3 false (pre++vL l) false false=(l,true):=
 UK false false false l pre ok g h (fun e=>absurd e hn) hp
end
section
open Go Go.Aw Go.bo Go.ChangeShapes Go.WideShapes Go.ChangeAt Go.RowKit
def Fs(ht:P.underlying t=some (.int .u8))(hc:P.cellsOf t=1):nj F P t (fun n:Nat=>[u1 (n:Int)]) (fun _=>1):=by
 intro H enc W fuel cs d ps _ h;obtain⟨n,rfl,e,hn⟩:=DataW.trod_int ht h;simp only[aaY]at e;obtain⟨rfl,_⟩:=e;have h0:0≤n:=by
  rw[Lit.wf,NO,Of]at hn;exact Int.le_trans (show (0:Int)≤IntKind.u8.min by decide) hn.1
 obtain⟨m,rfl⟩:=Int.eq_ofNat_of_zero_le h0;exact⟨m,by simp,by simp[hc],by simp[Rows.uptoBulk]⟩
def HV(h:nj F P t (fun l:List {x:Cx // gX x=true∧hX x=true} => [.sl n (l.map fun x=>fJ x.1)]) (fun l=>(l.map fun x=>zX x.1).sum+1)):
 nj F P t (fun l:{l:List Cx // jK l=true∧nR l=true} => [.sl n (bL l.1)]) (fun l=>cQ l.1+1):=by
 intro H enc W fuel cs d ps hF h0;obtain⟨l,h1,h2,h3⟩:=h H enc W fuel cs d ps hF h0;have e1:(l.map fun x=>fJ x.1)=bL (l.map (·.1)):=by rw[cu,List.map_map];rfl
 have e2:(l.map fun x=>zX x.1).sum=cQ (l.map (·.1)):=by rw[←Ir,List.map_map];rfl
 refine⟨⟨l.map (·.1), ?_⟩, ?_,h2, ?_⟩
 ·rw[xI,BM,At,At];exact⟨fun x hx=>by obtain⟨y,_,rfl⟩:=aaT.1 hx;exact y.2.1,fun x hx=>by obtain⟨y,_,rfl⟩:=aaT.1 hx;exact y.2.2⟩
 ·simp only at h1 ⊢;rw[←e1];exact h1
 ·simp only at h3 ⊢;rw[←e2];exact h3
def Q4(h:nj F P t (fun l:List {x:Sm // gS x=true∧hS x=true} => [.sl n (l.map fun x=>du x.1)]) (fun l=>(l.map fun x=>zS x.1).sum+1)):
 nj F P t (fun l:{l:List Sm // uo l=true∧AF l=true} => [.sl n (dQ l.1)]) (fun l=>gL l.1+1):=by
 intro H enc W fuel cs d ps hF h0;obtain⟨l,h1,h2,h3⟩:=h H enc W fuel cs d ps hF h0;have e1:(l.map fun x=>du x.1)=dQ (l.map (·.1)):=by rw[dE,List.map_map];rfl
 have e2:(l.map fun x=>zS x.1).sum=gL (l.map (·.1)):=by rw[←Iq,List.map_map];rfl
 refine⟨⟨l.map (·.1), ?_⟩, ?_,h2, ?_⟩
 ·rw[xH,BL,At,At];exact⟨fun x hx=>by obtain⟨y,_,rfl⟩:=aaT.1 hx;exact y.2.1,fun x hx=>by obtain⟨y,_,rfl⟩:=aaT.1 hx;exact y.2.2⟩
 ·simp only at h1 ⊢;rw[←e1];exact h1
 ·simp only at h3 ⊢;rw[←e2];exact h3
def Q3(h:nj F P t (fun l:List {x:Cp // gP x=true∧hP x=true} => [.sl n (l.map fun x=>gR x.1)]) (fun l=>(l.map fun x=>zP x.1).sum+1)):
 nj F P t (fun l:{l:List Cp // tj l=true∧AE l=true} => [.sl n (dn l.1)]) (fun l=>gh l.1+1):=by
 intro H enc W fuel cs d ps hF h0;obtain⟨l,h1,h2,h3⟩:=h H enc W fuel cs d ps hF h0;have e1:(l.map fun x=>gR x.1)=dn (l.map (·.1)):=by rw[dv,List.map_map];rfl
 have e2:(l.map fun x=>zP x.1).sum=gh (l.map (·.1)):=by rw[←Ip,List.map_map];rfl
 refine⟨⟨l.map (·.1), ?_⟩, ?_,h2, ?_⟩
 ·rw[xG,BK,At,At];exact⟨fun x hx=>by obtain⟨y,_,rfl⟩:=aaT.1 hx;exact y.2.1,fun x hx=>by obtain⟨y,_,rfl⟩:=aaT.1 hx;exact y.2.2⟩
 ·simp only at h1 ⊢;rw[←e1];exact h1
 ·simp only at h3 ⊢;rw[←e2];exact h3
def Jx(hX:nj F p_ 22 (fun l:{l:List Cx // jK l=true∧nR l=true} => [.sl 3 (bL l.1)]) (fun l=>cQ l.1+1)):nj F p_ 46 (fun s:{s:Sm // gS s=true∧hS s=true} => du s.1) (fun s=>zS s.1):=by
 intro H enc W fuel cs d ps hF h;obtain⟨xs,n,rfl,e1,hl,hn,hf⟩:=DataW.trod_struct Tryz.underlying46 h
 match xs,hn with
 | [y0,y1,y2,y3,y4,y5,y6,y7],_ =>
   have h0:=hf 0 _ rfl;have h1:=hf 1 _ rfl;have h2:=hf 2 _ rfl;have h3:=hf 3 _ rfl;have h4:=hf 4 _ rfl;have h5:=hf 5 _ rfl;have h6:=hf 6 _ rfl;have h7:=hf 7 _ rfl;rw[show p_.cellsOf 46=9 by kernel_rfl]at hl
   match cs,hl with
   | [c0,c1,c2,c3,c4,c5,c5',c6,c7],_ =>
     obtain⟨k,r0,_,_⟩:=xX (F:=n) Tryz.underlying5 (by kernel_rfl) H enc W n _ y0.1 y0.2 (bY _) h0;obtain⟨na,r1,_,z1⟩:=vD (F:=n) Tryz.underlying9 (by kernel_rfl) H enc W n _ y1.1 y1.2 (bY _) h1;obtain⟨o,r2,_,_⟩:=Fs (F:=n) Tryz.underlying5 (by kernel_rfl) H enc W n _ y2.1 y2.2 (bY _) h2;obtain⟨v,r3,_,z3⟩:=vD (F:=n) Tryz.underlying9 (by kernel_rfl) H enc W n _ y3.1 y3.2 (bY _) h3;obtain⟨f,r4,_,_⟩:=Fq (F:=n) Tryz.underlying4 (by kernel_rfl) H enc W n _ y4.1 y4.2 (bY _) h4;obtain⟨ab,r5,_,_⟩:=Q1 n H enc W n _ y5.1 y5.2 (bY _) h5;obtain⟨w,r6,_,_⟩:=Fq (F:=n) Tryz.underlying4 (by kernel_rfl) H enc W n _ y6.1 y6.2 (bY _) h6;obtain⟨⟨l,gl,hll⟩,r7,_,z7⟩:=hX H enc W n _ y7.1 y7.2 (by omega) h7;simp only[aaY]at e1;obtain⟨rfl,_⟩:=e1;have r0:aB [] (old W) W [u1 k] [c0]:=r0;have r1:aB [] (old W) W [.str na] [c1]:=r1;have r2:aB [] (old W) W [u1 (o:Int)] [c2]:=r2;have r3:aB [] (old W) W [.str v] [c3]:=r3;have r4:aB [] (old W) W [b_ f] [c4]:=r4;have r5:aB [] (old W) W [i_ ab.1,i_ ab.2] [c5,c5']:=r5;have r6:aB [] (old W) W [b_ w] [c6]:=r6;have r7:aB [] (old W) W [.sl 3 (bL l)] [c7]:=r7;refine⟨⟨.mk k na o v f ab.1 ab.2 w l,by rw[gS,gl,Bool.and_true];exact oF (Int.natCast_nonneg o),by rw[hS];exact hll⟩, ?_,by rw[show p_.cellsOf 46=9 by kernel_rfl];rfl, ?_⟩
     ·simp only[du];exact ((((((r0.append r1).append r2).append r3).append r4).append r5).append r6).append r7
     ·simp only at z1 z3 z7;simp only[zS];rw[Rows.uptoBulk];simp only[GO,List.map_nil,Rows.uptoBulkAll];omega
def Ft(hS:nj F p_ 40 (fun l:{l:List Sm // uo l=true∧AF l=true} => [.sl 9 (dQ l.1)]) (fun l=>gL l.1+1)):nj F p_ 42 (fun s:{s:Cp // gP s=true∧hP s=true} => gR s.1) (fun s=>zP s.1):=by
 intro H enc W fuel cs d ps hF h;obtain⟨xs,n,rfl,e1,hl,hn,hf⟩:=DataW.trod_struct Tryz.underlying42 h
 match xs,hn with
 | [y0,y1],_ =>
   have h0:=hf 0 _ rfl;have h1:=hf 1 _ rfl;rw[show p_.cellsOf 42=2 by kernel_rfl]at hl
   match cs,hl with
   | [c0,c1],_ =>
     obtain⟨na,r0,_,z0⟩:=vD (F:=n) Tryz.underlying9 (by kernel_rfl) H enc W n _ y0.1 y0.2 (bY _) h0;obtain⟨⟨l,gl,hll⟩,r1,_,z1⟩:=hS H enc W n _ y1.1 y1.2 (by omega) h1;simp only[aaY]at e1;obtain⟨rfl,_⟩:=e1;have r0:aB [] (old W) W [.str na] [c0]:=r0;have r1:aB [] (old W) W [.sl 9 (dQ l)] [c1]:=r1;refine⟨⟨.mk na l,by rw[gP,gl],by rw[hP,hll]⟩, ?_,by rw[show p_.cellsOf 42=2 by kernel_rfl];rfl, ?_⟩
     ·simp only[gR];exact r0.append r1
     ·simp only at z0 z1;simp only[zP];rw[Rows.uptoBulk];simp only[GO,List.map_nil,Rows.uptoBulkAll];omega
def Gx(hP:nj F p_ 37 (fun l:{l:List Cp // tj l=true∧AE l=true} => [.sl 2 (dn l.1)]) (fun l=>gh l.1+1)):nj (F+1) p_ 39 (fun s:{s:Cx // gX s=true∧hX s=true} => fJ s.1) (fun s=>zX s.1):=by
 intro H enc W fuel cs d ps hF h;obtain⟨xs,n,rfl,e1,hl,hn,hf⟩:=DataW.trod_struct Tryz.underlying39 h
 match xs,hn with
 | [y0,y1,y2],_ =>
   have h0:=hf 0 _ rfl;have h1:=hf 1 _ rfl;have h2:=hf 2 _ rfl;rw[show p_.cellsOf 39=3 by kernel_rfl]at hl
   match cs,hl with
   | [c0,c1,c2],_ =>
     obtain⟨k,r0,_,_⟩:=Fs (F:=n) Tryz.underlying5 (by kernel_rfl) H enc W n _ y0.1 y0.2 (bY _) h0;obtain⟨⟨l,gl,hll⟩,r1,_,z1⟩:=hP H enc W n _ y1.1 y1.2 (by omega) h1;obtain⟨m,r2,_,z2⟩:=Lm n H enc W n _ y2.1 y2.2 (bY _) h2;simp only[aaY]at e1;obtain⟨rfl,_⟩:=e1;have r0:aB [] (old W) W [u1 (k:Int)] [c0]:=r0;have r1:aB [] (old W) W [.sl 2 (dn l)] [c1]:=r1;have r2:aB [] (old W) W [.sl 1 (m.map fun c=>[u1 c])] [c2]:=r2;refine⟨⟨.mk k l m,by rw[gX,gl],by rw[hX,hll,Bool.and_true];exact oF (Int.natCast_nonneg k)⟩, ?_,by rw[show p_.cellsOf 39=3 by kernel_rfl];rfl, ?_⟩
     ·simp only[fJ];exact (r0.append r1).append r2
     ·simp only at z1 z2;simp only[zX];rw[Rows.uptoBulk];simp only[GO,List.map_nil,Rows.uptoBulkAll];omega
theorem HU:∀F,nj F p_ 39 (fun s:{s:Cx // gX s=true∧hX s=true} => fJ s.1) (fun s=>zX s.1)
 | 0=>fun H enc W fuel cs d ps hF h=>by
   obtain rfl:fuel=0:=by omega
   simp[DataW.trod]at h
 | F+1=>by
   have a:=qb Tryz.underlying22 (by kernel_rfl) (lT (by kernel_rfl)) (HU F);rw[show p_.cellsOf 39=3 by kernel_rfl]at a;have a:=HV a;have b:=qb Tryz.underlying40 (by kernel_rfl) (lT (by kernel_rfl)) (Jx a);rw[show p_.cellsOf 46=9 by kernel_rfl]at b;have b:=Q4 b;have c:=qb Tryz.underlying37 (by kernel_rfl) (lT (by kernel_rfl)) (Ft b);rw[show p_.cellsOf 42=2 by kernel_rfl]at c;have c:=Q3 c;exact Gx c
def NZ{H:Type}{enc:TypeId×Value→H}{W:World}{v:Value}{d:DataW H}{ps:List MemPlace}(hna:∀cs,v≠.agg cs)(hnt:∀cs,v≠.tuple cs)(h:DataW.Trod enc p_ W 0 (fun _=>true) true 22 v d ps):
 ∃l:List Cx,ar [] (old W) W (.sl 3 (bL l)) v∧cQ l≤Rows.uptoBulk d∧jK l=true∧nR l=true:=by
 obtain⟨fuel,h⟩:=h;have a:=qb Tryz.underlying22 (by kernel_rfl) (lT (by kernel_rfl)) (HU fuel);rw[show p_.cellsOf 39=3 by kernel_rfl]at a;have a:=HV a;obtain⟨⟨l,gl,hll⟩,h2,_,h4⟩:=a H enc W fuel _ d ps (bY _) h;have e:v.cells.toList=[v]:=by
  cases v<;>first|rfl|(exact absurd rfl (hna _))|(exact absurd rfl (hnt _))
 rw[e]at h2;simp only at h4;exact⟨l,by simpa using h2,by omega,gl,hll⟩
end
section
open Go Go.Aw Go.ChangeShapes Go.WideShapes Go.ChangeAt Go.RowKit
def Oc:ownKnob p_.godebug=none:=by kernel_rfl
def NY:laidOutB p_=true:=by kernel_rfl
abbrev oy:List (String×DataW Unit):=Rows.seltextSpacesRow.laid
def L3(os:Os)(args:Array Value):laidMetH p_ oy ((World.laidAll p_ os oy).forCall (fun _ _=>0) ⟨#[],args,[]⟩).memory:=by
 rw[MakeChecks.laidMetH_plain _ _ _ (by kernel_rfl)];exact laidMet_laidAll _ (by kernel_rfl) (by kernel_rfl)
def FU(os:Os)(args:Array Value):((World.laidAll p_ os oy).forCall (fun _ _=>0) ⟨#[],args,[]⟩).Shaped p_:=World.shaped_of_ZipB (by kernel_rfl) (by kernel_rfl)
def NT{H:Type}{enc:TypeId×Value→H}{P:Program}{w:World}{base fuel:Nat}{spare:Nat→Bool}{held:Bool}{t:TypeId}{cs:List Value}{x:DataW H×List MemPlace}{i:Array (String×TypeId)}(ht:P.underlying t=some (.interface i))(h:DataW.trod enc P w base spare held fuel t cs=some x):cs=[.nilIface]∨∃u v,cs=[.iface u v]:=by
 cases fuel with
 | zero=>simp[DataW.trod]at h
 | succ n =>
   rw[DataW.trod.eq_def]at h;dsimp only at h;rw[ht]at h;split at h<;>first|exact .inl rfl|exact .inr ⟨_,_,rfl⟩|simp_all
def TA{W:World}(h:laidMetH p_ oy W):∃er:Value,(er=.nilIface∨∃te pe,er=.iface te pe)∧W.cell? ⟨7,0,none⟩=some er∧∃ty,W.shape? 7=some (ty,1):=by
 rw[MakeChecks.laidMetH_plain _ _ _ (by kernel_rfl)]at h;obtain⟨ps,⟨_,_,_,_,_,_,_,_,_,_,⟨_,_,_,_,_,_,_,_,_,_,⟨_,_,_,_,_,_,_,_,_,_,⟨_,_,_,_,_,_,_,_,_,_,⟨g,t,cs,fuel,p,q,hg,ht,hv,hd,_,_⟩,_⟩,_⟩,_⟩,_⟩,_⟩:=h;obtain rfl:=DO ((show p_.globalNamed "strconv.ErrRange" = some 7 by kernel_rfl).symm.trans hg);obtain rfl:=DO ((show (p_.globals[7]?).map (·.type)=some 86 by kernel_rfl).symm.trans ht);unfold World.var? at hv;rw[hg,Option.bind_some]at hv;split at hv
 ·rename_i c ty fz hh;cases hv;have one:∀er,cs.toList=[er]→W.cell? ⟨7,0,none⟩=some er∧∃ty,W.shape? 7=some (ty,1):=fun er e=>by
   have ec:cs=#[er]:=Array.ext' (by simpa using e);subst ec;exact⟨by unfold World.cell?;rw[hh];rfl,ty,by unfold World.shape?;rw[hh];rfl⟩
  rcases NT Tryz.underlying86 hd with e|⟨u,v,e⟩
  ·exact⟨_,.inl rfl,one _ e⟩
  ·exact⟨_,.inr ⟨u,v,rfl⟩,one _ e⟩
 ·cases hv
def JA:List Int:=[1,10,100,1000,10000,100000,1000000,10000000,100000000,1000000000,10000000000,100000000000,1000000000000,10000000000000,100000000000000,1000000000000000,10000000000000000,100000000000000000,1000000000000000000,10000000000000000000]
def LA(h:laidMetH p_ oy W):Lib.TabIs p_ W "internal/strconv.uint64pow10" .u64 JA:=by
 rw[MakeChecks.laidMetH_plain _ _ _ (by kernel_rfl)]at h;obtain⟨ps,⟨_,_,_,_,_,_,_,_,_,_,⟨_,_,_,_,_,_,_,_,_,_,⟨g,t,cs,fuel,p,q,hg,ht,hv,hd,_,_⟩,_⟩,_⟩,_⟩:=h;obtain rfl:=DO ((show p_.globalNamed "internal/strconv.uint64pow10" = some 1 by kernel_rfl).symm.trans hg);obtain rfl:=DO ((show (p_.globals[1]?).map (·.type)=some 237 by kernel_rfl).symm.trans ht);unfold Lib.TabIs;rw[hv,←Lib.cells_of_tab (zs:=JA) Tryz.underlying237 Tryz.underlying196 (by kernel_rfl) (by kernel_rfl) hd]
def Dz:List Int:=[0,1,56,2,57,49,28,3,61,58,42,50,38,29,17,4,62,47,59,36,45,43,51,22,53,39,33,30,24,18,12,5,63,55,48,27,60,41,37,16,46,35,44,21,52,32,23,11,54,26,40,15,34,20,31,10,25,14,19,9,13,8,7,6]
def G2(h:laidMetH p_ oy W):Lib.TabIs p_ W "math/bits.deBruijn64tab" .u8 Dz:=by
 rw[MakeChecks.laidMetH_plain _ _ _ (by kernel_rfl)]at h;obtain⟨ps,⟨_,_,_,_,_,_,_,_,_,_,⟨g,t,cs,fuel,p,q,hg,ht,hv,hd,_,_⟩,_⟩,_⟩:=h;obtain rfl:=DO ((show p_.globalNamed "math/bits.deBruijn64tab" = some 3 by kernel_rfl).symm.trans hg);obtain rfl:=DO ((show (p_.globals[3]?).map (·.type)=some 284 by kernel_rfl).symm.trans ht);unfold Lib.TabIs;rw[hv,←Lib.cells_of_tab (zs:=Dz) Tryz.underlying284 Tryz.underlying5 (by kernel_rfl) (by kernel_rfl) hd]
def FL{name:String}{zs:List Int}(h:Lib.TabIs P W name k zs)(hg:P.globalNamed name=some g):∃ty,W.shape? g=some (ty,zs.length):=by
 unfold Lib.TabIs World.var? at h;rw[hg,Option.bind_some]at h;split at h
 ·rename_i c t f hh;simp only[On]at h;subst h;exact⟨t,by unfold World.shape?;rw[hh];simp⟩
 ·cases h
def K6{W:World}(h:W.ShapedOpen p_):∃m:Int,W.cell? ⟨0,0,none⟩=some (.int .i64 m)∧∃ty,W.shape? 0=some (ty,1):=by
 obtain⟨m,hm⟩:=laysM143.s1_3 W h;refine⟨m,hm, ?_⟩;obtain⟨cs,hh,hs,_⟩:=h.1 0 #[.int .i64 0] 3 (oN (by kernel_rfl)) (by kernel_rfl);exact⟨3,by unfold World.shape?;rw[hh];simp only[hs];rfl⟩
def TG[bp](h:laidMetH p_ oy W)(hm:W.cell? ⟨0,0,none⟩=some (.int .i64 bp.m))(hs:∃ty,W.shape? 0=some (ty,1))(he:W.cell? ⟨7,0,none⟩=some bp.er)(hes:∃ty,W.shape? 7=some (ty,1)):CA (old W) W:=by
 intro g cs e;have e:JJ g=some cs:=e;unfold JJ at e;split at e
 ·cases e;exact⟨bE.ints (W:=W) (g:=1) (k:=.u64) (zs:=JA) (fun i hi=>(LA h).cell (by kernel_rfl) i hi),by simpa[JA,OL]using FL (LA h) (g:=1) (by kernel_rfl)⟩
 ·cases e;exact⟨bE.ints (W:=W) (g:=0) (k:=.i64) (zs:=[bp.m]) (fun i hi=>by
   obtain rfl:i=0:=by simpa using hi
   exact hm),by simpa using hs⟩
 ·cases e;refine⟨bE.mk fun i c ec=>?_,by simpa using hes⟩;obtain⟨rfl,rfl⟩:i=0∧c=.v bp.er:=by
   cases i with
   | zero=>simp at ec;exact⟨rfl,ec.symm⟩
   | succ i=>simp at ec
  refine⟨bp.er,he, ?_,by simp⟩;show 7<W.heap.size;unfold World.cell? at he;split at he
  ·rename_i c1 c2 c3 hh;exact (AS.1 hh).1
  ·cases he
 ·cases e;exact⟨bE.ints (W:=W) (g:=3) (k:=.u8) (zs:=Dz) (fun i hi=>(G2 h).cell (by kernel_rfl) i hi),by simpa[Dz,PD]using FL (G2 h) (g:=3) (by kernel_rfl)⟩
 ·cases e
def wI{H:Type}{enc:TypeId×Value→H}{a:Assume}{C:Checked}{os:Os}{f:FuncId}{fn:Func}{F:Stop.Interp}{k:(H:Type)→List (DataW H)→Bool}(hk:s.cond=some k){conds:List PathCond}{apart fresh handsOn again:Bool}{X:World→Array Value→Prop}
 (hX:∀(w w':World) (args:Array Value),w.heap=w'.heap→X w args→X w' args)
 (own:ownKnob C.prog.godebug=none) (started:os.Started) (noInit:C.prog.inits.idxOf? f=none) (hfn:C.prog.funcs[f]?=some fn)
 (witness:∃(w:World) (tape:Tape) (i:Input),w.os=os∧(w.forCall tape i).Shaped C.prog∧i.vars=[]∧Input.okWide C.prog (w.forCall tape i) .any w.heap.size f i ∧
  ((s.pre enc C.prog fn conds apart (w.forCall tape i).memory i.args∧X (w.forCall tape i).memory i.args)∧sizedMet enc C.prog fn s apart (w.forCall tape i).memory i.args)∧a.holds C.prog (lone (Frame.enter C.prog f i.args .normal) [] (w.forCall tape i)))
 (contract:∀(W:World) (base:Nat) (args:Array Value) (ds gs:List (DataW H)) (before:List MemPlace),
  (∀(j:Nat) t v,fn.params[j]?=some t→args[j]?=some v→Value.okWide C.prog W .any base t v) →
  DataW.Whole enc C.prog fn.params.toList s.vars apart W args.toList ds gs before→k H (ds++gs)=true→X W args→W.ShapedOpen C.prog →
  Calls C.prog f args W fun e W' => ∃v,e=.returned v∧(s.at F).post enc C.prog fn apart fresh handsOn again W args v W') :
 ReturnsInHanded a C os f .any (fun w args=>(s.pre enc C.prog fn conds apart w args∧X w args)∧sizedMet enc C.prog fn s apart w args) ((s.at F).post enc C.prog fn apart fresh handsOn again):=by
 refine returnsInHanded_of_calls own started noInit witness ?_;intro w tape i _ hsh _ hok hpre _;obtain⟨_,_,_,fn',hfn',_,_,_,_,hval⟩:=hok;obtain rfl:fn'=fn:=DO (hfn'.symm.trans hfn);obtain⟨⟨h0,hx⟩,_⟩:=hpre;obtain⟨ds,gs,before,hw,_,hkk⟩:=(OpenSpec.pre_some hk conds apart _ _).1 h0;refine (contract (w.forCall tape i) w.heap.size i.args ds gs before hval (DataW.Whole.of_heap (w':=w.forCall tape i) (by rfl) hw) hkk (hX _ _ _ (by rfl) hx) hsh).mono fun e W' ⟨v,he,hp⟩=>?_;subst he;exact ChangeSpec.post_blind hp
def Gg{H:Type}{enc:TypeId×Value→H}{C:Checked}{os:Os}{f:FuncId}{fn:Func}{k:(H:Type)→List (DataW H)→Bool}(hk:s.cond=some k){conds:List PathCond}{apart:Bool}{X:World→Array Value→Prop}(modest:Bool)(w0:World)(args:Array Value)(fuel:Nat)(hos:w0.os=os)
 (hsh:(w0.forCall (fun _ _=>0) ⟨#[],args,[]⟩).Shaped C.prog)
 (hok:Input.okWideB C.prog (w0.forCall (fun _ _=>0) ⟨#[],args,[]⟩) f ⟨#[],args,[]⟩=true)
 {x:List (DataW H)×List (DataW H)×List MemPlace} (hx:DataW.whole enc C.prog (w0.forCall (fun _ _=>0) ⟨#[],args,[]⟩).memory fn.params.toList s.vars apart args.toList fuel=some x)
 (hconds:conds.all (PathCond.test C.prog ⟨fn.params.toList,x.1,s.bare.plain.varTypes C.prog,x.2.1⟩)=true) (hkk:k H (x.1++x.2.1)=true)
 (hsz:s.bare.sizedB enc C.prog fn apart (w0.forCall (fun _ _=>0) ⟨#[],args,[]⟩).memory args fuel=true)
 (hX:X (w0.forCall (fun _ _=>0) ⟨#[],args,[]⟩).memory args) :
 ∃(w:World) (tape:Tape) (i:Input),w.os=os∧(w.forCall tape i).Shaped C.prog∧i.vars=[]∧Input.okWide C.prog (w.forCall tape i) .any w.heap.size f i ∧
  ((s.pre enc C.prog fn conds apart (w.forCall tape i).memory i.args∧X (w.forCall tape i).memory i.args)∧sizedMet enc C.prog fn s apart (w.forCall tape i).memory i.args)∧({ modest:=modest }:Assume).holds C.prog (lone (Frame.enter C.prog f i.args .normal) [] (w.forCall tape i)):=
 ⟨w0,fun _ _=>0,⟨#[],args,[]⟩,hos,hsh,(Input.okWide_of_okWideB (base:=0) hok).1,(Input.okWide_of_okWideB hok).2,
  ⟨⟨(OpenSpec.pre_some hk conds apart _ _).2 ⟨x.1,x.2.1,x.2.2,DataW.Whole_of_whole hx,hconds,hkk⟩,hX⟩,sizedMet_of_sizedB hsz⟩,by
  simp only[Assume.holds];exact⟨by simp,by simp,fun _=>Modest.zero,by simp,by simp⟩⟩
end
section
open Go Go.Aw
variable [Laid]
def Sf(b d:AV)(h:aa)(K:AV→aa→Prop):Prop:=
 bq b fun e=>bq d fun f=>ag .neq e f fun g=>af g (K ff h) (bN [i_ 0] h fun i c a =>
 bq b fun j=>ag .lss (nx c 0) j fun k=>af k (aI 3 b (nx c 0) fun l=>ah true 3 l a fun m=>aI 3 d (nx c 0) fun n=>ah true 3 n a fun o=>iQ p_ 25 [m,o] a fun p=>cr p fun q=>af q (K ff a) (qBe .add (nx c 0) 1 fun r=>eC [b,d] (i [r] a))) (K tt a))
def Xf(a b:AV):Body p_ 11 [a,b] (Sf a b):=bC Tryz.func11 (sn (sn (.seq (sn (.one (.loop [0,1] [5] (sn (.seq (.one (.seq (.draw 10 (oR 0 10 []) [] []) .nil)) .nil))))) .nil))) 27 [.tmp 4]
def Xx(v x:AV)(h:aa)(K:AV→aa→Prop):Prop:=
 aV 39 v h fun b w=>aV 39 x w fun c e=>iFL 0 false 1 b e fun y=>iFL 0 false 1 c e fun z=>ag .neq y z fun A=>qJo A [b,c] e (fun B=>iFL 1 false 1 b e fun C=>bq C fun D=>iFL 1 false 1 c e fun E=>bq E fun F=>ag .neq D F fun G=>B G e) fun H f=>qJo H [b,c] f (fun I=>iFL 2 false 1 b f fun J=>cP J f fun L=>iFL 2 false 1 c f fun M=>cP M f fun N=>ag .neq L N fun O=>I O f) fun P g=>af P (K ff g) (bN [i_ 0] g fun Q d a =>
 iFL 1 false 1 b a fun R=>bq R fun S=>ag .lss (nx d 0) S fun T=>af T (iFL 1 false 1 b a fun U=>aI 2 U (nx d 0) fun V=>iFL 0 false 1 V a fun W=>iFL 1 false 1 c a fun X=>aI 2 X (nx d 0) fun Y=>iFL 0 false 1 Y a fun Z=>ag .neq W Z fun i=>aG (fun j=>aM i false (bg 1 b fun k=>ah false 1 k a fun l=>aI 2 l (nx d 0) fun m=>bg 1 m fun n=>ah false 1 n a fun o=>bg 1 c fun p=>ah false 1 p a fun q=>aI 2 q (nx d 0) fun r=>bg 1 r fun s=>ah false 1 s a fun t=>iQ p_ 41 [o,t] a fun u=>cr u fun a0=>j [k,l,nx d 0,m,n,o,p,q,nx d 0,r,s,t,u,a0] a) (j [un,un,un,un,un,un,un,un,un,un,un,un,un,un] a)) fun a1 _=>bQ i tt (nx a1 13) fun a2=>af a2 (K ff a) (qBe .add (nx d 0) 1 fun a3=>eC [b,c] (Q [a3] a))) (K tt a))
def V25(a b:AV):Body p_ 25 [a,b] (Xx a b):=bC Tryz.func25 (sn (.seq (.seq (.aN (oR 0 6 (.aA 5 false (fR 6 7) [2,3] [11,18]::oR 13 2 (.aA 14 false (fR 15 7) [2,3] [20,27]::.op 22 false::[])))) .nil) (.seq (sn (.one (.loop [2,3] [5] (sn (.seq (.one (.seq (.draw 29 (oR 0 14 (.aA 13 false (fR 14 14) [] [50,51,52,53,54,55,56,57,58,59,60,61,62,63]::.op 28 false::[])) [] []) .nil)) .nil))))) .nil))) 65 [.tmp 4]
def XN(c d:AV)(h:aa)(K:AV→aa→Prop):Prop:=
 bq c fun o=>bq d fun p=>ag .neq o p fun q=>af q (K ff h) (bN [i_ 0] h fun r b a =>
 bq c fun s=>ag .lss (nx b 0) s fun t=>af t (aI 9 c (nx b 0) fun u=>ah true 9 u a fun v=>iQ p_ 56 [v] a fun w=>aI 9 d (nx b 0) fun x=>ah true 9 x a fun y=>iQ p_ 56 [y] a fun z=>mc true [1,2,1,2,0,1,1,0] w z fun e=>aG (fun f=>aM e false (aI 9 c (nx b 0) fun g=>bg 8 g fun i=>ah false 1 i a fun j=>aI 9 d (nx b 0) fun k=>bg 8 k fun l=>ah false 1 l a fun m=>iQ p_ 11 [j,m] a fun n=>cr n fun A=>f [c,nx b 0,g,i,j,d,nx b 0,k,l,m,n,A] a) (f [un,un,un,un,un,un,un,un,un,un,un,un] a)) fun B _=>bQ e tt (nx B 11) fun C=>af C (K ff a) (qBe .add (nx b 0) 1 fun D=>eC [c,d] (r [D] a))) (K tt a))
def V41(a b:AV):Body p_ 41 [a,b] (XN a b):=bC Tryz.func41 (sn (sn (.seq (sn (.one (.loop [0,1] [5] (sn (.seq (.one (.seq (.draw 25 (oR 0 12 (.aA 11 false (fR 12 12) [] [29,30,31,32,33,34,35,36,37,38,39,40]::.op 24 false::[])) [] []) .nil)) .nil))))) .nil))) 42 [.tmp 4]
def W6(a:AV)(h:aa)(K:AV→aa→Prop):Prop:=
 iC p_ 14 [a,i_ 600] h fun b c=>qBe .gtr b 600 fun d=>K d c
def V6(a:AV):Body p_ 6 [a] (W6 a):=bC Tryz.func6 .nil 6 [.tmp 2]
def Xn(b e:AV)(h:aa)(K:AV→aa→Prop):Prop:=
 bN [i_ 0,i_ 0] h fun n a l =>
 bq b fun o=>ag .lss (nx a 1) o fun p=>qJa p [b,e,nx a 0,nx a 1] l (fun q=>ag .leq (nx a 0) e fun r=>q r l) fun s j=>af s (aI 3 b (nx a 1) fun t=>iFL 2 false 1 t j fun u=>bq u fun v=>ag .add (i_ 1) v fun w=>ag .add (nx a 0) w fun x=>bN [x,i_ 0] j fun y c k =>
 aI 3 b (nx a 1) fun z=>iFL 1 false 1 z k fun A=>bq A fun B=>ag .lss (nx c 1) B fun C=>qJa C [b,e,nx c 0,nx a 1,nx c 1] k (fun D=>ag .leq (nx c 0) e fun E=>D E k) fun F f=>af F (aI 3 b (nx a 1) fun G=>iFL 1 false 1 G f fun H=>aI 2 H (nx c 1) fun I=>iFL 0 false 1 I f fun J=>cZ J fun L=>ag .add (i_ 1) L fun M=>ag .add (nx c 0) M fun N=>aI 3 b (nx a 1) fun O=>iFL 1 false 1 O f fun P=>aI 2 P (nx c 1) fun Q=>iFL 1 false 1 Q f fun g=>bN [N,i_ 0] f fun R d m =>
 bq g fun S=>ag .lss (nx d 1) S fun T=>qJa T [b,e,nx d 0,nx a 1,nx c 1,g,nx d 1] m (fun U=>ag .leq (nx d 0) e fun V=>U V m) fun W i=>af W (aI 9 g (nx d 1) fun X=>iFL 1 false 1 X i fun Y=>lq Y fun Z=>ag .add (i_ 1) Z fun a0=>aI 9 g (nx d 1) fun a1=>iFL 3 false 1 a1 i fun a2=>lq a2 fun a3=>ag .add a0 a3 fun a4=>aI 9 g (nx d 1) fun a5=>iFL 8 false 1 a5 i fun a6=>ag .sub e (nx d 0) fun a7=>iQ p_ 14 [a6,a7] i fun a8=>ag .add a4 a8 fun a9=>ag .add (nx d 0) a9 fun b0=>qBe .add (nx d 1) 1 fun b1=>eC [b,e,nx a 1,nx c 1,g] (R [b0,b1] i)) (qBe .add (nx c 1) 1 fun b2=>eC [b,e,nx a 1] (y [nx d 0,b2] i))) (qBe .add (nx a 1) 1 fun b3=>eC [b,e] (n [nx c 0,b3] f))) (K (nx a 0) j)
def V14(a b:AV):Body p_ 14 [a,b] (Xn a b):=bC Tryz.func14 (sn (sn (.seq (sn (.one (.loop [0,1] [5,6] (.seq (.seq (.aN (oR 0 5 (.aA 4 true (fR 5 3) [0,1,5,6] [14,17]::.op 8 false::[]))) .nil) (.seq (.one (sn (sn (.one (.loop [0,1,6] [5,7] (.seq (.seq (.aN (oR 0 9 (.aA 8 true (fR 9 3) [0,1,5,6,7] [38,41]::.op 12 false::[]))) .nil) (.seq (.one (sn (sn (sn (.one (.loop [0,1,6,7,8] [5,9] (.seq (.seq (.aN (oR 0 5 (.aA 4 true (fR 5 3) [0,1,5,6,7,8,9] [71,74]::.op 8 false::[]))) .nil) (.seq (.one (.draw 27 (oR 0 27 []) [] [])) .nil)))))))) .nil))))))) .nil))))) .nil))) 105 [.tmp 4]
def Xl(a:AV)(h:aa)(K:AV→aa→Prop):Prop:=
 iC p_ 24 [a] h fun d b=>cr d fun e=>af e (K (i_ 8) b) (iC p_ 13 [a] b fun f c=>qBe .gtr f 64 fun g=>af g (K (i_ 4) c) (K (i_ 0) c))
def V10(a:AV):Body p_ 10 [a] (Xl a):=bC Tryz.func10 .nil 9 [.tmp 2]
def Xm(b:AV)(h:aa)(K:AV→aa→Prop):Prop:=
 bq b fun j=>bN [j,i_ 0] h fun k a i =>
 bq b fun l=>ag .lss (nx a 1) l fun m=>af m (bN [nx a 0,i_ 0] i fun n c d =>
 aI 3 b (nx a 1) fun o=>iFL 1 false 1 o d fun p=>bq p fun q=>ag .lss (nx c 1) q fun r=>af r (aI 3 b (nx a 1) fun s=>iFL 1 false 1 s d fun t=>aI 2 t (nx c 1) fun u=>iFL 1 false 1 u d fun f=>bN [nx c 0,i_ 0] d fun v e g =>
 bq f fun w=>ag .lss (nx e 1) w fun x=>af x (aI 9 f (nx e 1) fun y=>iFL 8 false 1 y g fun z=>iC p_ 13 [z] g fun A B=>ag .add (nx e 0) A fun C=>qBe .add (nx e 1) 1 fun D=>eC [b,nx a 1,nx c 1,f] (v [C,D] B)) (qBe .add (nx c 1) 1 fun E=>eC [b,nx a 1] (n [nx e 0,E] g))) (qBe .add (nx a 1) 1 fun F=>eC [b] (k [nx c 0,F] d))) (K (nx a 0) i)
def V13(a:AV):Body p_ 13 [a] (Xm a):=bC Tryz.func13 (sn (sn (.seq (sn (.one (.loop [0] [3,4] (sn (.seq (.one (sn (.one (.loop [0,4] [3,5] (sn (.seq (.one (sn (sn (.one (.loop [0,4,5,6] [3,7] .nil))))) .nil)))))) .nil))))) .nil))) 50 [.tmp 2]
def Xw(a:AV)(h:aa)(K:AV→aa→Prop):Prop:=
 bN [i_ 0] h fun e b c =>
 bq a fun f=>ag .lss (nx b 0) f fun g=>af g (aI 3 a (nx b 0) fun i=>ah true 3 i c fun j=>aW (.agg [i_ 0,ff]) [] fun k=>iC p_ 40 [j,k,ff] c fun l d=>cr l fun m=>af m (K ff d) (qBe .add (nx b 0) 1 fun n=>eC [a] (e [n] d))) (bq a fun o=>qBe .gtr o 0 fun p=>K p c)
def V24(a:AV):Body p_ 24 [a] (Xw a):=bC Tryz.func24 (sn (.seq (sn (.one (.loop [0] [3] .nil))) .nil)) 20 [.tmp 2]
def XM(E G J:AV)(h:aa)(K:AV→aa→Prop):Prop:=
 aV 39 E h fun b F=>aV 96 G F fun d e=>iFL 0 false 1 b e fun H=>ag .neq H (u8 0) fun I=>qJ .neq I J fun L=>qJo L [b,d] e (fun M=>iFL 0 false 1 b e fun N=>ag .gtr N (u8 4) fun O=>M O e) fun P g=>qJo P [b,d] g (fun Q=>iFL 1 false 1 b g fun R=>bq R fun S=>qBe .eql S 0 fun T=>Q T g) fun U i=>qJo U [b,d] i (fun V=>iFL 1 false 1 b i fun W=>bq W fun X=>qBe .gtr X 64 fun Y=>V Y i) fun Z f=>qJo Z [b,d] f (fun a0=>iFL 2 false 1 b f fun a1=>bq a1 fun a2=>iFL 1 false 1 b f fun a3=>bq a3 fun a4=>qBe .sub a4 1 fun a5=>ag .neq a2 a5 fun a6=>a0 a6 f) fun a7 l=>af a7 (K ff l) (bN [i_ 0] l fun a8 c a =>
 iFL 1 false 1 b a fun a9=>bq a9 fun b0=>ag .lss (nx c 0) b0 fun b1=>af b1 (iFL 1 false 1 b a fun b2=>aI 2 b2 (nx c 0) fun b3=>ah true 2 b3 a fun b4=>ah true 2 d a fun b5=>iQ p_ 55 [b4,b5] a fun b6=>cr b6 fun j=>aG (fun m=>aM j false (qBe .gtr (nx c 0) 0 fun n=>m [nx c 0,n,n] a) (m [un,un,un] a)) fun k _=>aG (fun o=>aM (nx k 2) true (bg 2 b fun p=>ah false 1 p a fun q=>qBe .sub (nx c 0) 1 fun r=>aI 1 q r fun s=>ah false 1 s a fun t=>ag .lss t (u8 1) fun u=>o [p,q,nx c 0,r,s,t,u,u] a) (o [un,un,un,un,un,un,un,un] a)) fun v _=>aG (fun w=>aM (nx v 7) false (bg 2 b fun x=>ah false 1 x a fun y=>qBe .sub (nx c 0) 1 fun z=>aI 1 y z fun A=>ah false 1 A a fun B=>ag .gtr B (u8 4) fun b7=>w [x,y,nx c 0,z,A,B,b7] a) (w [un,un,un,un,un,un,un] a)) fun b8 _=>aG (fun C=>aM (nx k 2) true (bQ (nx v 7) tt (nx b8 6) fun b9=>C [b9] a) (C [un] a)) fun c0 _=>aG (fun D=>aM j false (bQ (nx k 2) (nx c0 0) ff fun c1=>D [c1] a) (D [un] a)) fun c2 _=>bQ j tt (nx c2 0) fun c3=>af c3 (K ff a) (qBe .add (nx c 0) 1 fun c4=>eC [b,d] (a8 [c4] a))) (K tt a))
def V40(a b c:AV):Body p_ 40 [a,b,c] (XM a b c):=bC Tryz.func40 (sn (.seq (.seq (.aN (oR 0 6 (.aA 5 false (fR 6 3) [3,4] [13,16]::oR 9 2 (.aA 10 false (fR 11 4) [3,4] [18,22]::oR 15 2 (.aA 16 false (fR 17 4) [3,4] [24,28]::oR 21 2 (.aA 22 false (fR 23 8) [3,4] [30,38]::.op 31 false::[])))))) .nil) (.seq (sn (.one (.loop [3,4] [7] (sn (.seq (.one (.seq (.draw 30 (oR 0 9 (.aA 8 false (fR 9 3) [] [56,57,58]::.aA 11 true (fR 12 8) [] [59,60,61,62,63,64,65,66]::.aA 19 false (fR 20 7) [] [67,68,69,70,71,72,73]::.aA 11 true [(27,false)] [] [74]::.aA 8 false [(28,false)] [] [75]::.op 29 false::[])) [] []) .nil)) .nil))))) .nil))) 77 [.tmp 6]
def XY(r t:AV)(h:aa)(K:AV→aa→Prop):Prop:=
 aV 42 r h fun a s=>aV 96 t s fun b e=>iFL 0 false 1 a e fun u=>ag .neq u (.str []) fun v=>qJa v [a,b] e (fun w=>iFL 0 false 1 a e fun x=>ag .neq x (.str [42]) fun y=>w y e) fun z f=>qJa z [a,b] f (fun A=>iFL 0 false 1 a f fun B=>iC p_ 89 [B] f fun C D=>cr C fun E=>A E D) fun l g=>aG (fun m=>aM l false (iFL 0 false 1 a g fun F=>ag .eql F (.str []) fun G=>eC [a,b] (m [ff,G] g)) (eC [a,b] (m [cd false l,un] g))) fun d i=>aG (fun n=>aM (nx d 1) true (iFL 1 false 1 a i fun H=>bq H fun I=>qBe .eql I 0 fun J=>eC [a,b,nx d 0] (n [tt,J] i)) (eC [a,b,nx d 0] (n [(cd true (nx d 1)),un] i))) fun o p=>qJo (nx d 0) [a,b] p (fun L=>bQ (nx o 0) (nx o 1) ff fun M=>L M p) fun N j=>qJo N [a,b] j (fun O=>iFL 1 false 1 a j fun P=>bq P fun Q=>qBe .gtr Q 64 fun R=>O R j) fun S q=>af S (K ff q) (bN [i_ 0] q fun T k c =>
 iFL 1 false 1 a c fun U=>bq U fun V=>ag .lss (nx k 0) V fun W=>af W (iFL 1 false 1 a c fun X=>aI 9 X (nx k 0) fun Y=>ah true 9 Y c fun Z=>ah true 2 b c fun a0=>iQ p_ 90 [Z,a0] c fun a1=>cr a1 fun a2=>af a2 (K ff c) (qBe .add (nx k 0) 1 fun a3=>eC [a,b] (T [a3] c))) (K tt c))
def V55(a b:AV):Body p_ 55 [a,b] (XY a b):=bC Tryz.func55 (sn (.seq (.seq (.aN (oR 0 4 (.aA 3 true (fR 4 3) [2,3] [9,12]::oR 7 2 (.aA 8 true (fR 9 4) [2,3] [14,18]::oR 13 2 (.aA 14 false (fR 15 4) [2,3] [20,24]::.aA 18 true (fR 19 4) [2,3,20] [24,28]::.aA 14 false [(23,false)] [2,3] [20,29]::oR 24 2 (.aA 25 false (fR 26 4) [2,3] [31,35]::.op 30 false::[])))))) .nil) (.seq (sn (.one (.loop [2,3] [5] (sn (.seq (.one (.seq (.draw 8 (oR 0 8 []) [] []) .nil)) .nil))))) .nil))) 52 [.tmp 4]
def Yr(a:AV)(h:aa)(K:AV→aa→Prop):Prop:=
 iC p_ 124 [a] h fun c b=>qKa c b (fun d=>iC p_ 125 [a] b fun e f=>ag .eql a e fun g=>d g f) fun i j=>K i j
def V89(a:AV):Body p_ 89 [a] (Yr a):=bC Tryz.func89 (sn (.seq (.aN (oR 0 3 (.aA 2 true (fR 3 4) [] [5,9]::oR 7 2 []))) .nil)) 11 [.tmp 2]
def Ys(L N:AV)(h:aa)(K:AV→aa→Prop):Prop:=
 aV 46 L h fun a M=>aV 96 N M fun d y=>ah true 9 a y fun O=>iC p_ 56 [O] y fun P Q=>aV 119 (.agg [u8 0,.str [],u8 0,.str [],ff,i_ 0,i_ 0,ff]) Q fun b R=>ao 8 b P R fun r=>iFL 0 false 1 a r fun c=>aG (fun z=>ag .eql c (u8 1) fun S=>af S (eC [a,d,b,c] (z [tt] r)) (ag .eql c (u8 2) fun T=>eC [a,d,b,c] (z [T] r))) fun U e=>af (nx U 0) (iFL 1 false 1 a e fun V=>iC p_ 124 [V] e fun W m=>qJa W [a] m (fun X=>ah true 8 b m fun Y=>iFL 0 false 1 a m fun Z=>iFL 1 false 1 a m fun a0=>aW (.agg [u8 0,.str [],u8 0,.str [],ff,i_ 0,i_ 0,ff]) [(0,1,Z),(1,1,a0)] fun a1=>mc false [1,2,1,2,0,1,1,0] Y a1 fun a2=>X a2 m) fun a3 s=>qKa a3 s (fun a4=>iFL 8 false 1 a s fun a5=>bq a5 fun a6=>qBe .eql a6 0 fun a7=>a4 a7 s) fun a8 a9=>K a8 a9) (ag .eql c (u8 3) fun b0=>af b0 (iFL 2 false 1 a e fun b1=>ag .neq b1 (u8 0) fun A=>aG (fun B=>aM A false (iFL 3 false 1 a e fun b2=>ag .eql b2 (.str []) fun b3=>eC [a,b] (B [ff,b3] e)) (eC [a,b] (B [cd false A,un] e))) fun n t=>aG (fun C=>aM (nx n 1) true (iFL 4 false 1 a t fun b4=>cr b4 fun b5=>eC [a,b,nx n 0] (C [tt,b5] t)) (eC [a,b,nx n 0] (C [(cd true (nx n 1)),un] t))) fun D E=>qJo (nx n 0) [a,b] E (fun b6=>bQ (nx D 0) (nx D 1) ff fun b7=>b6 b7 E) fun u F=>iFL 1 false 1 a F fun b8=>iC p_ 89 [b8] F fun b9 v=>qJa b9 [a,b,u] v (fun c0=>iFL 2 false 1 a v fun c1=>ag .leq c1 (u8 6) fun c2=>c0 c2 v) fun c3 w=>qJa c3 [a,b,u] w (fun c4=>iFL 3 false 1 a w fun c5=>iC p_ 126 [c5,i_ 400] w c4) fun c6 G=>qJa c6 [a,b] G (fun c7=>c7 u G) fun c8 i=>qJa c8 [a] i (fun c9=>ah true 8 b i fun d0=>iFL 0 false 1 a i fun d1=>iFL 1 false 1 a i fun d2=>iFL 2 false 1 a i fun d3=>iFL 3 false 1 a i fun d4=>iFL 4 false 1 a i fun d5=>aW (.agg [u8 0,.str [],u8 0,.str [],ff,i_ 0,i_ 0,ff]) [(0,1,d1),(1,1,d2),(2,1,d3),(3,1,d4),(4,1,d5)] fun d6=>mc false [1,2,1,2,0,1,1,0] d0 d6 fun d7=>c9 d7 i) fun d8 x=>qKa d8 x (fun d9=>iFL 8 false 1 a x fun e0=>bq e0 fun e1=>qBe .eql e1 0 fun e2=>d9 e2 x) fun e3 e4=>K e3 e4) (aG (fun o=>ag .eql c (u8 4) fun e5=>af e5 (eC [a,d,b,c] (o [tt] e)) (ag .eql c (u8 5) fun e6=>af e6 (eC [a,d,b,c] (o [tt] e)) (ag .eql c (u8 6) fun e7=>af e7 (eC [a,d,b,c] (o [tt] e)) (ag .eql c (u8 7) fun e8=>af e8 (eC [a,d,b,c] (o [tt] e)) (ag .eql c (u8 8) fun e9=>eC [a,d,b,c] (o [e9] e)))))) fun f0 j=>af (nx f0 0) (ah true 8 b j fun f1=>iFL 0 false 1 a j fun f2=>aW (.agg [u8 0,.str [],u8 0,.str [],ff,i_ 0,i_ 0,ff]) [(0,1,f2)] fun f3=>mc false [1,2,1,2,0,1,1,0] f1 f3 fun f4=>qKa f4 j (fun f5=>iFL 8 false 1 a j fun f6=>bq f6 fun f7=>qBe .eql f7 0 fun f8=>f5 f8 j) fun f9 g0=>K f9 g0) (aG (fun H=>ag .eql c (u8 9) fun g1=>af g1 (eC [a,d,b,c] (H [tt] j)) (ag .eql c (u8 10) fun g2=>eC [a,d,b,c] (H [g2] j))) fun g3 q=>af (nx g3 0) (iFL 5 true 2 a q fun g4=>iC p_ 127 [g4] q fun g5 k=>cr g5 fun g6=>qJo g6 [a,d] k (fun g7=>ah true 8 b k fun g8=>iFL 0 false 1 a k fun g9=>iFL 5 true 2 a k fun i0=>iFL 7 false 1 a k fun i1=>aW (.agg [u8 0,.str [],u8 0,.str [],ff,i_ 0,i_ 0,ff]) [(0,1,g9),(5,2,i0),(7,1,i1)] fun i2=>mc true [1,2,1,2,0,1,1,0] g8 i2 fun i3=>g7 i3 k) fun i4 f=>af i4 (K ff f) (iFL 7 false 1 a f fun i5=>cr i5 fun i6=>af i6 (iFL 8 false 1 a f fun i7=>bq i7 fun i8=>qBe .eql i8 0 fun i9=>K i9 f) (iFL 8 false 1 a f fun j0=>bq j0 fun j1=>qBe .gtr j1 0 fun j2=>qKa j2 f (fun j3=>iFL 8 false 1 a f fun j4=>ah true 2 d f fun j5=>iFL 0 false 1 a f fun j6=>iC p_ 128 [j4,j5,j6] f j3) fun j7 j8=>K j7 j8))) (aG (fun I=>ag .eql c (u8 11) fun j9=>af j9 (eC [a,d,b,c] (I [tt] q)) (ag .eql c (u8 12) fun k0=>eC [a,d,b,c] (I [k0] q))) fun k1 g=>af (nx k1 0) (ah true 8 b g fun k2=>iFL 0 false 1 a g fun k3=>aW (.agg [u8 0,.str [],u8 0,.str [],ff,i_ 0,i_ 0,ff]) [(0,1,k3)] fun k4=>mc false [1,2,1,2,0,1,1,0] k2 k4 fun k5=>qKa k5 g (fun k6=>iFL 8 false 1 a g fun k7=>ah true 2 d g fun k8=>iFL 0 false 1 a g fun k9=>iC p_ 128 [k7,k8,k9] g k6) fun l0 l1=>K l0 l1) (aG (fun J=>ag .eql c (u8 13) fun l2=>af l2 (eC [a,d,b] (J [tt] g)) (ag .eql c (u8 14) fun l3=>eC [a,d,b] (J [l3] g))) fun l4 l=>af (nx l4 0) (ah true 8 b l fun l5=>iFL 0 false 1 a l fun l6=>aW (.agg [u8 0,.str [],u8 0,.str [],ff,i_ 0,i_ 0,ff]) [(0,1,l6)] fun l7=>mc false [1,2,1,2,0,1,1,0] l5 l7 fun l8=>qJa l8 [a,d] l (fun l9=>iFL 8 false 1 a l fun m0=>bq m0 fun m1=>qBe .gtr m1 0 fun m2=>l9 m2 l) fun m3 p=>qKa m3 p (fun m4=>iFL 8 false 1 a p fun m5=>ah true 2 d p fun m6=>iFL 0 false 1 a p fun m7=>iC p_ 128 [m5,m6,m7] p m4) fun m8 m9=>K m8 m9) (K ff l))))))
def V90(a b:AV):Body p_ 90 [a,b] (Ys a b):=bC Tryz.func90 (sn (sn (.seq (sn (.one (.join [2,3,5,10] [11] .nil (.two (.seq (.aN (oR 0 4 (.aA 3 true (fR 4 7) [2] [17,24]::oR 11 2 (.aA 12 true (fR 13 4) [] [26,30]::oR 17 2 [])))) .nil) (sn (.two (.seq (.aN (oR 0 4 (.aA 3 false (fR 4 4) [2,5] [37,41]::.aA 7 true (fR 8 3) [2,5,37] [41,44]::.aA 3 false [(11,false)] [2,5] [37,45]::oR 12 2 []))) (.seq (.aN (oR 0 4 (.aA 3 true (fR 4 3) [2,5,6] [50,53]::oR 7 2 (.aA 8 true (fR 9 3) [2,5,6] [55,58]::oR 12 2 (.aA 13 true [(14,false)] [2,5] [60,61]::oR 15 2 (.aA 16 true (fR 17 13) [2] [63,76]::oR 30 2 (.aA 31 true (fR 32 4) [] [78,82]::oR 36 2 []))))))) .nil)) (.join [2,3,5,10] [84] .nil (.two (.seq (.aN (oR 0 6 (.aA 5 true (fR 6 4) [] [95,99]::oR 10 2 []))) .nil) (.join [2,3,5,10] [101] .nil (.two (.seq (.seq (.aN (oR 0 5 (.aA 4 false (fR 5 9) [2,3] [108,117]::.op 14 false::[]))) .nil) (sn (.seq (.aN (oR 0 5 (.aA 4 true (fR 5 6) [] [130,136]::oR 11 2 []))) .nil))) (.join [2,3,5,10] [138] .nil (.two (.seq (.aN (oR 0 6 (.aA 5 true (fR 6 6) [] [146,152]::oR 12 2 []))) .nil) (.join [2,3,5] [154] .nil (.two (.seq (.aN (oR 0 6 (.aA 5 true (fR 6 4) [2,3] [162,166]::oR 10 2 (.aA 11 true (fR 12 6) [] [168,174]::oR 18 2 [])))) .nil) .nil)))))))))))))) .nil))) 176 [.tmp 4]
def Sr(d:AV)(h:aa)(K:AV→aa→Prop):Prop:=
 iO 5 d h fun a e=>bN [i_ 0] e fun f b c =>
 bq a fun g=>ag .lss (nx b 0) g fun i=>af i (aI 1 a (nx b 0) fun j=>ah false 1 j c fun k=>iC p_ 156 [k] c fun l m=>aI 1 a (nx b 0) fun n=>ao 1 n l m fun o=>qBe .add (nx b 0) 1 fun p=>eC [a] (f [p] o)) (cP a c fun q=>K q c)
def Y2(a:AV):Body p_ 125 [a] (Sr a):=bC Tryz.func125 (sn (sn (.seq (sn (.one (.loop [3] [4] .nil))) .nil))) 23 [.tmp 2]
def Sq(a:AV)(h:aa)(K:AV→aa→Prop):Prop:=
 ag .neq a (.str []) fun b=>qKa b h (fun c=>iC p_ 126 [a,i_ 64] h c) fun d e=>K d e
def Y1(a:AV):Body p_ 124 [a] (Sq a):=bC Tryz.func124 (sn (.seq (.aN (oR 0 3 (.aA 2 true (fR 3 2) [] [5,7]::oR 5 2 []))) .nil)) 9 [.tmp 2]
def Su(e:AV)(h:aa)(K:AV→aa→Prop):Prop:=
 aV 44 e h fun a b=>iFL 0 false 1 a b fun f=>qBe .geq f (-1000000000) fun g=>qJa g [a] b (fun i=>iFL 0 false 1 a b fun j=>qBe .leq j 1000000000 fun k=>i k b) fun l c=>qJa l [a] c (fun m=>iFL 1 false 1 a c fun n=>qBe .geq n (-1000000000) fun o=>m o c) fun p d=>qKa p d (fun q=>iFL 1 false 1 a d fun r=>qBe .leq r 1000000000 fun s=>q s d) fun t u=>K t u
def Y4(a:AV):Body p_ 127 [a] (Su a):=bC Tryz.func127 (sn (.seq (.aN (oR 0 4 (.aA 3 true (fR 4 3) [1] [6,9]::oR 7 2 (.aA 8 true (fR 9 3) [1] [11,14]::oR 12 2 (.aA 13 true (fR 14 3) [] [16,19]::oR 17 2 []))))) .nil)) 21 [.tmp 2]
def XZ(e:AV)(h:aa)(K:AV→aa→Prop):Prop:=
 aV 46 e h fun b f=>aV 119 (.agg [u8 0,.str [],u8 0,.str [],ff,i_ 0,i_ 0,ff]) f fun c a=>iFL 0 false 1 b a fun g=>iFL 1 false 1 b a fun i=>iFL 2 false 1 b a fun j=>iFL 3 false 1 b a fun k=>iFL 4 false 1 b a fun l=>iFL 5 true 2 b a fun m=>iFL 7 false 1 b a fun n=>aW (.agg [u8 0,.str [],u8 0,.str [],ff,i_ 0,i_ 0,ff]) [(0,1,g),(1,1,i),(2,1,j),(3,1,k),(4,1,l),(5,2,m),(7,1,n)] fun o=>ao 8 c o a fun d=>ah true 8 c d fun r21=>K r21 d
def V56(a:AV):Body p_ 56 [a] (XZ a):=bC Tryz.func56 .nil 18 [.cell 2 119]
def Ss(a d:AV)(h:aa)(K:AV→aa→Prop):Prop:=
 bN [i_ 0] h fun e b c =>
 cZ a fun f=>ag .lss (nx b 0) f fun g=>af g (eD a (nx b 0) fun i=>ag .eql i (u8 0) fun j=>af j (K ff c) (qBe .add (nx b 0) 1 fun k=>eC [a,d] (e [k] c))) (cZ a fun l=>ag .leq l d fun m=>K m c)
def Y3(a b:AV):Body p_ 126 [a,b] (Ss a b):=bC Tryz.func126 (sn (.seq (sn (.one (.loop [0,1] [5] .nil))) .nil)) 20 [.tmp 4]
def Sv(e j b:AV)(h:aa)(K:AV→aa→Prop):Prop:=
 aV 96 j h fun k f=>ah true 2 k f fun l=>iC p_ 157 [l,b] f fun g m=>aR 0 g fun n=>aR 1 g fun o=>aV 96 (.agg [i_ 0,ff]) m fun c p=>ao 2 c n p fun i=>cr o fun q=>af q (K ff i) (bN [i_ 0] i fun r d a =>
 bq e fun s=>ag .lss (nx d 0) s fun t=>af t (aI 3 e (nx d 0) fun u=>ah true 3 u a fun v=>ah true 2 c a fun w=>ag .eql b (u8 14) fun x=>iQ p_ 40 [v,w,x] a fun y=>cr y fun z=>af z (K ff a) (qBe .add (nx d 0) 1 fun A=>eC [e,b,c] (r [A] a))) (K tt a))
def Y5(a b c:AV):Body p_ 128 [a,b,c] (Sv a b c):=bC Tryz.func128 (sn (sn (sn (.seq (sn (.one (.loop [0,2,7] [9] (sn (.seq (.one (.seq (.draw 9 (oR 0 9 []) [] []) .nil)) .nil))))) .nil)))) 33 [.tmp 6]
def SI(a:AV)(h:aa)(K:AV→aa→Prop):Prop:=
 ag .geq a (u8 65) fun c=>qJa c [a] h (fun d=>ag .leq a (u8 90) fun e=>d e h) fun f b=>af f (ag .sub a (u8 65) fun g=>ag .add g (u8 97) fun i=>K i b) (K a b)
def Zi(a:AV):Body p_ 156 [a] (SI a):=bC Tryz.func156 (sn (.seq (.seq (.aN (oR 0 3 (.aA 2 true (fR 3 2) [0] [5,7]::.op 5 false::[]))) .nil) .nil)) 13 [.tmp 2]
def MC(q c:AV)(h:aa)(K:AV→aa→Prop):Prop:=
 aV 96 q h fun a r=>aV 96 (.agg [i_ 0,ff]) r fun b f=>iFL 0 false 1 a f fun s=>qBe .eql s 3 fun i=>aG (fun j=>aM i false (ag .eql c (u8 14) fun t=>eC [c,a,b] (j [ff,t] f)) (eC [c,a,b] (j [cd false i,un] f))) fun e g=>aG (fun k=>aM (nx e 1) true (iFL 1 false 1 a g fun u=>eC [c,a,b,nx e 0] (k [tt,u] g)) (eC [c,a,b,nx e 0] (k [(cd true (nx e 1)),un] g))) fun l m=>qJo (nx e 0) [c,a,b] m (fun v=>bQ (nx l 0) (nx l 1) ff fun w=>v w m) fun x d=>af x (ah true 2 a d fun y=>ao 2 b y d fun n=>ah true 2 b n fun r24=>K (.ay [r24,ff]) n) (iFL 0 false 1 a d fun z=>qBe .add z 1 fun o=>iFL 1 false 1 a d fun A=>qJo A [b,o] d (fun B=>ag .eql c (u8 14) fun C=>B C d) fun D E=>aW (.agg [i_ 0,ff]) [(0,1,o),(1,1,D)] fun F=>ao 2 b F E fun p=>ah true 2 b p fun r37=>K (.ay [r37,tt]) p)
def R3(a b:AV):Body p_ 157 [a,b] (MC a b):=bC Tryz.func157 (sn (.seq (.seq (.aN (oR 0 4 (.aA 3 false (fR 4 3) [1,2,4] [9,12]::.aA 6 true (fR 7 2) [1,2,4,9] [12,14]::.aA 3 false [(9,false)] [1,2,4] [9,15]::.op 10 false::[]))) .nil) (.seq (.aN (oR 0 6 (.aA 5 false (fR 6 2) [4,20] [23,25]::oR 8 4 []))) .nil))) 28 [.cell 4 96,.tmp 5]
end
section
open Go Go.Aw Go.bo
def Ua(b:UInt8)(h1:65≤(b.toNat:Int))(h2:(b.toNat:Int)≤90):IntKind.u8.wrap (IntKind.u8.wrap ((b.toNat:Int)-65)+97)=((dX b).toNat:Int):=by
 have:∀n:Fin 26,IntKind.u8.wrap (IntKind.u8.wrap (((65+n.val:Nat):Int)-65)+97)=((dX (UInt8.ofNat (65+n.val))).toNat:Int):=by decide
 have hb:b=UInt8.ofNat (65+(b.toNat-65)):=by
  rw[show 65+(b.toNat-65)=b.toNat by omega];simp
 have h:=this ⟨b.toNat-65,by omega⟩;simp only[show 65+(b.toNat-65)=b.toNat by omega]at h;rw[h];simp
variable [Laid]
def Gn(b:UInt8):bn p_ 156 [bf b] (bf (dX b)):=by
 refine (Zi _).bj (by simp[bf]) (by simp[bf]) ?_;unfold SI bf;repeat' (first|(with_reducible apply aF)|(with_reducible apply aq)|((with_reducible first|apply gZ|apply mD);rfl;rfl)|((with_reducible apply aL);rfl)|((with_reducible apply aQ);rfl)|((with_reducible apply aw);rfl;first|rfl|assumption)|((with_reducible apply cq);rfl)|((with_reducible apply cD);rfl)|(with_reducible intro _))
 ·rename_i h1 h2;have h1:65≤(b.toNat:Int):=by simpa using h1
  have h2:(b.toNat:Int)≤90:=by simpa using h2
  simp[qz];exact .pure (by simp) (by rw[Ua b h1 h2])
 all_goals refine .pure (by simp) ?_
 all_goals rw[E4 b (by simp_all;try omega)]
def Jc(s:ae):bn p_ 125 [.str s] (.str (s.map dX)):=by
 refine (Y2 _).bj (by simp) (by simp) ?_;unfold Sr;rw[vm];refine aZ (α:=Nat) (fun k=>k≤s.length) (fun k=>[i_ k]) (fun k=>[.ak ⟨5,eW s k,true⟩]) (fun k=>s.length-k) 0 (by simp) (by simpa[eW]using Wk.refl _ _ _ (by simp)) ?_;intro k hk;rw[ur];intro hlen
 by_cases q:k<s.length
 ·obtain⟨b,hb⟩:∃b,s[k]?=some b:=⟨s[k],dO q⟩;have hc:=w6 hb;refine zzC (zzL (by simpa using q) ?_);have idx:∀{K:AV→Prop},K (.op 0 k)→aI 1 (.own 0 0 s.length 1) (nx [i_ k] 0) K:=fun q2=>by
   rw[eg,Ho];exact⟨rfl,⟨by omega,by omega⟩,by simpa using q2⟩
  refine idx (zzU rfl hc ?_);have hin:aJ ((k:Int)+1):=by unfold maxLen at hlen;unfold aJ;omega
  refine uCon (Gn b) (idx (dT (cs:=[bf (dX b)]) rfl rfl rfl rfl (by simp[w7];omega) rfl rfl (zzP hin (aq ?_))));refine⟨k+1,by omega, ?_,by omega⟩;have:=nH hb;rw[show bX (eW s k) k [bf (dX b)]=eW s (k+1) from this];exact Wk.refl _ _ _ (by simp)
 ·obtain rfl:k=s.length:=by omega
  refine zzC (zzK (by simp) (CB (id:=0) (b:=⟨5,eW s s.length,true⟩) (l:=s.map dX) (by simp) rfl (by simp[eW]) ?_));exact .pure (by simp) rfl
def Ao(s:ae)(n:Int):bn p_ 126 [.str s,i_ n] (b_ (gF s&&decide ((s.length:Int)≤n))):=by
 refine (Y3 _ _).bj (by simp) (by simp) ?_;unfold Ss;refine aZ (α:=Nat) (fun k=>k≤s.length∧gF (s.take k)=true) (fun k=>[i_ k]) (fun _=>[]) (fun k=>s.length-k) 0 (by simp[gF]) (Wk.refl _ _ _ (by simp)) ?_;rintro k ⟨hk,hI⟩;refine zzZ fun hlen=>?_;refine zzC ?_;rcases uP k s.length with q|q
 ·obtain⟨b,hb⟩:∃b,s[k]?=some b:=⟨s[k],dO q⟩;have hin:aJ ((k:Int)+1):=by unfold maxLen at hlen;unfold aJ;omega
  refine zzL (by simpa using q) (uc rfl rfl hb ?_);repeat' (first|(with_reducible apply aq)|((with_reducible apply bU);rfl;rfl)|((with_reducible apply cm);rfl;rfl;first|assumption|(unfold aJ;omega))|((with_reducible apply cq);rfl)|(with_reducible intro _))
  ·rename_i hz;have:b=0:=by
    have:(b.toNat:Int)=0:=by simpa using hz
    exact UInt8.toNat_inj.1 (by simpa using this)
   subst this;refine .pure (by simp) ?_;have:gF s=false:=by
    unfold gF;rw[List.all_eq_false];exact⟨0,gE hb,by simp⟩
   rw[this];rfl
  ·rename_i hz;have:b≠0:=by
    rintro rfl;simp at hz
   refine⟨k+1,⟨q, ?_⟩,Wk.refl _ _ _ (by simp),by omega⟩;rw[By,hb];unfold gF at hI ⊢;rw[List.all_append,hI];simpa using this
 ·have hk:k=s.length:=by omega
  subst hk;rw[BY]at hI;refine zzK (by simp) ?_;refine zzZ fun _=>?_;refine zzD ?_;exact .pure (by simp) (by rw[hI];rfl)
def Ap(s:ae):bn p_ 124 [.str s] (b_ (named s)):=by
 refine (Y1 _).bj (by simp) (by simp) ?_;unfold Sq;repeat' (first|(with_reducible apply aF)|((with_reducible apply jT);rfl;rfl)|((with_reducible apply aL);rfl)|((with_reducible apply aQ);rfl)|((with_reducible apply fy);rfl)|(refine uCon (Ao _ _) ?_)|((with_reducible apply cD);rfl)|(with_reducible intro _))
 all_goals refine .pure (by simp) ?_
 all_goals simp only[eg,gG,AV.v.injEq,Value.bool.injEq,Value.int.injEq,true_and]at *
 all_goals first
  | grind [named]
  | (simp_all [named];done)
  | (simp_all [named];omega)
def Aq(s:ae):bn p_ 89 [.str s] (b_ (small s)):=by
 refine (V89 _).bj (by simp) (by simp) ?_;unfold Yr;repeat' (first|(with_reducible apply aF)|((with_reducible apply gQ);rfl;rfl)|((with_reducible apply aL);rfl)|((with_reducible apply aQ);rfl)|(refine uCon (Ap _) ?_)|(refine uCon (Jc _) ?_)|((with_reducible apply cD);rfl)|(with_reducible intro _))
 all_goals refine .pure (by simp) ?_
 all_goals simp only[eg,gG,AV.v.injEq,Value.bool.injEq,Value.int.injEq,true_and]at *
 all_goals first
  | grind [small]
  | (simp_all [small];done)
  | (simp_all [small];omega)
def Jd(a b:Int):bn p_ 127 [.agg [i_ a,i_ b]] (b_ (gu a&&gu b)):=by
 refine (Y4 _).bj (by simp) (by simp) ?_;unfold Su;repeat' (first|(with_reducible apply aF)|(with_reducible apply aq)|((with_reducible first|apply gZ|apply mD);rfl;rfl)|((with_reducible apply aL);rfl)|((with_reducible apply aQ);rfl)|((with_reducible apply bz);rfl;first|rfl|assumption)|((with_reducible apply aH);rfl)|((with_reducible apply aD);rfl;rfl;rfl)|((with_reducible apply fo);first|rfl|simp)|((with_reducible apply cD);rfl)|(with_reducible intro _))
 all_goals refine .pure (by simp) ?_
 all_goals simp only[eg,gG,AV.v.injEq,Value.bool.injEq,Value.int.injEq,true_and]at *
 all_goals first
  | grind [gu]
  | (simp_all [gu];done)
  | (simp_all [gu];omega)
def I3(d:Nat)(has:Bool)(k:Int)(hd:d≤3)(hq:ij d has k=true):bn p_ 157 [.agg [i_ d,b_ has],u1 k] (.ay [.agg [i_ (d+1),b_ (has||decide (k=14))],tt]):=by
 refine (R3 _ _).bj (by simp) (by simp) ?_;unfold MC;have hin:aJ ((d:Int)+1):=by unfold aJ;omega
 unfold ij at hq;repeat' (first|(with_reducible apply aF)|(with_reducible apply aq)|((with_reducible apply bU);rfl;rfl)|((with_reducible apply cm);rfl;rfl;first|assumption|(unfold aJ;omega))|((with_reducible apply aL);rfl)|((with_reducible apply aQ);rfl)|((with_reducible apply au);rfl;first|rfl|assumption)|((with_reducible apply aw);rfl;first|rfl|assumption)|((with_reducible apply bw);rfl;first|rfl|assumption)|((with_reducible apply bz);rfl;first|rfl|assumption)|((with_reducible apply dG);rfl)|((with_reducible apply aH);rfl)|((with_reducible apply aD);rfl;rfl;rfl)|((with_reducible apply dr);rfl;rfl;first|exact bY _|exact lT rfl)|((with_reducible apply fo);first|rfl|simp)|((with_reducible apply dT);rfl;rfl;rfl;rfl;(first|exact bY _|simp);(first|rfl|simp);(first|rfl|simp))|((with_reducible apply ba);rfl)|((with_reducible apply cq);rfl)|((with_reducible apply cD);rfl)|(with_reducible intro _))
 all_goals refine .pure (by simp) ?_
 all_goals simp only[eg,gG,bX,bh]at *
 all_goals first|(exfalso;grind)|grind|simp_all
def I2(d:Nat)(has:Bool)(k:Int)(hd:d≤3)(hq:ij d has k=false):bn p_ 157 [.agg [i_ d,b_ has],u1 k] (.ay [.agg [i_ d,b_ has],ff]):=by
 refine (R3 _ _).bj (by simp) (by simp) ?_;unfold MC;have hin:aJ ((d:Int)+1):=by unfold aJ;omega
 unfold ij at hq;repeat' (first|(with_reducible apply aF)|(with_reducible apply aq)|((with_reducible apply bU);rfl;rfl)|((with_reducible apply cm);rfl;rfl;first|assumption|(unfold aJ;omega))|((with_reducible apply aL);rfl)|((with_reducible apply aQ);rfl)|((with_reducible apply au);rfl;first|rfl|assumption)|((with_reducible apply aw);rfl;first|rfl|assumption)|((with_reducible apply bw);rfl;first|rfl|assumption)|((with_reducible apply bz);rfl;first|rfl|assumption)|((with_reducible apply dG);rfl)|((with_reducible apply aH);rfl)|((with_reducible apply aD);rfl;rfl;rfl)|((with_reducible apply dr);rfl;rfl;first|exact bY _|exact lT rfl)|((with_reducible apply fo);first|rfl|simp)|((with_reducible apply dT);rfl;rfl;rfl;rfl;(first|exact bY _|simp);(first|rfl|simp);(first|rfl|simp))|((with_reducible apply ba);rfl)|((with_reducible apply cq);rfl)|((with_reducible apply cD);rfl)|(with_reducible intro _))
 all_goals refine .pure (by simp) ?_
 all_goals simp only[eg,gG,bX,bh]at *
 all_goals first|(exfalso;grind)|grind|simp_all
end
section
open Go Go.Aw Go.bo
variable [Laid]
def OX(n:Nat):Prop:=∀x:Cx,zX x≤n→∀(d:Nat) (has rel:Bool),d≤3→bn p_ 40 [.agg (fJ x),.agg [i_ d,b_ has],b_ rel] (b_ (eS d has rel x))
def RZ(n:Nat):Prop:=∀p:Cp,zP p≤n→∀(d:Nat) (has:Bool),d≤3→bn p_ 55 [.agg (gR p),.agg [i_ d,b_ has]] (b_ (cN d has p))
def R0(n:Nat):Prop:=∀s:Sm,zS s≤n→∀(d:Nat) (has:Bool),d≤3→bn p_ 90 [.agg (du s),.agg [i_ d,b_ has]] (b_ (ic d has s))
def Ok(hn:n<2^60)(hP:RZ n):OX (n+1):=by
 rintro⟨l,ps,cs⟩ hz d has rel hd;rw[zX]at hz;refine (V40 _ _ _).bj (by simp[x6]) (by simp) ?_;unfold XM;rw[fJ];have hlen:(dn ps).length=ps.length:=by simp[dv]
 have hpl:=rC ps;have hc:aJ (((dn ps).length:Int)-1):=by rw[hlen];unfold aJ;omega
 repeat' (first|(with_reducible apply aF)|(with_reducible apply aq)|((with_reducible first|apply fc|apply bU|apply dB);rfl;rfl)|((with_reducible apply J6);rfl;rfl)|((with_reducible apply nY);rfl;rfl;first|assumption|(unfold aJ;omega))|((with_reducible apply aL);rfl)|((with_reducible apply aQ);rfl)|((with_reducible apply au);rfl;first|rfl|assumption)|((with_reducible apply bz);rfl;first|rfl|assumption)|((with_reducible apply jl);rfl)|((with_reducible apply fy);rfl)|((with_reducible apply aH);rfl)|((with_reducible apply aD);rfl;rfl;rfl)|((with_reducible apply fo);first|rfl|simp)|((with_reducible apply cU);rfl;(first|rfl|simp);intro _)|((with_reducible apply cq);rfl)|((with_reducible apply cD);rfl)|(with_reducible intro _))
 all_goals first
  | (refine .pure (by simp) ?_
     rw[HO _ _ _ _ _ _ (by simp only[aaQ,hlen]at *;grind)])
  | (have b0:(rel == !decide (l=0))=true:=by grind
     have b1:l≤4:=by grind
     have b2:cs.length+1=ps.length:=by simp only[aaQ]at *;grind
     have b3:ps.length≤64:=by grind
     refine aZ (α:=Nat) (fun k=>k≤ps.length∧(ps.take k).all (cN d has)=true∧(cs.take (k-1)).all (fun c=>decide (1≤c∧c≤4))=true) (fun k=>[i_ k]) (fun _=>[.ak ⟨39,[u1 l,.sl 2 (dn ps),.sl 1 (cs.map fun c=>[u1 c])],true⟩,.ak ⟨96,[i_ d,b_ has],true⟩]) (fun k=>ps.length-k) 0 (by simp) (Wk.refl _ _ _ (by simp)) ?_;rintro k ⟨hk,hI,hJ⟩;refine zzA (zzU rfl rfl ?_);refine zzf (n:=ps.length) hlen fun _=>?_;refine zzC ?_;rcases uP k ps.length with q|q
     ·obtain⟨p,hx⟩:∃p,ps[k]?=some p:=⟨ps[k],dO q⟩;have hin:aJ ((k:Int)+1):=by unfold aJ;omega
      have hin2:aJ ((k:Int)-1):=by unfold aJ;omega
      have nxt:(ps.take (k+1)).all (cN d has)=cN d has p:=by
       rw[By,hx,List.all_append,hI];simp
      have badP:cN d has p=false→eS d has rel (.mk l ps cs)=false:=by
       intro hb;rw[eS,ml];have:ps.all (cN d has)=false:=by
        rw[List.all_eq_false];exact⟨p,gE hx,by simp[hb]⟩
       rw[this];simp
      have hzp:zP p≤n:=by have:=py (gE hx);omega
      refine zzL (by simpa using q) (zzA (zzU rfl rfl (zzb (dv ps) rfl hx (zzY (by simp[ri]) (zzV rfl (bY _) (zzT (by kernel_rfl) (hP p hzp d has hd) ?_))))))
      by_cases hk0:k=0
      ·subst hk0;repeat' (first|(with_reducible apply aF)|(with_reducible apply aq)|((with_reducible apply fc);rfl;rfl)|((with_reducible apply cm);rfl;rfl;first|assumption|(unfold aJ;omega))|((with_reducible apply dU);rfl)|((with_reducible apply aQ);rfl)|((with_reducible apply au);rfl;first|rfl|assumption)|((with_reducible apply aw);rfl;first|rfl|assumption)|((with_reducible apply bw);rfl;first|rfl|assumption)|((with_reducible apply bz);rfl;first|rfl|assumption)|((with_reducible apply dG);rfl)|((with_reducible apply BC);rfl;first|rfl|assumption)|((with_reducible apply ud);rfl;first|rfl|assumption)|((with_reducible apply xv);rfl)|((with_reducible apply fy);rfl)|((with_reducible apply cD);rfl)|(with_reducible intro _))
       all_goals first
        | exact .pure (by simp) (by rw[badP (by simp_all)])
        | exact⟨1,⟨by omega,by rw[nxt];simp_all,by simp⟩,Wk.refl _ _ _ (by simp),by omega⟩
        | (exfalso;simp_all;done)
        | (exfalso;grind)
      ·obtain⟨c,hcx⟩:∃c,cs[k-1]?=some c:=⟨cs[k-1],dO (by omega)⟩;have nxc:(cs.take (k+1-1)).all (fun c=>decide (1≤c∧c≤4))=decide (1≤c∧c≤4):=by
        rw[show k+1-1=k-1+1 by omega,By,hcx,List.all_append,hJ];simp
       have badC:¬(1≤c∧c≤4)→eS d has rel (.mk l ps cs)=false:=by
        intro hb;rw[eS];have:cs.all (fun c=>decide (1≤c∧c≤4))=false:=by
         rw[List.all_eq_false];exact⟨c,gE hcx,by simpa using hb⟩
        rw[this];simp
       have hki:(i_ ((k:Int)-1))=i_ ((k-1:Nat):Int):=by rw[show ((k:Int)-1)=((k-1:Nat):Int) by omega]
       repeat' (first|(with_reducible apply aF)|(with_reducible apply aq)|((with_reducible first|apply cH|apply fc);rfl;rfl)|((with_reducible apply cm);rfl;rfl;first|assumption|(unfold aJ;omega))|((with_reducible apply nY);rfl;rfl;first|assumption|(unfold aJ;omega))|((with_reducible apply dU);rfl)|((with_reducible apply au);rfl;first|rfl|assumption)|((with_reducible apply aw);rfl;first|rfl|assumption)|((with_reducible apply bw);rfl;first|rfl|assumption)|((with_reducible apply bz);rfl;first|rfl|assumption)|((with_reducible apply dG);rfl)|((with_reducible apply BC);rfl;first|rfl|assumption)|((with_reducible apply ud);rfl;first|rfl|assumption)|((with_reducible apply xv);rfl)|((with_reducible apply fy);rfl)|((with_reducible apply aH);rfl)|((with_reducible apply aD);rfl;rfl;rfl)|((with_reducible apply de);rfl)|(refine zzb rfl hki hcx ?_)|((with_reducible apply cq);rfl)|((with_reducible apply cD);rfl)|(with_reducible intro _))
       all_goals first
        | exact .pure (by simp) (by rw[badP (by grind)])
        | exact .pure (by simp) (by rw[badC (by grind)])
        | exact⟨k+1,⟨by omega,by rw[nxt];grind,by rw[nxc];grind⟩,Wk.refl _ _ _ (by simp),by omega⟩
        | (exfalso;simp_all;done)
        | (exfalso;grind)
     ·have hk:k=ps.length:=by omega
      subst hk;rw[BY]at hI;rw[show ps.length-1=cs.length by omega,BY]at hJ;refine zzK (by simp) (.pure (by simp) ?_);rw[eS,ml,hI,hJ,b0];simp[b1,b2,b3])
def Oi(hn:n<2^60)(hS:R0 n):RZ (n+1):=by
 rintro⟨t,ss⟩ hz d has hd;rw[zP]at hz;refine (V55 _ _).bj (by simp[DL]) (by simp) ?_;unfold XY;rw[gR];have hlen:(dQ ss).length=ss.length:=by simp[dE]
 have hsl:=pz ss;have he:ss.isEmpty=decide (ss.length=0):=by cases ss<;>simp
 repeat' (first|(with_reducible apply aF)|(with_reducible apply aq)|((with_reducible first|apply fc|apply bU);rfl;rfl)|((with_reducible first|apply gQ|apply jT);rfl;rfl)|((with_reducible apply dU);rfl)|((with_reducible apply aL);rfl)|((with_reducible apply aQ);rfl)|((with_reducible apply au);rfl;first|rfl|assumption)|((with_reducible apply bw);rfl;first|rfl|assumption)|((with_reducible apply bz);rfl;first|rfl|assumption)|((with_reducible apply dG);rfl)|((with_reducible apply fy);rfl)|((with_reducible apply aH);rfl)|((with_reducible apply aD);rfl;rfl;rfl)|((with_reducible apply fo);first|rfl|simp)|((with_reducible apply cU);rfl;(first|rfl|simp);intro _)|(refine uCon (Aq _) ?_)|((with_reducible apply cq);rfl)|((with_reducible apply cD);rfl)|(with_reducible intro _))
 all_goals first
  | (refine .pure (by simp) ?_
     have:cN d has (.mk t ss)=false:=by
      rw[cN,he];simp only[hlen,eg,gG]at *
      grind
     rw[this])
  | (have b1:(decide (t=[])||decide (t=[42])||small t)=true:=by grind
     have b2:ss.length≤64:=by simp only[hlen]at *;grind
     have b3:¬(t=[]∧ss.length=0):=by simp only[hlen]at *;grind
     refine aZ (α:=Nat) (fun k=>k≤ss.length∧(ss.take k).all (ic d has)=true) (fun k=>[i_ k]) (fun _=>[.ak ⟨42,[.str t,.sl 9 (dQ ss)],true⟩,.ak ⟨96,[i_ d,b_ has],true⟩]) (fun k=>ss.length-k) 0 (by simp) (Wk.refl _ _ _ (by simp)) ?_;rintro k ⟨hk,hI⟩;refine zzA (zzU rfl rfl ?_);refine zzf (n:=ss.length) hlen fun _=>?_;refine zzC ?_;rcases uP k ss.length with q|q
     ·obtain⟨s,hx⟩:∃s,ss[k]?=some s:=⟨ss[k],dO q⟩;have hin:aJ ((k:Int)+1):=by unfold aJ;omega
      have nxt:(ss.take (k+1)).all (ic d has)=ic d has s:=by
       rw[By,hx,List.all_append,hI];simp
      have bad:ic d has s=false→cN d has (.mk t ss)=false:=by
       intro hb;rw[cN,kU];have:ss.all (ic d has)=false:=by
        rw[List.all_eq_false];exact⟨s,gE hx,by simp[hb]⟩
       rw[this];simp
      have hzs:zS s≤n:=by have:=pA (gE hx);omega
      refine zzL (by simpa using q) (zzA (zzU rfl rfl (zzb (dE ss) rfl hx (zzY (by simp[mG]) (zzV rfl (bY _) (zzT (by kernel_rfl) (hS s hzs d has hd) ?_))))));repeat' (first|(with_reducible apply aq)|((with_reducible apply cm);rfl;rfl;first|assumption|(unfold aJ;omega))|((with_reducible apply dU);rfl)|((with_reducible apply jl);rfl)|((with_reducible apply cq);rfl)|(with_reducible intro _))
      all_goals first
       | exact .pure (by simp) (by rw[bad (by grind)])
       | exact⟨k+1,⟨q,by rw[nxt];grind⟩,Wk.refl _ _ _ (by simp),by omega⟩
     ·have hk:k=ss.length:=by omega
      subst hk;rw[BY]at hI;refine zzK (by simp) (.pure (by simp) ?_);rw[cN,kU,hI,b1,he];simp only[AV.v.injEq,Value.bool.injEq]
      grind)
def I1(s:Sm):bn p_ 56 [.agg (du s)] (.agg [u1 s.kind,.str s.name,u1 s.op,.str s.value,b_ s.fold,i_ s.a,i_ s.b,b_ s.of]):=by
 obtain⟨k,na,o,v,f,a,b,w,l⟩:=s;refine (V56 _).bj (by simp[DM]) (by simp) ?_;unfold XZ;rw[du];repeat' (first|((with_reducible apply aH);rfl)|((with_reducible apply aD);rfl;rfl;rfl)|((with_reducible apply dr);rfl;rfl;first|exact bY _|exact lT rfl)|((with_reducible apply fo);first|rfl|simp)|((with_reducible apply dT);rfl;rfl;rfl;rfl;(first|exact bY _|simp);(first|rfl|simp);(first|rfl|simp))|((with_reducible apply ba);rfl))
 exact .pure (by simp) rfl
def Ja(hn:n<2^60)(hX:OX n)(l:List Cx)(hz:cQ l≤n)(d:Nat)(has:Bool)(hd:d≤3)(k:Int):bn p_ 128 [.sl 3 (bL l),.agg [i_ d,b_ has],u1 k] (b_ (ij d has k&&cX (d+1) (has||decide (k=14)) (decide (k=14)) l)):=by
 refine (Y5 _ _ _).bj (by simp[gH]) (by simp) ?_;unfold Sv;have hlen:(bL l).length=l.length:=by simp[cu]
 have hxl:=rF l;rw[kV];cases hq:ij d has k
 ·repeat' (first|((with_reducible apply dU);rfl)|((with_reducible apply au);rfl;first|rfl|assumption)|((with_reducible apply dr);rfl;rfl;first|exact bY _|exact lT rfl)|((with_reducible apply fo);first|rfl|simp)|((with_reducible apply dT);rfl;rfl;rfl;rfl;(first|exact bY _|simp);(first|rfl|simp);(first|rfl|simp))|((with_reducible apply je);rfl;rfl)|(refine uCon (I2 d has k hd hq) ?_))
  all_goals exact .pure (by simp) (by simp)
 ·have hd':d+1≤3:=by unfold ij at hq;grind
  repeat' (first|((with_reducible apply dU);rfl)|((with_reducible apply aw);rfl;first|rfl|assumption)|((with_reducible apply dr);rfl;rfl;first|exact bY _|exact lT rfl)|((with_reducible apply fo);first|rfl|simp)|((with_reducible apply dT);rfl;rfl;rfl;rfl;(first|exact bY _|simp);(first|rfl|simp);(first|rfl|simp))|((with_reducible apply je);rfl;rfl)|(refine uCon (I3 d has k hd hq) ?_))
  refine aZ (α:=Nat) (fun i=>i≤l.length∧(l.take i).all (eS (d+1) (has||decide (k=14)) (decide (k=14)))=true) (fun i=>[i_ i]) (fun _=>[.ak ⟨96,[i_ d,b_ has],true⟩,.ak ⟨96,[i_ (d+1),b_ (has||decide (k=14))],true⟩]) (fun i=>l.length-i) 0 (by simp) (Wk.refl _ _ _ (by simp)) ?_;rintro i ⟨hk,hI⟩;refine zzf (n:=l.length) hlen fun _=>?_;refine zzC ?_;rcases uP i l.length with q|q
  ·obtain⟨x,hx⟩:∃s,l[i]?=some s:=⟨l[i],dO q⟩;have hin:aJ ((i:Int)+1):=by unfold aJ;omega
   have nxt:(l.take (i+1)).all (eS (d+1) (has||decide (k=14)) (decide (k=14)))=eS (d+1) (has||decide (k=14)) (decide (k=14)) x:=by
    rw[By,hx,List.all_append,hI];simp
   have bad:eS (d+1) (has||decide (k=14)) (decide (k=14)) x=false→l.all (eS (d+1) (has||decide (k=14)) (decide (k=14)))=false:=by
    intro hb;rw[List.all_eq_false];exact⟨x,gE hx,by simp[hb]⟩
   have hzs:zX x≤n:=by have:=mQ (gE hx);omega
   refine zzL (by simpa using q) (zzb (cu l) rfl hx (zzY (by simp[jn]) (zzV rfl (bY _) (zzG (zzT (by kernel_rfl) (hX x hzs (d+1) (has||decide (k=14)) (decide (k=14)) hd') ?_)))));repeat' (first|(with_reducible apply aq)|((with_reducible apply cm);rfl;rfl;first|assumption|(unfold aJ;omega))|((with_reducible apply dU);rfl)|((with_reducible apply jl);rfl)|((with_reducible apply cq);rfl)|(with_reducible intro _))
   all_goals first
    | exact .pure (by simp) (by rw[bad (by grind)];rfl)
    | exact⟨i+1,⟨q,by rw[nxt];grind⟩,Wk.refl _ _ _ (by simp),by omega⟩
  ·have hk:i=l.length:=by omega
   subst hk;rw[BY]at hI;refine zzK (by simp) ?_;exact .pure (by simp) (by rw[hI];rfl)
def tR(k:Int)(na:ae)(o:Int)(v:ae)(f:Bool)(a b:Int)(w:Bool)(l:List Cx):bn p_ 56 [.agg [u1 k,.str na,u1 o,.str v,b_ f,i_ a,i_ b,b_ w,.sl 3 (bL l)]] (.agg [u1 k,.str na,u1 o,.str v,b_ f,i_ a,i_ b,b_ w]):=by
 have:=I1 (.mk k na o v f a b w l);rw[du]at this;exact this
def Oj(hn:n<2^60)(hX:OX n):R0 (n+1):=by
 rintro⟨k,na,o,v,f,a,b,w,l⟩ hz d has hd;rw[zS]at hz;refine (V90 _ _).bj (by simp[DM]) (by simp) ?_;unfold Ys;rw[du,Lj];have hlen:(bL l).length=l.length:=by simp[cu]
 have pX:=gH l;repeat' (first|(with_reducible apply aF)|(with_reducible apply aq)|((with_reducible first|apply gZ|apply fc|apply bU|apply dB);rfl;rfl)|((with_reducible apply gQ);rfl;rfl)|((with_reducible apply dU);rfl)|((with_reducible apply aL);rfl)|((with_reducible apply aQ);rfl)|((with_reducible apply au);rfl;first|rfl|assumption)|((with_reducible apply bw);rfl;first|rfl|assumption)|((with_reducible apply bz);rfl;first|rfl|assumption)|((with_reducible apply dG);rfl)|((with_reducible apply jl);rfl)|((with_reducible apply fy);rfl)|((with_reducible apply aH);rfl)|((with_reducible apply aD);rfl;rfl;rfl)|((with_reducible apply dr);rfl;rfl;first|exact bY _|exact lT rfl)|((with_reducible apply xu);rfl;rfl;rfl)|((with_reducible apply fo);first|rfl|simp)|((with_reducible apply dT);rfl;rfl;rfl;rfl;(first|exact bY _|simp);(first|rfl|simp);(first|rfl|simp))|((with_reducible apply cU);rfl;(first|rfl|simp);intro _)|((with_reducible apply ba);rfl)|(refine uCon (tR k na o v f a b w l) ?_)|(refine uCon (Ja hn hX l (by omega) d has hd k) ?_)|(refine uCon (Ap _) ?_)|(refine uCon (Aq _) ?_)|(refine uCon (Ao _ _) ?_)|(refine uCon (Jd _ _) ?_)|((with_reducible apply cq);rfl)|((with_reducible apply cD);rfl)|(with_reducible intro _))
 all_goals refine .pure (by simp) ?_
 all_goals simp only[eg,gG,AV.v.injEq,Value.bool.injEq,Value.int.injEq,true_and,hlen]at *
 all_goals grind [gw,eO,jq,nF]
theorem LK:∀n,n<2^60→OX n∧RZ n∧R0 n
 | 0,_=>⟨fun x hz=>by have:=Gj x;omega,fun x hz=>by have:=Gh x;omega,fun x hz=>by have:=Gi x;omega⟩
 | n+1,hn=>by
   obtain⟨hX,hP,hS⟩:=LK n (by omega);exact⟨Ok (by omega) hP,Oi (by omega) hS,Oj (by omega) hX⟩
def Je(x:Cx)(hz:zX x<2^60)(d:Nat)(has rel:Bool)(hd:d≤3):bn p_ 40 [.agg (fJ x),.agg [i_ d,b_ has],b_ rel] (b_ (eS d has rel x)):=
 (LK (zX x) hz).1 x (bY _) d has rel hd
def M5(l:List Cx)(hz:cQ l<2^59):bn p_ 24 [.sl 3 (bL l)] (b_ (!l.isEmpty&&cX 0 false false l)):=by
 refine (V24 _).bj (by simp[gH]) (by simp) ?_;unfold Xw;have hlen:(bL l).length=l.length:=by simp[cu]
 have hxl:=rF l;have he:l.isEmpty=decide (l.length=0):=by cases l<;>simp
 rw[kV,he];refine aZ (α:=Nat) (fun i=>i≤l.length∧(l.take i).all (eS 0 false false)=true) (fun i=>[i_ i]) (fun _=>[]) (fun i=>l.length-i) 0 (by simp) (Wk.refl _ _ _ (by simp)) ?_;rintro i ⟨hk,hI⟩;refine zzf (n:=l.length) hlen fun _=>?_;refine zzC ?_;rcases uP i l.length with q|q
 ·obtain⟨x,hx⟩:∃s,l[i]?=some s:=⟨l[i],dO q⟩;have hin:aJ ((i:Int)+1):=by unfold aJ;omega
  have nxt:(l.take (i+1)).all (eS 0 false false)=eS 0 false false x:=by
   rw[By,hx,List.all_append,hI];simp
  have bad:eS 0 false false x=false→l.all (eS 0 false false)=false:=by
   intro hb;rw[List.all_eq_false];exact⟨x,gE hx,by simp[hb]⟩
  have hzs:zX x<2^60:=by have:=mQ (gE hx);omega
  refine zzL (by simpa using q) (zzb (cu l) rfl hx (zzY (by simp[jn]) (ba rfl (oI (by simp[jn]) (by kernel_rfl) (Je x hzs 0 false false (by omega)) ?_))));repeat' (first|(with_reducible apply aq)|((with_reducible apply cm);rfl;rfl;first|assumption|(unfold aJ;omega))|((with_reducible apply dU);rfl)|((with_reducible apply jl);rfl)|((with_reducible apply cq);rfl)|(with_reducible intro _))
  all_goals first
   | exact .pure (by simp) (by rw[bad (by grind)];simp)
   | exact⟨i+1,⟨q,by rw[nxt];grind⟩,Wk.refl _ _ _ (by simp),by omega⟩
 ·have hk:i=l.length:=by omega
  subst hk;rw[BY]at hI;refine zzK (by simp) ?_;refine zzf (n:=l.length) hlen fun _=>?_;refine zzE (.pure (by simp) ?_);rw[hI];simp only[AV.v.injEq,Value.bool.injEq]
  grind
def RW(n:Nat):Prop:=∀l:List Cx,cQ l<n→bn p_ 13 [.sl 3 (bL l)] (i_ (number l))
def QV(hn:n<2^60)(hC:RW n):RW (n+1):=by
 intro l hz;refine (V13 _).bj (by simp[gH]) (by simp) ?_;unfold Xm;have hl:=A3 l;have hlen:(bL l).length=l.length:=by simp[cu]
 refine zzf (n:=l.length) hlen fun _=>?_;refine aZ (α:=Nat) (fun k=>k≤l.length) (fun k=>[i_ ((l.length+dJ (l.take k):Nat):Int),i_ k]) (fun _=>[]) (fun k=>l.length-k) 0 (by simp) (by simpa[dJ]using Wk.refl _ _ _ (by simp)) ?_;intro k hk;refine zzf (n:=l.length) hlen fun _=>?_;refine zzC ?_;rcases uP k l.length with q|q
 ·obtain⟨⟨le,ps,cs⟩,hx⟩:∃x,l[k]?=some x:=⟨l[k],dO q⟩;have hin:aJ ((k:Int)+1):=by unfold aJ;omega
  have hzx:=mQ (gE hx);rw[zX]at hzx;have hnx:=Ff hx;rw[nX]at hnx;have hle:=yD l (k+1);have hpl:(dn ps).length=ps.length:=by simp[dv]
  refine zzL (by simpa using q) (aZ (α:=Nat) (fun i=>i≤ps.length) (fun i=>[i_ ((l.length+dJ (l.take k)+fC (ps.take i):Nat):Int),i_ i]) (fun _=>[]) (fun i=>ps.length-i) 0 (by simp) (by simpa[fC]using Wk.refl _ _ _ (by simp)) ?_);intro i hi;refine zzb (cu l) rfl hx ?_;rw[fJ];refine zzX (zzW ?_);refine zzf (n:=ps.length) hpl fun _=>?_;refine zzC ?_;rcases uP i ps.length with q2|q2
  ·obtain⟨⟨t,ss⟩,hp⟩:∃x,ps[i]?=some x:=⟨ps[i],dO q2⟩;have hin2:aJ ((i:Int)+1):=by have:=rC ps;unfold aJ;omega
   have hzp:=py (gE hp);rw[zP]at hzp;have hnp:=Fa hp;rw[nP]at hnp;have hle2:=yB ps (i+1);have hsl:(dQ ss).length=ss.length:=by simp[dE]
   refine zzL (by simpa using q2) (zzb (cu l) rfl hx ?_);rw[fJ];refine zzX (zzW (zzb (dv ps) rfl hp ?_));rw[gR];refine zzX (zzW (aZ (α:=Nat) (fun j=>j≤ss.length) (fun j=>[i_ ((l.length+dJ (l.take k)+fC (ps.take i)+dN (ss.take j):Nat):Int),i_ j]) (fun _=>[]) (fun j=>ss.length-j) 0 (by simp) (by simpa[dN]using Wk.refl _ _ _ (by simp)) ?_));intro j hj;refine zzf (n:=ss.length) hsl fun _=>?_;refine zzC ?_;rcases uP j ss.length with q3|q3
   ·obtain⟨⟨kd,na,o,v,f,a,b,w,l2⟩,hs⟩:∃x,ss[j]?=some x:=⟨ss[j],dO q3⟩;have hin3:aJ ((j:Int)+1):=by have:=pz ss;unfold aJ;omega
    have hzs:=pA (gE hs);rw[zS]at hzs;have hns:=Fc hs;rw[nS]at hns;have hle3:=yC ss (j+1);have hin4:aJ (((l.length+dJ (l.take k)+fC (ps.take i)+dN (ss.take j):Nat):Int)+(number l2:Int)):=by unfold number aJ;omega
    refine zzL (by simpa using q3) (zzb (dE ss) rfl hs ?_);rw[du];refine zzX (zzW (uCon (hC l2 (by omega)) (zzP hin4 (zzP hin3 (aq ?_)))));refine⟨j+1,q3, ?_,by omega⟩;have e:((l.length+dJ (l.take k)+fC (ps.take i)+dN (ss.take j):Nat):Int)+(number l2:Int)=((l.length+dJ (l.take k)+fC (ps.take i)+dN (ss.take (j+1)):Nat):Int):=by rw[hns];unfold number;omega
    rw[e];exact Wk.refl _ _ _ (by simp)
   ·have hj:j=ss.length:=by omega
    subst hj;rw[BY];refine zzK (by simp) (zzP hin2 (aq ?_));refine⟨i+1,q2, ?_,by omega⟩;rw[hnp];simpa[Nat.add_assoc]using Wk.refl _ _ _ (by simp)
  ·have hi:i=ps.length:=by omega
   subst hi;rw[BY];refine zzK (by simp) (zzP hin (aq ?_));refine⟨k+1,q, ?_,by omega⟩;rw[hnx];simpa[Nat.add_assoc]using Wk.refl _ _ _ (by simp)
 ·have hk:k=l.length:=by omega
  subst hk;rw[BY];refine zzK (by simp) ?_;exact .pure (by simp) rfl
theorem Ld:∀n,n<2^60→RW n
 | 0,_=>fun l hz=>by omega
 | n+1,hn=>QV (by omega) (Ld n (by omega))
def Ah(l:List Cx)(hz:cQ l<2^59):bn p_ 13 [.sl 3 (bL l)] (i_ (number l)):=
 Ld (cQ l+1) (by omega) l (by omega)
def Jb(l:List Cx)(hz:cQ l<2^59):bn p_ 10 [.sl 3 (bL l)] (i_ (iw l)):=by
 refine (V10 _).bj (by simp[gH]) (by simp) ?_;unfold Xl;repeat' (first|((with_reducible apply fc);rfl;rfl)|((with_reducible apply dU);rfl)|((with_reducible apply jl);rfl)|(refine uCon (M5 l hz) ?_)|(refine uCon (Ah l hz) ?_)|((with_reducible apply cq);rfl)|(with_reducible intro _))
 all_goals refine .pure (by simp) ?_
 all_goals simp only[eg,gG,AV.v.injEq,Value.bool.injEq,Value.int.injEq,true_and,iw]at *
 all_goals grind
end
section
open Go Go.Aw Go.bo
def yx{α:Type}(a b:α):Bool:=@decide (a=b) (Classical.propDecidable _)
theorem ta{α:Type}{a b:α}(h:a=b):yx a b=true:=by unfold yx;simp[h]
theorem qG{α:Type}{a b:α}(h:¬a=b):yx a b=false:=by unfold yx;simp[h]
def zI(cs:List Int):ae:=cs.map fun c=>UInt8.ofNat c.toNat
theorem O1{x:AV}{h:aa}{K:AV→Prop}{cs:List Int}(e:x=.sl 1 (cs.map fun c=>[u1 c]))(q:K (.str (zI cs))):cP x h K:=by
 subst e;have h2:∀cs:List Int,wF (cs.map fun c=>[u1 c]).flatten=some (zI cs):=by
  intro cs;induction cs with
  | nil=>rfl
  | cons c cs ih=>show (wF (cs.map fun c=>[u1 c]).flatten).map _=_;rw[ih];rfl
 unfold cP;rw[gM,Option.bind_some,h2];exact q
theorem FV:∀{a b:List Int},(∀c∈a,1≤c∧c≤4)→(∀c∈b,1≤c∧c≤4)→zI a=zI b→a=b
 | [],[],_,_,_=>rfl
 | [],_:: _,_,_,h=>by cases h
 | _:: _,[],_,_,h=>by cases h
 | x:: a,y:: b,ha,hb,h=>by
   unfold zI at h;rw[GO,GO]at h;obtain⟨h1,h2⟩:=List.cons.inj h;have hx:=ha x (abn ..);have hy:=hb y (abn ..);have e:x=y:=by
    rcases (by omega:x=1∨x=2∨x=3∨x=4) with rfl|rfl|rfl|rfl<;>rcases (by omega:y=1∨y=2∨y=3∨y=4) with rfl|rfl|rfl|rfl<;>first|rfl|exact absurd h1 (by decide)
   rw[e,FV (fun c hc=>ha c (Lt _ hc)) (fun c hc=>hb c (Lt _ hc)) h2]
theorem xn{α:Type}{a b:List α}{i:Nat}{x y:α}(h:a.take i=b.take i)(hx:a[i]?=some x)(hy:b[i]?=some y)(e:x=y):a.take (i+1)=b.take (i+1):=by
 rw[By,By,h,hx,hy,e]
theorem EI{α:Type}{a b:List α}(hl:a.length=b.length){i:Nat}(h:i<a.length):∃x y,a[i]?=some x∧b[i]?=some y:=⟨a[i],b[i],dO h,dO (by omega)⟩
theorem Jw{α:Type}{a b:List α}{i:Nat}{x y:α}(hx:a[i]?=some x)(hy:b[i]?=some y)(h:¬x=y):¬a=b:=fun e=>h (by rw[e,hy]at hx;exact (DO hx).symm)
def JZ(l:List Cx):Prop:=∃d has rel,cX d has rel l=true
def Xk(l:List Sm):Prop:=∃d has,jb d has l=true
section
variable [Laid]
def OY(n:Nat):Prop:=∀a b:List Cx,cQ a≤n→cQ b<2^40→JZ a→JZ b→bn p_ 11 [.sl 3 (bL a),.sl 3 (bL b)] (b_ (yx a b))
def R1(n:Nat):Prop:=∀a b:List Sm,gL a≤n+1→gL b<2^40→Xk a→Xk b→bn p_ 41 [.sl 9 (dQ a),.sl 9 (dQ b)] (b_ (yx a b))
theorem U9{n:Nat}(hn:n<2^40)(hX:OY n):R1 n:=by
 intro a b ha hb ⟨da,ha',va⟩ ⟨db,hb',vb⟩;refine (V41 _ _).bj (by simp[xc]) (by simp) ?_;unfold XN;have hla:(dQ a).length=a.length:=by simp[dE]
 have hlb:(dQ b).length=b.length:=by simp[dE]
 refine zzf hla fun _=>?_;refine zzf hlb fun _=>?_;refine zzH ?_
 by_cases hl:a.length=b.length
 ·refine zzK (by simp[hl]) (aZ (α:=Nat) (fun i=>i≤a.length∧a.take i=b.take i) (fun i=>[i_ i]) (fun _=>[]) (fun i=>a.length-i) 0 (by simp) (Wk.refl _ _ _ (by simp)) ?_);rintro i ⟨hi,ht⟩;refine zzf hla fun _=>?_;refine zzC ?_;rcases uP i a.length with q|q
  ·obtain⟨x,y,hx,hy⟩:=EI hl q;have hzl:=pz a;have hzx:=pA (gE hx);have hzy:=pA (gE hy);have no:¬x=y→yx a b=false:=fun h=>qG (Jw hx hy h);have vx:=At.1 (by rw[←kU];exact va) x (gE hx);have vy:=At.1 (by rw[←kU];exact vb) y (gE hy);obtain⟨k,na,o,v,f,c,e,w,l⟩:=x;obtain⟨k',na',o',v',f',c',e',w',l'⟩:=y;rw[zS]at hzx hzy;rw[ic,NO]at vx vy;have vl:∀{d:Nat} {has:Bool} {k:Int} {w:Bool} {l:List Cx},(if gw k w then decide (d≠3)&&!(has&&decide (k=14))&&(nF k||!l.isEmpty)&&cX (d+1) (has||decide (k=14)) (decide (k=14)) l else l.isEmpty)=true→JZ l:=by
    intro d has k w l h
    by_cases z:gw k w=true
    ·rw[if_pos z,NO]at h;exact⟨_,_,_,h.2⟩
    ·rw[if_neg z]at h;rw[List.isEmpty_iff.1 h];exact⟨0,false,false,rfl⟩
   refine zzL (by simpa using q) (zzb (dE a) rfl hx ?_);rw[du];refine zzY rfl (zzT (by kernel_rfl) (tR k na o v f c e w l) (zzb (dE b) rfl hy ?_));rw[du];refine zzY rfl (zzT (by kernel_rfl) (tR k' na' o' v' f' c' e' w' l') ?_);refine xu (b:=decide (k=k')&&(decide (na=na')&&(decide (o=o')&&(decide (v=v')&&(decide (f=f')&&(decide (c=c')&&(decide (e=e')&&(decide (w=w')&&true)))))))) rfl rfl ?_ ?_
   ·have hb:∀b c:Bool,(b == c)=decide (b=c):=by decide
    simp[jh,Ey,hb]
   obtain⟨t,hte⟩:∃t,(decide (k=k')&&(decide (na=na')&&(decide (o=o')&&(decide (v=v')&&(decide (f=f')&&(decide (c=c')&&(decide (e=e')&&(decide (w=w')&&true))))))))=t:=⟨_,rfl⟩;rw[hte];rw[if_pos rfl];cases t with
   | true =>
     have hall:=hte;simp only[NO,Of,and_true]at hall;obtain⟨rfl,rfl,rfl,rfl,rfl,rfl,rfl,rfl⟩:=hall;refine aF (zzN rfl (zzb (dE a) rfl hx ?_));rw[du];refine zzX (zzW (zzb (dE b) rfl hy ?_));rw[du];refine zzX (zzW (zzT (by kernel_rfl) (hX l l' (by omega) (by omega) (vl vx.2) (vl vy.2)) (zzO (zzQ ?_))))
     by_cases hll:l=l'
     ·rw[ta hll];refine zzK rfl (zzP (by unfold aJ;omega) (aq ?_));exact⟨i+1,⟨q,xn ht hx hy (by rw[hll])⟩,Wk.refl _ _ _ (by simp),by omega⟩
     ·rw[qG hll];refine zzL rfl (.pure (by simp) ?_);rw[no (fun z=>hll (by injection z))]
   | false =>
     refine aF (zzM rfl (zzR (zzL rfl (.pure (by simp) ?_))));rw[no (fun z=>?_)];injection z with e1 e2 e3 e4 e5 e6 e7 e8 e9
     subst e1 e2 e3 e4 e5 e6 e7 e8;simp at hte
  ·have hk:i=a.length:=by omega
   subst hk;refine zzK (by simp) (.pure (by simp) ?_);rw[BY,hl,BY]at ht;rw[ta ht]
 ·refine zzL (by simp[hl];omega) (.pure (by simp) ?_);rw[qG fun z=>hl (by rw[z])]
theorem Ko{n:Nat}(hn:n<2^40)(hS:R1 n)(x y:Cx)(hx:zX x≤n+1)(hy:zX y<2^40){d d':Nat}{has has' rel rel':Bool}(vx:eS d has rel x=true)(vy:eS d' has' rel' y=true):
 bn p_ 25 [.agg (fJ x),.agg (fJ y)] (b_ (yx x y)):=by
 obtain⟨l,a,cs⟩:=x;obtain⟨l',b,cs'⟩:=y;refine (V25 _ _).bj (by simp[x6]) (by simp) ?_;unfold Xx;rw[zX]at hx hy;rw[eS]at vx vy;simp only[NO,At,Of]at vx vy;rw[fJ,fJ];have hla:(dn a).length=a.length:=by simp[dv]
 have hlb:(dn b).length=b.length:=by simp[dv]
 refine bT (n:=0) (h':=[.ak ⟨39,[u1 l,.sl 2 (dn a),.sl 1 (cs.map fun c=>[u1 c])],true⟩]) rfl (by simp[bG]) rfl rfl ?_;obtain⟨H,hH⟩:∃H:aa,H=[.ak ⟨39,[u1 l,.sl 2 (dn a),.sl 1 (cs.map fun c=>[u1 c])],true⟩,.ak ⟨39,[u1 l',.sl 2 (dn b),.sl 1 (cs'.map fun c=>[u1 c])],true⟩]:=⟨_,rfl⟩;refine bT (n:=1) (h':=H) rfl (by simp[bG]) rfl (by rw[hH];rfl) ?_;have h0:H[0]?=some (.ak ⟨39,[u1 l,.sl 2 (dn a),.sl 1 (cs.map fun c=>[u1 c])],true⟩):=by rw[hH];rfl
 have h1:H[1]?=some (.ak ⟨39,[u1 l',.sl 2 (dn b),.sl 1 (cs'.map fun c=>[u1 c])],true⟩):=by rw[hH];rfl
 clear hH;refine zzA (zzU h0 rfl (zzA (zzU h1 rfl (zzH ?_))));have no:¬(l=l'∧a=b∧cs=cs')→dI (b_ (yx (Cx.mk l a cs) (Cx.mk l' b cs'))) ff H:=fun h=>.pure (by simp) (by rw[qG fun z=>h (by injection z with z1 z2 z3;exact⟨z1,z2,z3⟩)]);refine aF ?_
 by_cases hl:l=l'
 rotate_left
 ·refine zzM (by simp[hl]) (aq (xv rfl (ud rfl (by simp[hl]) (aF (zzM rfl (aq (zzR (zzL rfl ?_))))))));exact no fun z=>hl z.1
 refine zzN (by simp[hl]) (zzA (zzU h0 rfl ?_));refine zzf hla fun _=>?_;refine zzA (zzU h1 rfl ?_);refine zzf hlb fun _=>?_;refine zzH (aq (zzQ (aF ?_)))
 by_cases hn:a.length=b.length
 rotate_left
 ·refine zzM (by simp[hn];omega) (aq (xv rfl (ud rfl (by simp[hn]) (zzL rfl ?_))));exact no fun z=>hn (by rw[z.2.1])
 refine zzN (by simp[hn]) (zzA (zzU h0 rfl (O1 rfl (zzA (zzU h1 rfl (O1 rfl (zzJ (aq (zzQ ?_)))))))))
 by_cases hc:zI cs=zI cs'
 rotate_left
 ·refine zzL (by simp[hc]) ?_;exact no fun z=>hc (by rw[z.2.2])
 refine zzK (by simp[hc]) ?_;have hcs:=FV vx.1.2 vy.1.2 hc;refine aZ (α:=Nat) (fun i=>i≤a.length∧a.take i=b.take i) (fun i=>[i_ i]) (fun _=>H) (fun i=>a.length-i) 0 (by simp) (Wk.refl _ _ _ (by simp)) ?_;rintro i ⟨hi,ht⟩;refine zzA (zzU h0 rfl ?_);refine zzf hla fun _=>?_;refine zzC ?_;rcases uP i a.length with q|q
 ·obtain⟨x,y,hxi,hyi⟩:=EI hn q;have hzl:=rC a;have hzx:=py (gE hxi);have hzy:=py (gE hyi);have wx:=At.1 (by rw[←ml];exact vx.2) x (gE hxi);have wy:=At.1 (by rw[←ml];exact vy.2) y (gE hyi);have ne:=Jw hxi hyi;have tm:=xn ht hxi hyi;obtain⟨t,ss⟩:=x;obtain⟨t',ss'⟩:=y;rw[zP]at hzx hzy;rw[cN]at wx wy;simp only[NO]at wx wy;refine zzL (by simpa using q) (zzA (zzU h0 rfl (zzb (dv a) rfl hxi ?_)));rw[gR];refine zzX (zzW (zzA (zzU h1 rfl (zzb (dv b) rfl hyi ?_))));rw[gR];refine zzX (zzW (zzJ (aF ?_)))
  by_cases ht2:t=t'
  rotate_left
  ·refine zzM (by simp[ht2]) (BC rfl (by simp[ht2]) (zzL rfl ?_));exact no fun z=>ne (fun z=>ht2 (by injection z)) z.2.1
  refine zzN (by simp[ht2]) (zzA (zzU h0 rfl (zzb (dv a) rfl hxi ?_)));rw[gR];refine zzX (zzW (zzA (zzU h1 rfl (zzb (dv b) rfl hyi ?_))));rw[gR];refine zzX (zzW (zzT (by kernel_rfl) (hS ss ss' (by omega) (by omega) ⟨_,_,wx.2⟩ ⟨_,_,wy.2⟩) (zzO (ud rfl (by simp[ht2]) ?_))))
  by_cases hss:ss=ss'
  ·rw[ta hss];refine zzK rfl (zzP (by unfold aJ;omega) (aq ?_));exact⟨i+1,⟨q,tm (by rw[ht2,hss])⟩,Wk.refl _ _ _ (by simp),by omega⟩
  ·rw[qG hss];refine zzL rfl ?_;exact no fun z=>ne (fun z=>hss (by injection z)) z.2.1
 ·have hk:i=a.length:=by omega
  subst hk;refine zzK (by simp) ?_;rw[BY,hn,BY]at ht;refine .pure (by simp) ?_;rw[ta (by rw[hl,ht,hcs])]
theorem Va{n:Nat}(hn:n<2^40)(hS:R1 n):OY (n+1):=by
 intro a b ha hb ⟨da,ha',ra,va⟩ ⟨db,hb',rb,vb⟩;refine (Xf _ _).bj (by simp[gH]) (by simp) ?_;unfold Sf;have hla:(bL a).length=a.length:=by simp[cu]
 have hlb:(bL b).length=b.length:=by simp[cu]
 refine zzf hla fun _=>?_;refine zzf hlb fun _=>?_;refine zzH ?_
 by_cases hl:a.length=b.length
 ·refine zzK (by simp[hl]) (aZ (α:=Nat) (fun i=>i≤a.length∧a.take i=b.take i) (fun i=>[i_ i]) (fun _=>[]) (fun i=>a.length-i) 0 (by simp) (Wk.refl _ _ _ (by simp)) ?_);rintro i ⟨hi,ht⟩;refine zzf hla fun _=>?_;refine zzC ?_;rcases uP i a.length with q|q
  ·obtain⟨x,y,hx,hy⟩:=EI hl q;have hzl:=rF a;have hzx:=mQ (gE hx);have hzy:=mQ (gE hy);have vx:=At.1 (by rw[←kV];exact va) x (gE hx);have vy:=At.1 (by rw[←kV];exact vb) y (gE hy);refine zzL (by simpa using q) (zzb (cu a) rfl hx (zzY (by simp[jn]) (zzb (cu b) rfl hy (zzY (by simp[jn]) (zzT (by kernel_rfl) (Ko hn hS x y (by omega) (by omega) vx vy) (zzO ?_))))))
   by_cases hxy:x=y
   ·rw[ta hxy];refine zzK rfl (zzP (by unfold aJ;omega) (aq ?_));exact⟨i+1,⟨q,xn ht hx hy hxy⟩,Wk.refl _ _ _ (by simp),by omega⟩
   ·rw[qG hxy];refine zzL rfl ?_;exact .pure (by simp) (by rw[qG (Jw hx hy hxy)])
  ·have hk:i=a.length:=by omega
   subst hk;refine zzK (by simp) ?_;rw[BY,hl,BY]at ht;exact .pure (by simp) (by rw[ta ht])
 ·refine zzL (by simp[hl];omega) ?_;exact .pure (by simp) (by rw[qG fun z=>hl (by rw[z])])
theorem WI:OY 0:=by
 intro a b ha hb va vb;have h0:a=[]:=by
  have:=rF a;exact List.length_eq_zero_iff.1 (by omega)
 subst h0;refine (Xf _ _).bj (by simp[gH,bL,cG]) (by simp) ?_;unfold Sf;have hlb:(bL b).length=b.length:=by simp[cu]
 refine zzf (n:=0) rfl fun _=>?_;refine zzf hlb fun _=>?_;refine zzH ?_
 by_cases hl:b=[]
 ·subst hl;refine zzK rfl (aZ (α:=Unit) (fun _=>True) (fun _=>[i_ (0:Nat)]) (fun _=>[]) (fun _=>0) () trivial (Wk.refl _ _ _ (by simp)) ?_);rintro _ _;refine zzf (n:=0) rfl fun _=>?_;refine zzC (zzK (by simp) ?_);exact .pure (by simp) (by rw[ta rfl])
 ·refine zzL ?_ ?_
  ·cases b with
   | nil=>exact absurd rfl hl
   | cons x b=>simp;omega
  ·exact .pure (by simp) (by rw[qG fun z=>hl z.symm])
theorem LX:∀n,n<2^40→OY n
 | 0,_=>WI
 | n+1,h=>Va (by omega) (U9 (by omega) (LX n (by omega)))
theorem M7{a b:List Cx}(ha:cQ a<2^40)(hb:cQ b<2^40)(va:JZ a)(vb:JZ b):bn p_ 11 [.sl 3 (bL a),.sl 3 (bL b)] (b_ (yx a b)):=LX _ ha a b (bY _) hb va vb
end
end
section
open Go Go.Aw
variable [Laid]
def W7(h:aa)(K:AV→aa→Prop):Prop:=
 iC p_ 15 [.str [65,46,120,62,98,32,44,32,58,73,83,40,112,44,44,113,32,114,41],.str [97,46,120,32,62,32,98,44,32,58,105,115,40,112,44,32,113,32,114,41]] h fun e a=>qKa e a (fun f=>iC p_ 15 [.str [91,72,114,101,102,94,61,120,32,105,93],.str [91,104,114,101,102,94,61,34,120,34,32,105,93]] a f) fun g b=>qKa g b (fun i=>iC p_ 15 [.str [58,78,84,72,45,67,72,73,76,68,40,49,41],.str [58,102,105,114,115,116,45,99,104,105,108,100]] b i) fun j c=>qKa j c (fun k=>iC p_ 16 [.str [97,58,104,97,115,40,98,58,104,97,115,40,99,41,41]] c k) fun l d=>qKa l d (fun m=>iC p_ 15 [.str [97,58,105,115,40,98,58,104,97,115,40,99,41,44,32,100,58,104,97,115,40,58,104,97,115,40,101,41,41,41],.str [97,58,105,115,40,98,58,104,97,115,40,99,41,41]] d m) fun n o=>K n o
def V7:Body p_ 7 [] (W7):=bC Tryz.func7 (sn (.seq (.aN (oR 0 2 (.aA 1 true [(2,false)] [] [2,3]::oR 3 2 (.aA 4 true [(5,false)] [] [5,6]::oR 6 2 (.aA 7 true [(8,false)] [] [8,9]::oR 9 2 (.aA 10 true [(11,false)] [] [11,12]::oR 12 2 [])))))) .nil)) 14 [.tmp 0]
def Xo(g e:AV)(h:aa)(K:AV→aa→Prop):Prop:=
 iC p_ 8 [g] h fun a i=>aR 0 a fun j=>aR 1 a fun k=>iC p_ 9 [j] i fun b c=>aR 0 b fun d=>aR 1 b fun l=>qBe .eql k 0 fun m=>qJa m [e,d] c (fun n=>qBe .eql l 0 fun o=>n o c) fun p f=>qKa p f (fun q=>ag .eql d e fun r=>q r f) fun s t=>K s t
def V15(a b:AV):Body p_ 15 [a,b] (Xo a b):=bC Tryz.func15 (sn (sn (sn (.seq (.aN (oR 0 3 (.aA 2 true (fR 3 2) [1,7] [21,23]::oR 5 2 (.aA 6 true (fR 7 3) [] [25,28]::oR 10 2 [])))) .nil)))) 30 [.tmp 4]
def Xp(b:AV)(h:aa)(K:AV→aa→Prop):Prop:=
 iC p_ 8 [b] h fun a c=>aR 0 a fun f=>aR 1 a fun d=>qBe .eql d 12 fun e=>K e c
def V16(a:AV):Body p_ 16 [a] (Xp a):=bC Tryz.func16 .nil 12 [.tmp 2]
def W9(b:AV)(h:aa)(K:AV→aa→Prop):Prop:=
 iC p_ 20 [b] h fun c d=>qBe .neq c 0 fun f=>af f (K (.ay [.str [],c]) d) (aV 63 (.agg [.v (.pointer none),qNs]) d fun a g=>iC p_ 21 [a,b] g fun p i=>bg 0 a fun j=>iC p_ 22 [j] i fun k e=>qBe .gtr k 4000 fun l=>af l (K (.ay [.str [],i_ 28]) e) (bg 0 a fun m=>iC p_ 23 [m] e fun n o=>K (.ay [n,i_ 0]) o))
def V9(a:AV):Body p_ 9 [a] (W9 a):=bC Tryz.func9 .nil 18 [.tmp 2,.tmp 3]
def Xu(a d:AV)(h:aa)(K:AV→aa→Prop):Prop:=
 bq d fun e=>bN [i_ 0] h fun E c o =>
 ag .lss (nx c 0) e fun F=>af F (aI 3 d (nx c 0) fun G=>ah true 3 G o fun H=>aV 39 (.agg [u8 0,qNs,qNs]) o fun b I=>ao 3 b H I fun u=>aG (fun v=>qBe .gtr (nx c 0) 0 fun J=>af J (qFd p_ a 0 fun L=>iC p_ 36 [L,.str [44,32]] u fun c9 M=>eC [a,b,d,e,nx c 0] (v [] M)) (eC [a,b,d,e,nx c 0] (v [] u))) fun d0 N=>aW (.agg [.str [],.str [],.str [],.str [],.str []]) [(0,1,(.str [])),(1,1,(.str [32])),(2,1,(.str [32,62,32])),(3,1,(.str [32,43,32])),(4,1,(.str [32,126,32]))] fun O=>aV 89 (.agg [.str [],.str [],.str [],.str [],.str []]) N fun f P=>ao 5 f O P fun l=>aG (fun w=>iFL 0 false 1 b l fun Q=>ag .gtr Q (u8 1) fun R=>af R (qFd p_ a 0 fun S=>iFL 0 false 1 b l fun T=>eU 5 1 f T fun U=>ah false 1 U l fun V=>eV V (some (i_ 1)) none fun W=>iC p_ 36 [S,W] l fun d1 X=>eC [a,b,f,d,e,nx c 0] (w [] X)) (eC [a,b,f,d,e,nx c 0] (w [] l))) fun d2 x=>iFL 1 false 1 b x fun i=>bq i fun k=>bN [i_ 0] x fun Y g p =>
 ag .lss (nx g 0) k fun Z=>af Z (aI 2 i (nx g 0) fun a0=>ah true 2 a0 p fun a1=>aV 42 (.agg [.str [],qNs]) p fun j a2=>ao 2 j a1 a2 fun m=>aG (fun y=>qBe .gtr (nx g 0) 0 fun a3=>af a3 (qFd p_ a 0 fun a4=>iFL 2 false 1 b m fun a5=>qBe .sub (nx g 0) 1 fun a6=>aI 1 a5 a6 fun a7=>ah false 1 a7 m fun a8=>eU 5 1 f a8 fun a9=>ah false 1 a9 m fun b0=>iC p_ 36 [a4,b0] m fun d3 b1=>eC [a,b,f,j,d,e,nx c 0,i,k,nx g 0] (y [] b1)) (eC [a,b,f,j,d,e,nx c 0,i,k,nx g 0] (y [] m))) fun d4 n=>aG (fun q=>iFL 0 false 1 j n fun z=>ag .eql z (.str []) fun b2=>af b2 (eC [a,b,f,j,d,e,nx c 0,i,k,nx g 0] (q [] n)) (ag .eql z (.str [42]) fun b3=>af b3 (qFd p_ a 0 fun b4=>iC p_ 37 [b4,u8 42] n fun d5 b5=>eC [a,b,f,j,d,e,nx c 0,i,k,nx g 0] (q [] b5)) (iFL 0 false 1 j n fun b6=>aW (.agg [u8 0,.str [],i_ 0,.str [],ff]) [(0,1,(u8 1)),(1,1,b6)] fun b7=>iC p_ 38 [a,b7] n fun d6 b8=>eC [a,b,f,j,d,e,nx c 0,i,k,nx g 0] (q [] b8)))) fun d7 A=>iFL 1 false 1 j A fun r=>bq r fun B=>bN [i_ 0] A fun b9 s t =>
 ag .lss (nx s 0) B fun c0=>af c0 (aI 9 r (nx s 0) fun c1=>ah true 9 c1 t fun c2=>aV 46 (.agg [u8 0,.str [],u8 0,.str [],ff,i_ 0,i_ 0,ff,qNs]) t fun C c3=>ao 9 C c2 c3 fun D=>ah true 9 C D fun c4=>iC p_ 39 [a,c4] D fun d8 c5=>qBe .add (nx s 0) 1 fun c6=>eC [a,b,f,d,e,nx c 0,i,k,nx g 0,r,B] (b9 [c6] c5)) (qBe .add (nx g 0) 1 fun c7=>eC [a,b,f,d,e,nx c 0,i,k] (Y [c7] t))) (qBe .add (nx c 0) 1 fun c8=>eC [a,d,e] (E [c8] p))) (K (.ay []) o)
def V21(a b:AV):Body p_ 21 [a,b] (Xu a b):=bC Tryz.func21 (sn (.one (.loop [0,11,12] [13] (sn (sn (.seq (.one (sn (.join [0,5,11,12,13] [] .nil (sn (.join [0,5,6,11,12,13] [] (sn (.two (.draw 8 (oR 0 8 []) [.op 8 true] []) .nil)) (sn (.one (.loop [0,5,6,11,12,13,38,39] [40] (sn (sn (.seq (.one (sn (.join [0,5,6,8,11,12,13,38,39,40] [] (sn (.two (.draw 11 (oR 0 11 []) [.op 11 true] []) .nil)) (.join [0,5,6,8,11,12,13,38,39,40] [] .nil (sn (.one (.loop [0,5,6,11,12,13,38,39,40,75,76] [77] .nil))))))) .nil))))))))))) .nil)))))) 87 []
def XL(a w:AV)(h:aa)(K:AV→aa→Prop):Prop:=
 aV 46 w h fun b o=>iFL 1 false 1 b o fun x=>aW (.agg [u8 0,.str [],i_ 0,.str [],ff]) [(0,1,(u8 1)),(1,1,x)] fun y=>aV 70 (.agg [u8 0,.str [],i_ 0,.str [],ff]) o fun g z=>ao 5 g y z fun c=>iFL 0 false 1 b c fun i=>ag .eql i (u8 1) fun A=>af A (iFL 1 false 1 b c fun B=>aW (.agg [u8 0,.str [],i_ 0,.str [],ff]) [(0,1,(u8 4)),(1,1,B),(4,1,tt)] fun C=>iC p_ 38 [a,C] c fun e1 D=>K (.ay []) D) (ag .eql i (u8 2) fun E=>af E (qFd p_ a 0 fun F=>iC p_ 37 [F,u8 46] c fun e2 p=>ah true 5 g p fun G=>iC p_ 38 [a,G] p fun e3 H=>K (.ay []) H) (ag .eql i (u8 3) fun I=>af I (qFd p_ a 0 fun J=>iC p_ 37 [J,u8 91] c fun e4 q=>ah true 5 g q fun L=>iC p_ 38 [a,L] q fun e5 e=>aG (fun r=>iFL 2 false 1 b e fun M=>ag .neq M (u8 0) fun N=>af N (qFd p_ a 0 fun O=>aW (.agg [.str [],.str [],.str [],.str [],.str [],.str [],.str []]) [(0,1,(.str [])),(1,1,(.str [61])),(2,1,(.str [126,61])),(3,1,(.str [124,61])),(4,1,(.str [94,61])),(5,1,(.str [36,61])),(6,1,(.str [42,61]))] fun P=>iFL 2 false 1 b e fun Q=>mM false 1 7 P Q fun R=>iC p_ 36 [O,R] e fun e6 s=>iFL 3 false 1 b s fun S=>aW (.agg [u8 0,.str [],i_ 0,.str [],ff]) [(0,1,(u8 5)),(1,1,S)] fun T=>iC p_ 38 [a,T] s fun e7 U=>eC [a,b] (r [] U)) (eC [a,b] (r [] e))) fun e8 j=>aG (fun t=>iFL 4 false 1 b j fun V=>af V (qFd p_ a 0 fun W=>iC p_ 36 [W,.str [32,105]] j fun e9 X=>eC [a] (t [] X)) (eC [a] (t [] j))) fun f0 Y=>qFd p_ a 0 fun Z=>iC p_ 37 [Z,u8 93] Y fun f1 a0=>K (.ay []) a0) (iFL 7 false 1 b c fun a1=>cr a1 fun a2=>qJa a2 [a,b] c (fun a3=>iFL 5 true 2 b c fun a4=>aW (.agg [i_ 0,i_ 0]) [(1,1,(i_ 1))] fun a5=>mc false [1,1] a4 a5 fun a6=>a3 a6 c) fun a7 k=>qJa a7 [a,b] k (fun a8=>iFL 0 false 1 b k fun a9=>ag .leq a9 (u8 10) fun b0=>a8 b0 k) fun b1 d=>af b1 (qFd p_ a 0 fun b2=>aW (.agg [.str [],.str []]) [(0,1,(.str [58,102,105,114,115,116,45,99,104,105,108,100])),(1,1,(.str [58,108,97,115,116,45,99,104,105,108,100]))] fun b3=>iFL 0 false 1 b d fun b4=>ag .sub b4 (u8 9) fun b5=>mM false 1 2 b3 b5 fun b6=>iC p_ 36 [b2,b6] d fun f2 b7=>K (.ay []) b7) (qFd p_ a 0 fun b8=>iQ p_ 53 [] d fun b9=>iFL 0 false 1 b d fun c0=>ag .sub c0 (u8 4) fun c1=>aI 1 b9 c1 fun c2=>ah false 1 c2 d fun c3=>ag .add (.str [58]) c3 fun c4=>iC p_ 36 [b8,c4] d fun f3 l=>iFL 0 false 1 b l fun c5=>ag .leq c5 (u8 8) fun c6=>af c6 (K (.ay []) l) (qFd p_ a 0 fun c7=>iC p_ 37 [c7,u8 40] l fun f4 f=>aG (fun m=>iFL 0 false 1 b f fun c8=>ag .leq c8 (u8 10) fun c9=>af c9 (iFL 5 true 2 b f fun d0=>iC p_ 54 [d0] f fun u d1=>aR 0 u fun d2=>aR 1 u fun f5=>qFd p_ a 0 fun d3=>iC p_ 36 [d3,d2] d1 fun f6 n=>iFL 7 false 1 b n fun d4=>af d4 (qFd p_ a 0 fun d5=>iC p_ 36 [d5,.str [32,111,102,32]] n fun f7 d6=>eC [a,b] (m [] d6)) (eC [a,b] (m [] n))) (eC [a,b] (m [] f))) fun f8 v=>iFL 8 false 1 b v fun d7=>iC p_ 21 [a,d7] v fun f9 d8=>qFd p_ a 0 fun d9=>iC p_ 37 [d9,u8 41] d8 fun g0 e0=>K (.ay []) e0)))))
def V39(a b:AV):Body p_ 39 [a,b] (XL a b):=bC Tryz.func39 (sn (sn (.seq (sn (.one (sn (.two .nil (sn (.two .nil (sn (.two (sn (sn (.join [0,3] [] (sn (.two (.seq (.draw 7 (oR 0 7 []) [.op 7 true] []) .nil) .nil)) (.join [0] [] .nil .nil)))) .nil)))))))) (.seq (.seq (.aN (oR 0 4 (.aA 3 true (fR 4 4) [0,3] [66,70]::oR 8 2 (.aA 9 true (fR 10 3) [0,3] [72,75]::.op 13 false::[])))) (.two (.seq (.draw 8 (oR 0 8 []) [.op 8 true] []) .nil) .nil)) (.seq (.draw 10 (oR 0 10 []) [.op 10 true] []) (sn (sn (.join [0,3] [] .nil .nil)))))))) 132 []
def XK(i c:AV)(h:aa)(K:AV→aa→Prop):Prop:=
 aV 70 c h fun d a=>ah true 5 d a fun e=>iC p_ 52 [e] a fun b f=>aR 0 b fun g=>aR 1 b fun l=>qFd p_ i 0 fun j=>iC p_ 36 [j,g] f fun m k=>K (.ay []) k
def V38(a b:AV):Body p_ 38 [a,b] (XK a b):=bC Tryz.func38 .nil 16 []
def XI(a c:AV)(h:aa)(K:AV→aa→Prop):Prop:=
 iC p_ 51 [a] h fun j b=>qLd p_ a 1 b fun d=>mL false 5 1 d c b fun e f=>qSt p_ a 1 e f fun g=>cZ c fun i=>K (.ay [i,(.v .nilIface)]) g
def V36(a b:AV):Body p_ 36 [a,b] (XI a b):=bC Tryz.func36 .nil 19 [.tmp 4,.tmp 5]
def XJ(a d:AV)(h:aa)(K:AV→aa→Prop):Prop:=
 iC p_ 51 [a] h fun j b=>qLd p_ a 1 b fun c=>bt 1 1 (u8 0) [(0,1,d)] fun e=>bR false 5 1 1 c e b fun f g=>qSt p_ a 1 f g fun i=>K (.v .nilIface) i
def V37(a b:AV):Body p_ 37 [a,b] (XJ a b):=bC Tryz.func37 (sn (sn (.seq (.aN (oR 0 6 (.op 6 true::oR 7 4 []))) .nil))) 17 [.tmp 4]
def Xv(a:AV)(h:aa)(K:AV→aa→Prop):Prop:=
 qLd p_ a 1 h fun b=>bq b fun c=>K c h
def V22(a:AV):Body p_ 22 [a] (Xv a):=bC Tryz.func22 .nil 8 [.tmp 2]
end
section
set_option maxHeartbeats 4000000
open Go Go.RowKit
def Ef:∃j,p_.info? 61=some j∧j.size=2:=
 Option.map_eq_some_iff.1 (show (p_.info? 61).map (·.size)=some 2 by kernel_rfl)
def PV(b o:Nat)(w:World)(h0:w.cell? ⟨b,o,none⟩=some (.pointer (some ⟨b,o,none⟩))):
 Calls p_ 51 #[.pointer (some ⟨b,o,none⟩)] w fun e w' => e=.returned (.tuple #[])∧w'=w:=by
 obtain⟨j,hj,_⟩:=Ef
 go_enter Tryz.func51,Tryz.ntmps51
 go_wp2
 rw[Lib.run_neq_ptr_same w _ Tryz.underlying59 hj]
 go_wp2
 go_end0
 exact⟨rfl,rfl⟩
def MZ(T:TypeId)(n b o:Nat)(w:World)(h0:w.cell? ⟨b,o,none⟩=some (.pointer none))(hsh:w.shape? b=some (T,n))(ho:o<n)(hl:liesAt p_ p_.depth T (n/p_.cellsOf T) o 61 1=true)(hfz:w.frozen? ⟨b,o,none⟩=false):
 Calls p_ 51 #[.pointer (some ⟨b,o,none⟩)] w fun e w' => e=.returned (.tuple #[])∧w'=w.setCell ⟨b,o,none⟩ (.pointer (some ⟨b,o,none⟩)):=by
 obtain⟨j,hj,hjs⟩:=Ef
 go_enter Tryz.func51,Tryz.ntmps51
 go_wp2
 rw[Lib.run_to_unsafe w ⟨b,o,none⟩ Tryz.underlying59 Tryz.underlying138 hj (by rw[hjs];decide) hsh ho];simp only[Result.andThen];rw[Oper.upon_value]
 go_wp2
 rw[run_callFunc_extern Tryz.func83 (by kernel_rfl) (by kernel_rfl) (by kernel_rfl) (e:=Extern.AbiNoEscape.same) (by kernel_rfl)];rw[Lib.run_noEscape];simp only[Result.andThen];rw[Oper.upon_value]
 go_wp2
 rw[Lib.run_from_unsafe w ⟨b,o,none⟩ Tryz.underlying138 Tryz.underlying59 hj hsh hl];simp only[Result.andThen];rw[Oper.upon_value]
 go_wp2
 go_end0
 exact⟨rfl,rfl⟩
def OC(b o g cap m:Nat)(l:List UInt8)(w:World)(h0:l≠[])(hc:w.cell? ⟨b,o+1,none⟩=some (.slice (some ⟨g,0,none⟩) l.length cap))(hcap:l.length≤cap)(hcm:cap≤maxLen)(hsh:w.shape? g=some (5,m))(hm:l.length≤m)
 (hcell:∀j x,l[j]?=some x→w.cell? ⟨g,j,none⟩=some (.int .u8 x.toNat)) :
 Calls p_ 23 #[.pointer (some ⟨b,o,none⟩)] w fun e w' => e=.returned (.string ⟨l.toArray⟩)∧w'=w.drew.freeze ⟨g,0,none⟩ l.length:=by
 have hl0:l.length≠0:=by simpa using h0
 have c1:w.drew.cell? ⟨b,o+1,none⟩=some (.slice (some ⟨g,0,none⟩) l.length cap):=hc;have hSD:(Builtin.unsafeSliceData_ #[35] 93 #[.slice (some ⟨g,0,none⟩) l.length cap]).run p_ w.drew=.ok (.pointer (some ⟨g,0,none⟩)) w.drew:=
  Lib.run_unsafeSliceData_row _ _ _ _ _ _ (by omega)
 have hUS:(Builtin.unsafeString_ #[93,3] 9 #[.pointer (some ⟨g,0,none⟩),.int .i64 l.length]).run p_ w.drew=.ok (.string ⟨l.toArray⟩) (w.drew.freeze ⟨g,0,none⟩ l.length):=by
  refine Lib.run_unsafeString_row w.drew 93 3 9 5 Tryz.underlying93 (by kernel_rfl) g m hsh l h0 hm (by unfold maxLen at hcm;omega) ?_;intro j x hx;have:=hcell j x hx;simp only[Addr.add];split
  ·rename_i q;subst q;exact this
  ·simpa using this
 go_enter Tryz.func23,Tryz.ntmps23
 go_wp2
 go_region
 all_goals (go_wp2;go_ret;exact⟨rfl,rfl⟩)
def Gv(k:Nat):liesAt p_ p_.depth 63 (k+1) 0 61 1=true:=by kernel_rfl
end
end Go.Proofs.YtpcnidmmkknndaaGreatDoor
section
namespace Go.Aw
open Go Go.RowKit
variable [Laid]
omit [Laid] in
def tT(w:World)(g k b:Nat)(hb:b≠g):(w.freeze ⟨g,0,none⟩ k).heap[b]?=w.heap[b]?:=by
 unfold World.freeze;split
 ·rfl
 ·simp only[Array.getElem?_modify];rw[if_neg (Ne.symm hb)]
omit [Laid] in
def yH(w:World)(g k:Nat):(w.freeze ⟨g,0,none⟩ k).heap.size=w.heap.size:=by
 unfold World.freeze;split
 ·rfl
 ·simp
omit [Laid] in
def Gk(w:World)(g k b o:Nat):(w.freeze ⟨g,0,none⟩ k).cell? ⟨b,o,none⟩=w.cell? ⟨b,o,none⟩:=by
 by_cases hb:b=g
 ·subst hb;unfold World.freeze;split
  ·rfl
  ·unfold World.cell?;simp only[Array.getElem?_modify,if_pos rfl];cases w.heap[b]? with
   | none=>rfl
   | some x=>cases x<;>rfl
 ·exact World.cell?_of_block (w:=w) (tT w g k b hb)
omit [Laid] in
def FK(w:World)(g k b:Nat):(w.freeze ⟨g,0,none⟩ k).shape? b=w.shape? b:=by
 by_cases hb:b=g
 ·subst hb;unfold World.freeze;split
  ·rfl
  ·unfold World.shape?;simp only[Array.getElem?_modify,if_pos rfl];cases w.heap[b]? with
   | none=>rfl
   | some x=>cases x<;>rfl
 ·unfold World.shape?;rw[tT w g k b hb]
def cK.frozen{base:Nat}(hh:cK base ι S w h){id e sz n g cap:Nat}(q:h[id]?=some (.tok e sz n))(hv:ι[id]?=some (.tok n (.slice (some ⟨g,0,none⟩) n cap)))(hc:cap≠0)(hg:base≤g)(k:Nat):
 bS ι.length base ι S w ι S (w.freeze ⟨g,0,none⟩ k)∧cK base ι S (w.freeze ⟨g,0,none⟩ k) (h.set id .dead):=by
 have hE:bS ι.length base ι S w ι S (w.freeze ⟨g,0,none⟩ k):=⟨fun _ _=>fX.refl _,fun _ _ h=>h,fun _ _ h=>.inl h,fun b o _=>Gk w g k b o,fun b x hx=>by rw[FK];exact hx,Lib.below_freeze (Below.refl base w) (p:=⟨g,0,none⟩) hg k⟩;have hlt:id<h.length:=(eQ.1 q).1;have at':(h.set id aK.dead)[id]?=some .dead:=iD hlt;refine⟨hE,hh.vZ hE (by simp[hh.len]) id (fun i hi ha=>?_) (fun y ey=>by rw[at']at ey;cases ey) (fun t s m ey=>by rw[at']at ey;cases ey) (fun en ey=>by rw[at']at ey;cases ey;trivial) (fun j c hj ai=>by rw[at']at ai;exact ai.elim) (fun b o s=>by rw[yH];exact hh.iK b o s) (by rw[yH];exact hh.kC)⟩;rw[iF (Ne.symm hi)]at ha ⊢;refine⟨rfl,rfl,fun c hc' _=>⟨tT w g k c fun z=>?_,fun _ z=>z⟩⟩;subst z;exact hi (hh.inj i id c ha (by rw[q];exact trivial) hc' (by rw[hv];exact⟨_,_,_,rfl,rfl,hc⟩))
end Go.Aw
namespace Go.Proofs.YtpcnidmmkknndaaGreatDoor
open Go Go.Aw Go.RowKit
variable [Laid]
def D9{id o:Nat}(e:h[id]?=some (.ak x))(hc:x.cells[o]?=some (.op id o)):bW p_ 51 [.op id o] h fun r hh=>r=.ay []∧hh=h:=by
 intro base ι S w vs h1 h2
 match vs,h1 with
 | [],h1=>simp at h1
 | v:: u:: vs,h1=>simp at h1
 | [v],h1 =>
   simp only[bP,dt,and_true]at h1;rw[ar]at h1;obtain⟨b,hb,rfl⟩:=h1;obtain⟨b',arr,fz,k1,k2,k3,k4,k5,k6,_⟩:=h2.live id x e;rw[hb]at k1;cases k1;obtain⟨u,hu,ru⟩:=k6 o _ hc;rw[ar]at ru;obtain⟨b2,hb2,rfl⟩:=ru;rw[hb]at hb2;cases hb2;refine (PV b o w (by rw[gb k3];exact hu)).mono ?_;rintro e w' ⟨rfl,rfl⟩;exact⟨_,ι,S,.ay [],h,rfl,bS.refl _ _ _ _ _,by rw[ar];exact⟨[],rfl,by simp⟩,h2,bY _,rfl,rfl⟩
def CC{id:Nat}(e:h[id]?=some (.ak x))(hw:x.wr=true)(ht:x.ty=63)(hc:x.cells[0]?=some (.v (.pointer none)))(hl:2≤x.cells.length):bW p_ 51 [.op id 0] h fun r hh=>r=.ay []∧hh=h.set id (.ak { x with cells:=x.cells.set 0 (.op id 0) }):=by
 intro base ι S w vs h1 h2
 match vs,h1 with
 | [],h1=>simp at h1
 | v:: u:: vs,h1=>simp at h1
 | [v],h1 =>
   simp only[bP,dt,and_true]at h1;rw[ar]at h1;obtain⟨b,hb,rfl⟩:=h1;obtain⟨b',arr,fz,k1,k2,k3,k4,k5,k6,_⟩:=h2.live id x e;rw[hb]at k1;cases k1;obtain⟨u,hu,ru⟩:=k6 0 _ hc;rw[cz]at ru;subst ru;have hsh:w.shape? b=some (63,arr.size):=by unfold World.shape?;rw[k3,ht]
   have hcl:p_.cellsOf 63=2:=by kernel_rfl
   have hlies:liesAt p_ p_.depth 63 (arr.size/p_.cellsOf 63) 0 61 1=true:=by
    rw[hcl];obtain⟨k,hk⟩:∃k,arr.size/2=k+1:=⟨arr.size/2-1,by omega⟩;rw[hk];exact Gv k
   refine (MZ 63 arr.size b 0 w (by rw[gb k3];exact hu) hsh (by omega) hlies (by rw[pW k3];have:=k4 0 (by omega);simp;omega)).mono ?_;rintro e' w' ⟨rfl,rfl⟩;obtain⟨hE,hH⟩:=h2.set e hw hb (o:=0) (by omega) (c:=.op id 0) (v:=.pointer (some ⟨b,0,none⟩)) (by rw[ar];exact⟨b,hb,rfl⟩);exact⟨_,ι,S,.ay [],_,rfl,hE.mono (by rw[h2.len];exact bY _) (bY _),by rw[ar];exact⟨[],rfl,by simp⟩,hH,by simp,rfl,rfl⟩
theorem IQ{id o tid n:Nat}{rows:List (List AV)}(e:h[id]?=some (.ak x))(hc:x.cells[o+1]?=some (.sb tid 1 rows))(ht:h[tid]?=some (.tok 5 1 n))(hn:n=rows.length)(hr:rows=l.map fun b=>[bf b])(h0:l≠[]):
 bW p_ 23 [.op id o] h fun r hh=>r=.str l∧hh=h.set tid .dead:=by
 intro base ι S w vs h1 h2
 match vs,h1 with
 | [],h1=>simp at h1
 | v:: u:: vs,h1=>simp at h1
 | [v],h1 =>
   simp only[bP,dt,and_true]at h1;rw[ar]at h1;obtain⟨b,hb,rfl⟩:=h1;obtain⟨b',arr,fz,k1,k2,k3,k4,k5,k6,_⟩:=h2.live id x e;rw[hb]at k1;cases k1;obtain⟨u,hu,ru⟩:=k6 (o+1) _ hc;rw[ar]at ru;obtain⟨⟨a,cap,rfl,hcap,hcm,hz⟩,n',v',t1,t2,t3⟩:=ru;have hlr:rows.length=l.length:=by rw[hr,aaQ]
   have hrn:rows≠[]:=fun z=>h0 (List.length_eq_zero_iff.1 (by rw[←hlr,z];rfl));obtain⟨v2,s1,a2,cap2,ev2,c1,c2,c3⟩:=h2.tok tid _ _ _ ht;rw[t1]at s1;simp only[On,Ix.tok.injEq]at s1;obtain⟨rfl,rfl⟩:=s1;have hev:=t3 hn;rw[←hev]at ev2;simp only[Value.slice.injEq]at ev2;obtain⟨rfl,_,rfl⟩:=ev2;have hlp:0<l.length:=by rw[List.length_pos_iff];exact h0
   have hc0:cap≠0:=by omega
   rcases c3 with c3|⟨g,arr2,fz2,rfl,d1,d2,d3,d4,d5⟩
   ·exact absurd c3 hc0
   rcases hz with hz|⟨b3,off3,e3,hR⟩
   ·exact absurd hz hrn
   simp only[On,Addr.mk.injEq,and_true]at e3;obtain⟨rfl,rfl⟩:=e3;rw[hlr]at hu hev hcap;have hst:=OC b o g cap arr2.size l w h0 (by rw[gb k3];exact hu) hcap c2 (by unfold World.shape?;rw[d2]) (by omega) (fun j y hy=>by
    have hj:rows[j]?=some [bf y]:=by rw[hr,iN,hy];rfl
    obtain⟨_,hC⟩:=hR.get j _ hj;obtain⟨z,z1,_,z3⟩:=hC.get 0 (bf y) rfl;rw[bf,cz]at z3;subst z3;simpa using z1)
   refine hst.mono ?_;rintro e' w' ⟨rfl,rfl⟩;obtain⟨hE1,hH1⟩:=h2.drew;obtain⟨hE2,hH2⟩:=hH1.frozen (id:=tid) (g:=g) (cap:=cap) ht (by rw[t1,←hev,hn,hlr]) hc0 d1 l.length;exact⟨_,ι,S,.str l,_,rfl,(hE1.trans hE2).mono (by rw[h2.len];exact bY _) (bY _),by rw[ar];exact⟨rfl,by omega⟩,hH2,by simp,rfl,rfl⟩
end Go.Proofs.YtpcnidmmkknndaaGreatDoor
end
namespace Go.Proofs.YtpcnidmmkknndaaGreatDoor
section
open Go Go.Aw Go.bo
def Bl(id:Nat)(h:aa)(t:ae):Prop:=
 ∃x,h[id]?=some (.ak x)∧x.wr=true∧x.ty=63∧((x.cells=[.v (.pointer none),.v (.slice none 0 0)]∧t=[])∨∃tid,x.cells=[.op id 0,.sb tid 1 (eM t)]∧h[tid]?=some (.tok 5 1 t.length))
def Fr(id:Nat)(h h':aa):Prop:=h.length≤h'.length∧∀j,j<h.length→j≠id→(∀e s n,h[j]?≠some (.tok e s n))→h'[j]?=h[j]?
def Fr.refl(id:Nat)(h:aa):Fr id h h:=⟨bY _,fun _ _ _ _=>rfl⟩
def Fr.trans{id:Nat}(a:Fr id h h')(b:Fr id h' h''):Fr id h h'':=
 ⟨aa7 a.1 b.1,fun j hj hne ht=>by
  have e:=a.2 j hj hne ht;rw[b.2 j (Up hj a.1) hne (by rw[e];exact ht),e]⟩
def Fr.ak{id:Nat}(f:Fr id h h')(hj:h[j]?=some (.ak x))(hne:j≠id):h'[j]?=some (.ak x):=by
 rw[f.2 j (iW hj) hne (by rw[hj];intro e s n q;cases q),hj]
def Fr.app(id:Nat)(h k:aa):Fr id h (h++k):=⟨by simp,fun j hj _ _=>gO hj⟩
def Fr.set{id:Nat}(h:aa)(e:aK):Fr id h (h.set id e):=⟨by simp,fun j _ hne _=>iF (Ne.symm hne)⟩
def Fr.tok{id:Nat}{tid:Nat}{e s n}(ht:h[tid]?=some (.tok e s n))(x:aK):Fr id h (h.set tid x):=⟨by simp,fun j _ _ hn=>iF fun q=>by subst q;exact hn _ _ _ ht⟩
def Bl.app{id:Nat}(b:Bl id h t)(k:aa):Bl id (h++k) t:=by
 obtain⟨x,h1,h2,h3,h4⟩:=b;refine⟨x,by rw[gO (iW h1)];exact h1,h2,h3, ?_⟩;rcases h4 with h4|⟨tid,h4,h5⟩
 ·exact .inl h4
 ·exact .inr ⟨tid,h4,by rw[gO (iW h5)];exact h5⟩
def PL{K:AV→aa→Prop}(ex:x=.v (.slice none 0 0))(hl:l.length≤2^41)(q:K (.sb h.length 1 (eM l)) (h++[.tok 5 1 l.length])):mL false 5 1 x (.str l) h K:=by
 subst ex;unfold mL eI;exact⟨ue l,⟨by unfold maxLen;simp;omega,by simp;omega⟩,by simpa using q⟩
def Te{tid:Nat}{K:AV→aa→Prop}(ex:x=.sb tid 1 (eM t))(ht:h[tid]?=some (.tok 5 1 t.length))(hl:t.length+l.length≤2^41)(q:K (.sb tid 1 (eM (t++l))) (h.set tid (.tok 5 1 (t++l).length))):mL false 5 1 x (.str l) h K:=by
 subst ex;unfold mL eI;refine⟨ue l, ?_⟩;simp only[w9];rw[ht];refine⟨by simp,⟨by unfold maxLen;simp;omega,by simp;omega⟩, ?_⟩;simpa using q
variable [Laid]
def Kf{id:Nat}(b:Bl id h t)(s:ae)(hl:t.length+s.length≤2^41):
 bW p_ 36 [.op id 0,.str s] h fun _ h' => Bl id h' (t++s)∧Fr id h h':=by
 obtain⟨x,h1,h2,h3,h4⟩:=b;refine (V36 _ _).bJ ?_;unfold XI;have hid:=iW h1;rcases h4 with⟨h4,rfl⟩|⟨tid,h4,h5⟩
 ·refine eG (by kernel_rfl) rfl (CC h1 h2 h3 (by rw[h4];rfl) (by rw[h4];decide)) ?_;rintro _ _ ⟨rfl,rfl⟩;refine enil (zzA ?_);have e1:(h.set id (.ak { x with cells:=x.cells.set 0 (.op id 0) }))[id]?=some (.ak ⟨63,[.op id 0,.v (.slice none 0 0)],true⟩):=by
   rw[iD hid,h4];obtain⟨ty,cells,wr⟩:=x;simp only at h2 h3;subst h2;subst h3;rfl
  generalize hH:h.set id (.ak { x with cells:=x.cells.set 0 (.op id 0) })=H at e1;have fH:Fr id h H:=by rw[←hH];exact Fr.set _ _
  refine zzU e1 rfl (PL rfl (by simp at hl;omega) (enil (zzA ?_)));have hid2:=iW e1;refine dT (cs:=[.sb H.length 1 (eM s)]) rfl (by rw[gO hid2];exact e1) rfl rfl (by simp) rfl rfl ?_;refine zzZ fun _=>?_;refine⟨_,_,Wk.refl _ _ _ (by have:=fH.1;simp;omega),⟨⟨63,[.op id 0,.sb H.length 1 (eM s)],true⟩, ?_,rfl,rfl,.inr ⟨H.length,by simp, ?_⟩⟩, ?_⟩
  ·rw[iD (by simp;omega)];rfl
  ·rw[iF (by omega)];simp
  ·exact fH.trans ((Fr.app id H _).trans (Fr.set _ _))
 ·refine eG (by kernel_rfl) rfl (D9 h1 (by rw[h4];rfl)) ?_;rintro _ _ ⟨rfl,rfl⟩;refine enil (zzA (zzU (c:=.sb tid 1 (eM t)) h1 (by rw[h4];rfl) (Te rfl h5 hl (enil (zzA ?_)))));have hne:tid≠id:=fun q=>by subst q;rw[h1]at h5;cases h5
  have ht:=iW h5;refine dT (cs:=[.sb tid 1 (eM (t++s))]) rfl (by rw[iF hne];exact h1) h2 rfl (by rw[h4];simp) rfl rfl ?_;refine zzZ fun _=>?_;refine⟨_,_,Wk.refl _ _ _ (by simp),⟨⟨x.ty,[.op id 0,.sb tid 1 (eM (t++s))],x.wr⟩, ?_,h2,h3,.inr ⟨tid,rfl, ?_⟩⟩, ?_⟩
  ·rw[iD (by simp;omega),h4];rfl
  ·rw[iF (Ne.symm hne),iD ht]
  ·exact (Fr.tok h5 _).trans (Fr.set _ _)
end
section
open Go Go.Aw Go.bo
variable [bp]
def Tl{id:Nat}(b:Bl id h t)(c:UInt8)(hl:t.length+1≤2^41):
 bW p_ 37 [.op id 0,bf c] h fun _ h' => Bl id h' (t++[c])∧Fr id h h':=by
 obtain⟨x,h1,h2,h3,h4⟩:=b;refine (V37 _ _).bJ ?_;unfold XJ;have hid:=iW h1;rcases h4 with⟨h4,rfl⟩|⟨tid,h4,h5⟩
 ·refine eG (by kernel_rfl) rfl (CC h1 h2 h3 (by rw[h4];rfl) (by rw[h4];decide)) ?_;rintro _ _ ⟨rfl,rfl⟩;refine enil (zzA ?_);have e1:(h.set id (.ak { x with cells:=x.cells.set 0 (.op id 0) }))[id]?=some (.ak ⟨63,[.op id 0,.v (.slice none 0 0)],true⟩):=by
   rw[iD hid,h4];obtain⟨ty,cells,wr⟩:=x;simp only at h2 h3;subst h2;subst h3;rfl
  generalize hH:h.set id (.ak { x with cells:=x.cells.set 0 (.op id 0) })=H at e1;have fH:Fr id h H:=by rw[←hH];exact Fr.set _ _
  refine zzU e1 rfl (og (EF [c] rfl rfl (by simp) (enil (zzA ?_))));have hid2:=iW e1;refine dT (cs:=[.sb H.length 1 (eM [c])]) rfl (by rw[gO hid2];exact e1) rfl rfl (by simp) rfl rfl ?_;refine⟨_,_,Wk.refl _ _ _ (by have:=fH.1;simp;omega),⟨⟨63,[.op id 0,.sb H.length 1 (eM [c])],true⟩, ?_,rfl,rfl,.inr ⟨H.length,by simp, ?_⟩⟩, ?_⟩
  ·rw[iD (by simp;omega)];rfl
  ·rw[iF (by omega)];simp
  ·exact fH.trans ((Fr.app id H _).trans (Fr.set _ _))
 ·refine eG (by kernel_rfl) rfl (D9 h1 (by rw[h4];rfl)) ?_;rintro _ _ ⟨rfl,rfl⟩;refine enil (zzA (zzU (c:=.sb tid 1 (eM t)) h1 (by rw[h4];rfl) (og (vh [c] rfl rfl (by rw[h5];simp) (by simp;omega) (enil (zzA ?_))))));have hne:tid≠id:=fun q=>by subst q;rw[h1]at h5;cases h5
  have ht:=iW h5;refine dT (cs:=[.sb tid 1 (eM (t++[c]))]) rfl (by rw[iF hne];exact h1) h2 (by simp[bh]) (by rw[h4];simp) rfl rfl ?_;refine⟨_,_,Wk.refl _ _ _ (by simp),⟨⟨x.ty,[.op id 0,.sb tid 1 (eM (t++[c]))],x.wr⟩, ?_,h2,h3,.inr ⟨tid,rfl, ?_⟩⟩, ?_⟩
  ·rw[iD (by simp;omega),h4];rfl
  ·rw[iF (Ne.symm hne),iD ht];simp
  ·exact (Fr.tok h5 _).trans (Fr.set _ _)
def MN{id:Nat}(b:Bl id h t):bW p_ 22 [.op id 0] h fun r h' => r=i_ t.length∧h'=h:=by
 obtain⟨x,h1,h2,h3,h4⟩:=b;refine (V22 _).bJ ?_;unfold Xv;refine enil (zzA ?_);rcases h4 with⟨h4,rfl⟩|⟨tid,h4,h5⟩
 ·refine zzU (c:=.v (.slice none 0 0)) h1 (by rw[h4];rfl) ?_;exact⟨_,_,Wk.refl _ _ _ (bY _),rfl,rfl⟩
 ·refine zzU (c:=.sb tid 1 (eM t)) h1 (by rw[h4];rfl) ?_;rw[TK];intro _;exact⟨_,_,Wk.refl _ _ _ (bY _),by simp,rfl⟩
def MO{id:Nat}(b:Bl id h t)(h0:t≠[]):bW p_ 23 [.op id 0] h fun r h' => r=.str t∧h.length≤h'.length:=by
 obtain⟨x,h1,h2,h3,h4⟩:=b;rcases h4 with⟨h4,rfl⟩|⟨tid,h4,h5⟩
 ·exact absurd rfl h0
 ·refine (IQ (n:=t.length) (rows:=eM t) (l:=t) h1 (by rw[h4];rfl) h5 (by simp) rfl h0).mono ?_;rintro r h' ⟨rfl,rfl⟩;exact⟨rfl,by simp⟩
def Ke{id:Nat}(b:Bl id h t)(k:Int)(s:ae)(f:Bool)(ok:Bs k s f)(hz:gF s=true)(hs:s.length≤2^35)(hl:t.length+(jz k s).length≤2^41):
 bW p_ 38 [.op id 0,vW k s f] h fun r h' => r=.ay []∧Bl id h' (t++jz k s)∧Fr id h h':=by
 refine (V38 _ _).bJ ?_;unfold XK;refine bT (h':=h++[.ak ⟨70,[u8 k,.str s,i_ 0,.str [],b_ f],true⟩]) (n:=h.length) (cs:=[u8 k,.str s,i_ 0,.str [],b_ f]) rfl rfl rfl rfl (zzV (b:=⟨70,[u8 k,.str s,i_ 0,.str [],b_ f],true⟩) (by simp) (bY _) (uCon (P1 k s f ok hz hs) (zzB rfl (zzB rfl (enil (zzA (eG (by kernel_rfl) rfl (Kf (b.app _) (jz k s) hl) ?_)))))));rintro _ h' ⟨b',f'⟩;have f2:=(Fr.app id h _).trans f';exact⟨_,_,Wk.refl _ _ _ f2.1,rfl,b',f2⟩
end
section
open Go Go.Aw Go.bo
def J2{m:Nat}{rows:List (List AV)}{n:Nat}{K:AV→Prop}(e:x=.sl m rows)(ei:i=.v (.int k n))(hr:rows[n]?=some r)(q:K (.ip r)):aI m x i K:=by
 subst e;subst ei;have hn:=(eQ.1 hr).1;refine⟨rfl,⟨by omega,by omega⟩, ?_⟩;rw[Mk,nE,hr];exact q
def IA(n:ae)(o:Int)(v:ae)(f:Bool)(w:Bool)(l:List Cx)(hk:9≤k)(hf:kq k a b w=false)(hn:eO k=true)(ha:oO a=true∧oO b=true):
 jD (.mk k n o v f a b w l)=wz.getD (k-4).toNat []++(mU a b++if w then [32,111,102,32] else [])++fg l++[41]:=by
 rw[jD,if_neg (by omega),if_neg (by omega),if_neg (by omega),hf,if_neg (by decide),if_neg (by omega),se,hn,ha.1,ha.2];rfl
def Rx(n:ae)(o:Int)(v:ae)(f:Bool)(a b:Int)(w:Bool)(l:List Cx)(hk:11≤k):jD (.mk k n o v f a b w l)=wz.getD (k-4).toNat []++fg l++[41]:=by
 have hn:eO k=false:=by unfold eO;rw[nO (by omega),nO (by omega)];rfl
 rw[jD,if_neg (by omega),if_neg (by omega),if_neg (by omega),kq,hn,Bool.false_and,Bool.false_and,Bool.false_and,if_neg (by decide),if_neg (by omega),se,hn];simp[fg]
def OH(n:ae)(o:Int)(v:ae)(f:Bool)(a b:Int)(w:Bool)(l:List Cx)(hk:4≤k)(h8:k≤8):jD (.mk k n o v f a b w l)=wz.getD (k-4).toNat []:=by
 have hn:eO k=false:=by unfold eO;rw[nO (by omega),nO (by omega)];rfl
 rw[jD,if_neg (by omega),if_neg (by omega),if_neg (by omega),kq,hn,Bool.false_and,Bool.false_and,Bool.false_and,if_neg (by decide),if_pos h8]
def OI(n:ae)(o:Int)(v:ae)(f:Bool)(l:List Cx)(hk:9≤k)(hf:kq k a b w=true):jD (.mk k n o v f a b w l)=CQ.getD (k-9).toNat []:=by
 rw[jD,if_neg (by omega),if_neg (by omega),if_neg (by omega),if_pos hf]
variable [bp]
end
section
open Go Go.Aw Go.bo
def zZ{α:Type}{m:Nat}{x i:AV}{l:List α}{rows:List (List AV)}{f:α→List AV}{k:IntKind}{j:Int}{n:Nat}{a:α}{K:AV→Prop}(e:x=.sl m rows)(hr:rows=l.map f)(ei:i=.v (.int k j))(hj:j=n)(ha:l[n]?=some a)(q:K (.ip (f a))):aI m x i K:=by
 subst hj;subst hr;exact J2 e ei (by rw[iN,ha];rfl) q
def rG{α:Type}{p:α→Bool}{l:List α}{i:Nat}{x:α}(h:l.all p=true)(hx:l[i]?=some x):p x=true:=
 At.1 h x (gE hx)
variable [bp]
def qS(l:List Cx):AV:=if iw l=0 then (if (fg l).length≤4000 then .ay [.str (fg l),i_ 0] else .ay [.str [],i_ 28]) else .ay [.str [],i_ (iw l)]
omit [bp] in
def yN(h:iw l=0):cX 0 false false l=true:=by
 unfold iw at h;split at h
 ·rename_i e;simp only[NO]at e;exact e.2
 ·exact absurd h (by decide)
omit [bp] in
def JK(l:List Cx):Aw.Pure (qS l):=by unfold qS;(repeat' split)<;>simp
end
section
open Go Go.Aw Go.bo
def xa:List ae:=[[108,105,110,107],[118,105,115,105,116,101,100],[97,110,121,45,108,105,110,107],[114,111,111,116],[101,109,112,116,121],[110,116,104,45,99,104,105,108,100],[110,116,104,45,108,97,115,116,45,99,104,105,108,100],[105,115],[119,104,101,114,101],[110,111,116],[104,97,115]]
def Uq(j:Nat)(h:j≤10):(xa.map fun s=>[AV.str s])[j]?=some [.str (xa.getD j [])]:=by
 match j,h with
 | 0,_|1,_|2,_|3,_|4,_|5,_|6,_|7,_|8,_|9,_|10,_=>rfl
def QJ(j:Nat)(h:j≤4):wz.getD j []=[58]++xa.getD j []:=by
 match j,h with
 | 0,_|1,_|2,_|3,_|4,_=>rfl
def EV(j:Nat)(h5:5≤j)(h:j≤10):wz.getD j []=[58]++xa.getD j []++[40]:=by
 match j,h5,h with
 | 5,_,_|6,_,_|7,_,_|8,_,_|9,_,_|10,_,_=>rfl
def ZX(o:Nat)(h:o≤6):([.str [],.str [61],.str [126,61],.str [124,61],.str [94,61],.str [36,61],.str [42,61]]:List AV)[o]?=some (.str (A8.getD o [])):=by
 match o,h with
 | 0,_|1,_|2,_|3,_|4,_|5,_|6,_=>rfl
def ZW(o:Nat)(h:o≤1):([.str [58,102,105,114,115,116,45,99,104,105,108,100],.str [58,108,97,115,116,45,99,104,105,108,100]]:List AV)[o]?=some (.str (CQ.getD o [])):=by
 match o,h with
 | 0,_|1,_=>rfl
def PB(k c:Int)(h:c≤k)(h2:k≤14)(h0:0≤c):IntKind.wrap .u8 (k-c)=(((k-c).toNat:Nat):Int):=by
 rw[IntKind.wrap_u8];omega
def fV{id o:Nat}{K:AV→Prop}(e:x=.op id o)(q:K (.op id o)):ca P x K:=by subst e;exact q
def QX(n:Nat):(xa.getD n []).length≤14:=by
 match n with
 | 0|1|2|3|4|5|6|7|8|9|10=>decide
 | n+11=>simp[xa]
def J1{len:Nat}{cs:List AV}{K:AV→Prop}(ex:x=.agg cs)(ei:i=.v (.int k n))(hn:n<len)(hc:cs[n]?=some c)(q:K c):mM false 1 len x i K:=by
 subst ex;subst ei;refine⟨⟨by omega,by omega⟩, ?_⟩;have e:cs.drop (((n:Nat):Int).toNat*1)=c:: cs.drop (n+1):=by
  rw[Mk,Nat.mul_one];obtain⟨h1,h2⟩:=eQ.1 hc;rw[abo h1,h2]
 rw[e];exact q
variable [bp]
def Nf:bn p_ 53 [] (.sl 1 (xa.map fun s=>[.str s])):=by
 refine (Xh).bj (by simp) (by simp[xa]) ?_;unfold S6;unfold bt;simp[dP,gI,bh,bX,bG,chunks];exact .pure (by simp) rfl
def tU{id:Nat}(b:Bl id H u)(f:Fr id h0 H)(s:ae)(hl:u.length+s.length≤2^41){args:List AV}(e:args=[.op id 0,.str s]){K:AV→aa→Prop}(k:∀r H',Bl id H' (u++s)→Fr id h0 H'→K r H'):bx p_ (.fn (.func 36) [] []) args H K:=
 eG (by kernel_rfl) e (Kf b s hl) fun r H' ⟨b',f'⟩=>k r H' b' (f.trans f')
def rW{id:Nat}(b:Bl id H u)(f:Fr id h0 H)(c:UInt8)(hl:u.length+1≤2^41){args:List AV}(e:args=[.op id 0,bf c]){K:AV→aa→Prop}(k:∀r H',Bl id H' (u++[c])→Fr id h0 H'→K r H'):bx p_ (.fn (.func 37) [] []) args H K:=
 eG (by kernel_rfl) e (Tl b c hl) fun r H' ⟨b',f'⟩=>k r H' b' (f.trans f')
def AN{id:Nat}(b:Bl id H u)(f:Fr id h0 H)(k:Int)(s:ae)(fl:Bool)(ok:Bs k s fl)(hz:gF s=true)(hs:s.length≤2^35)(hl:u.length+(jz k s).length≤2^41){args:List AV}(e:args=[.op id 0,vW k s fl]){K:AV→aa→Prop}(q:∀r H',Bl id H' (u++jz k s)→Fr id h0 H'→K r H'):bx p_ (.fn (.func 38) [] []) args H K:=
 eG (by kernel_rfl) e (Ke b k s fl ok hz hs hl) fun r H' ⟨_,b',f'⟩=>q r H' b' (f.trans f')
def S9(n:Nat):Prop:=∀l,cQ l≤n→jK l=true→∀d has rel,cX d has rel l=true→∀id h t,Bl id h t→t.length+100*cQ l≤2^40 →
 bW p_ 21 [.op id 0,.sl 3 (bL l)] h fun r h' => r=.ay []∧Bl id h' (t++fg l)∧Fr id h h'
def OZ(n:Nat):Prop:=∀s,zS s≤n→gS s=true→∀d has,ic d has s=true→∀id h t,Bl id h t→t.length+100*zS s≤2^40 →
 bW p_ 39 [.op id 0,.agg (du s)] h fun r h' => r=.ay []∧Bl id h' (t++jD s)∧Fr id h h'
omit [bp] in
def tC(h:named s=true):s≠[]∧gF s=true:=by
 unfold named at h;simp only[NO,abm,decide_eq_false_iff_not]at h;exact⟨h.1.1,h.2⟩
def OS(hn:n≤2^28)(hL:S9 n):OZ (n+1):=by
 intro s hz hg d has ok id h t b hb;have hlen:=Iz s;obtain⟨k,na,o,v,f,a,bb,w,l⟩:=s;rw[zS]at hz hb hlen;rw[gS,NO,Of]at hg;rw[ic,NO]at ok;obtain⟨ok,okl⟩:=ok;have hid:id<h.length:=by obtain⟨x,h1,_⟩:=b;exact iW h1
 have h3:=uy na;refine (V39 _ _).bJ ?_;unfold XL du;refine bT (h':=h++[.ak ⟨46,[u1 k,.str na,u1 o,.str v,b_ f,i_ a,i_ bb,b_ w,.sl 3 (bL l)],true⟩]) (n:=h.length) (cs:=[u1 k,.str na,u1 o,.str v,b_ f,i_ a,i_ bb,b_ w,.sl 3 (bL l)]) rfl rfl rfl rfl (zzA (zzU (b:=⟨46,[u1 k,.str na,u1 o,.str v,b_ f,i_ a,i_ bb,b_ w,.sl 3 (bL l)],true⟩) (by simp) rfl (ba rfl (bT (h':=h++[.ak ⟨46,[u1 k,.str na,u1 o,.str v,b_ f,i_ a,i_ bb,b_ w,.sl 3 (bL l)],true⟩,.ak ⟨70,[u8 0,.str [],i_ 0,.str [],ff],true⟩]) (n:=h.length+1) (cs:=[u8 0,.str [],i_ 0,.str [],ff]) rfl rfl (by simp) (by simp) ?_))));refine aU (b:=⟨70,[u8 0,.str [],i_ 0,.str [],ff],true⟩) (cs:=[u8 1,.str na,i_ 0,.str [],ff]) (h':=h++[.ak ⟨46,[u1 k,.str na,u1 o,.str v,b_ f,i_ a,i_ bb,b_ w,.sl 3 (bL l)],true⟩,.ak ⟨70,[u8 1,.str na,i_ 0,.str [],ff],true⟩]) rfl (by rw[gT (by omega)];simp) rfl rfl (by simp) rfl rfl (by rw[IF _ _ (by omega)];simp[bX]) ?_;have hX:(h++[aK.ak ⟨46,[u1 k,.str na,u1 o,.str v,b_ f,i_ a,i_ bb,b_ w,.sl 3 (bL l)],true⟩,aK.ak ⟨70,[u8 1,.str na,i_ 0,.str [],ff],true⟩])[h.length]?=some (.ak ⟨46,[u1 k,.str na,u1 o,.str v,b_ f,i_ a,i_ bb,b_ w,.sl 3 (bL l)],true⟩):=by simp
 have hN:(h++[aK.ak ⟨46,[u1 k,.str na,u1 o,.str v,b_ f,i_ a,i_ bb,b_ w,.sl 3 (bL l)],true⟩,aK.ak ⟨70,[u8 1,.str na,i_ 0,.str [],ff],true⟩])[h.length+1]?=some (.ak ⟨70,[u8 1,.str na,i_ 0,.str [],ff],true⟩):=by
  rw[gT (by omega)];simp
 have b2:=b.app [aK.ak ⟨46,[u1 k,.str na,u1 o,.str v,b_ f,i_ a,i_ bb,b_ w,.sl 3 (bL l)],true⟩,aK.ak ⟨70,[u8 1,.str na,i_ 0,.str [],ff],true⟩];have f2:=Fr.app id h [aK.ak ⟨46,[u1 k,.str na,u1 o,.str v,b_ f,i_ a,i_ bb,b_ w,.sl 3 (bL l)],true⟩,aK.ak ⟨70,[u8 1,.str na,i_ 0,.str [],ff],true⟩];generalize h++[aK.ak ⟨46,[u1 k,.str na,u1 o,.str v,b_ f,i_ a,i_ bb,b_ w,.sl 3 (bL l)],true⟩,aK.ak ⟨70,[u8 1,.str na,i_ 0,.str [],ff],true⟩]=h2 at hX hN b2 f2 ⊢;have g2:=Fr.refl id h2;refine zzA (zzU hX rfl (zzG ?_));have done:∀{H:aa} {u:ae},u=t++jD (.mk k na o v f a bb w l)→Bl id H u→Fr id h2 H→∃r' h'',Wk h.length [.ay []] H [r'] h''∧r'=.ay []∧Bl id h'' (t++jD (.mk k na o v f a bb w l))∧Fr id h h'':=by
  intro H u e bH fH;subst e;have:=f2.trans fH;exact⟨_,_,Wk.refl _ _ _ this.1,rfl,bH,this⟩
 by_cases h1:k=1
 ·subst h1;rw[jq,if_pos (.inl rfl)]at ok;simp only[NO]at ok;have hnm:=tC ok.1.1.1.1.1.1;refine zzL rfl (zzA (zzU hX rfl (ba rfl ?_)));refine AN b2 g2 4 na true (.inr (.inl ⟨rfl,rfl,hnm.1⟩)) hnm.2 (by omega) (by simp[jz];omega) rfl fun _ H b3 f3=>?_;exact done (by rw[jD,if_pos rfl];rfl) b3 f3
 refine zzK (nO h1) (zzG ?_)
 by_cases h4:k=2
 ·subst h4;rw[jq,if_pos (.inr rfl)]at ok;simp only[NO]at ok;have hnm:=tC ok.1.1.1.1.1.1;refine zzL rfl (fV rfl (zzA ?_));refine rW b2 g2 46 (by omega) rfl fun _ H b3 f3=>?_;refine zzV (f3.ak hN (by omega)) (lT rfl) ?_;refine AN b3 f3 1 na false (.inl ⟨rfl,rfl,hnm.1⟩) hnm.2 (by omega) (by simp[jz];omega) rfl fun _ H b4 f4=>?_;exact done (by rw[jD,if_neg (by decide),if_pos rfl];simp[jz]) b4 f4
 refine zzK (nO h4) (zzG ?_);rw[jq,if_neg (by omega)]at ok
 by_cases h5:k=3
 ·subst h5;rw[if_pos rfl]at ok;simp only[NO,Of,small]at ok;have hnm:=tC ok.1.1.1.1.1.1.1.1;have hv:=HZ v;have hov:=HQ o.toNat;have hzv:=ok.1.1.1.1.1.2;obtain⟨o',rfl⟩:=Int.eq_ofNat_of_zero_le hg.1;have ho6:o'≤6:=by have:=ok.1.1.1.1.1.1.2;omega
  rw[Mk]at hov;have e1:jz 1 na=fD na:=by simp[jz]
  have e5:jz 5 v=uB v:=by simp[jz]
  refine zzL rfl (fV rfl (zzA ?_));refine rW b2 g2 91 (by omega) rfl fun _ H b3 f3=>?_;refine zzV (f3.ak hN (by omega)) (lT rfl) ?_;refine AN b3 f3 1 na false (.inl ⟨rfl,rfl,hnm.1⟩) hnm.2 (by omega) (by rw[e1];simp only[AT,aaP,abr];omega) rfl fun _ H b4 f4=>?_;rw[e1]at b4;refine aF (zzA (zzU (f4.ak hX (by omega)) rfl (zzH ?_)));refine cq rfl (fun eo=>?_) fun eo=>?_
  ·have eo:¬((o':Nat):Int)=0:=by simpa using eo
   refine fV rfl (zzA (ba rfl (zzA (zzU (f4.ak hX (by omega)) rfl (J1 rfl rfl (by omega) (ZX o' ho6) ?_)))));refine tU b4 f4 (A8.getD o' []) (by simp only[AT,aaP,abr];omega) rfl fun _ H b5 f5=>?_;refine zzA (zzU (f5.ak hX (by omega)) rfl (ba rfl ?_));refine AN b5 f5 5 v false (.inr (.inr ⟨rfl,rfl⟩)) hzv (by omega) (by rw[e5];simp only[AT,aaP,abr];omega) rfl fun _ H b6 f6=>?_;rw[e5]at b6;refine aq (aF (zzA (zzU (f6.ak hX (by omega)) rfl ?_)));refine cq rfl (fun ef=>?_) fun ef=>?_
   ·refine fV rfl (zzA ?_);refine tU b6 f6 [32,105] (by simp only[AT,aaP,abr]at *;omega) rfl fun _ H b8 f8=>?_;refine aq (fV rfl (zzA ?_));refine rW b8 f8 93 (by simp only[AT,aaP,abr]at *;omega) rfl fun _ H b9 f9=>?_;exact done (by rw[jD,if_neg (by decide),if_neg (by decide),if_pos rfl,sR,ef,if_neg eo,Mk];simp[jz]) b9 f9
   ·refine aq (fV rfl (zzA ?_));refine rW b6 f6 93 (by simp only[AT,aaP,abr]at *;omega) rfl fun _ H b9 f9=>?_;exact done (by rw[jD,if_neg (by decide),if_neg (by decide),if_pos rfl,sR,ef,if_neg eo,Mk];simp[jz]) b9 f9
  ·have eo:((o':Nat):Int)=0:=by simpa using eo
   refine aq (aF (zzA (zzU (f4.ak hX (by omega)) rfl ?_)));refine cq rfl (fun ef=>?_) fun ef=>?_
   ·refine fV rfl (zzA ?_);refine tU b4 f4 [32,105] (by simp only[AT,aaP,abr]at *;omega) rfl fun _ H b8 f8=>?_;refine aq (fV rfl (zzA ?_));refine rW b8 f8 93 (by simp only[AT,aaP,abr]at *;omega) rfl fun _ H b9 f9=>?_;exact done (by rw[jD,if_neg (by decide),if_neg (by decide),if_pos rfl,sR,ef,if_pos eo];simp[jz]) b9 f9
   ·refine aq (fV rfl (zzA ?_));refine rW b4 f4 93 (by simp only[AT,aaP,abr]at *;omega) rfl fun _ H b9 f9=>?_;exact done (by rw[jD,if_neg (by decide),if_neg (by decide),if_pos rfl,sR,ef,if_pos eo];simp[jz]) b9 f9
 refine zzK (nO h5) ?_;rw[if_neg h5]at ok;simp only[NO,Of]at ok;obtain⟨⟨⟨⟨⟨rfl,rfl⟩,rfl⟩,hf⟩,hk⟩,ha⟩:=ok;simp only[abr]at hz hb hlen;have hwl:=RL l;have hlist:∀{H:aa} {u:ae},Bl id H u→u.length+100*cQ l≤2^40→bW p_ 21 [.op id 0,.sl 3 (bL l)] H fun r h' => r=.ay []∧Bl id h' (u++fg l)∧Fr id H h':=by
  intro H u bH hH
  by_cases e:gw k w=true
  ·rw[if_pos e]at okl;simp only[NO]at okl;exact hL l (by omega) hg.2 _ _ _ okl.2 _ _ _ bH hH
  ·rw[if_neg e]at okl;obtain rfl:l=[]:=List.isEmpty_iff.1 okl;exact hL [] (by simp[cQ]) (by simp[jK]) 0 false false (by simp[cX]) _ _ _ bH hH
 have nth:eO k=true↔k=9∨k=10:=by unfold eO;simp
 refine zzA (zzU hX rfl (zzO (aF ?_)))
 by_cases hfr:kq k a bb w=true
 ·have hfr0:=hfr;simp only[kq,NO,abm,Of]at hfr;obtain⟨⟨⟨hn9,rfl⟩,rfl⟩,rfl⟩:=hfr;have h910:=nth.1 hn9;have hfc:=Hg (k-9).toNat;refine zzN rfl (zzA (zzV hX (lT rfl) (ba rfl (xu rfl rfl rfl (aq (zzR (aF (zzN rfl (zzA (zzU hX rfl (zzD (aq (zzR ?_)))))))))))));refine zzL (oF (by omega)) (fV rfl (zzA (ba rfl (zzA (zzU hX rfl (D8 (by decide) rfl rfl (PB k 9 (by omega) (by omega) (by omega)) (J1 rfl rfl (by omega) (ZW (k-9).toNat (by omega)) ?_)))))));refine tU b2 g2 (CQ.getD (k-9).toNat []) (by omega) rfl fun _ H b3 f3=>?_;exact done (by rw[OI _ _ _ _ _ (by omega) hfr0]) b3 f3
 have hj:(k-4).toNat≤10:=by omega
 have hnl:=QX (k-4).toNat;cases w
 case' true =>
  refine zzM rfl (aq (zzQ (aF (zzM rfl (aq (zzQ (zzK rfl ?_)))))))
 case' false =>
  have he:(decide (a=0)&&(decide (bb=1)&&true))=false:=by
   by_cases hn9:eO k=true
   ·simp only[kq,hn9,Bool.not_false,Bool.true_and,Bool.and_true]at hfr;simpa using hfr
   ·rw[if_neg hn9]at ha;simp only[NO,Of]at ha;simp;omega
  refine zzN rfl (zzA (zzV hX (lT rfl) (ba rfl (xu rfl rfl rfl (aq (zzR (aF (zzM he (aq (zzQ (zzK rfl ?_)))))))))))
 all_goals
  refine fV rfl (zzA (zzT (by kernel_rfl) Nf (zzA (zzU hX rfl (D8 (by decide) rfl rfl (PB k 4 (by omega) (by omega) (by omega)) (J2 rfl rfl (Uq _ hj) (zzW (zza rfl (by rw[AT];unfold maxLen;simp only[aaP,abr];omega) ?_))))))));refine tU b2 g2 _ (by simp only[AT,aaP,abr]at *;omega) rfl fun _ H b3 f3=>?_;refine zzA (zzU (f3.ak hX (by omega)) rfl (zzD ?_));refine cq rfl (fun e8=>?_) fun e8=>?_
  ·have e8:=oN e8;exact done (by rw[OH _ _ _ _ _ _ _ _ (by omega) e8,QJ _ (by omega)]) b3 f3
  have e8:=tO e8;refine fV rfl (zzA ?_);refine rW b3 f3 40 (by simp only[AT,aaP,abr]at *;omega) rfl fun _ H b4 f4=>?_;refine aF (zzA (zzU (f4.ak hX (by omega)) rfl (zzD ?_)));refine cq rfl (fun e10=>?_) fun e10=>?_
  ·have e10:=oN e10;have hn9:eO k=true:=nth.2 (by omega);have hab:oO a=true∧oO bb=true:=by
    rw[if_pos hn9,NO]at ha;rw[A7,A7];exact ha
   have hal:=Ea a bb hab.1 hab.2;have hfr:kq k a bb _=false:=Bool.eq_false_iff.2 hfr;refine zzA (zzV (f4.ak hX (by omega)) (lT rfl) (uCon (Nk a bb hab.1 hab.2) (zzB rfl (zzB rfl (fV rfl (zzA ?_))))));refine tU b4 f4 (mU a bb) (by simp only[AT,aaP,abr]at *;omega) rfl fun _ H b5 f5=>?_;refine zzA (zzU (f5.ak hX (by omega)) rfl ?_);first
    | refine zzK rfl ?_
      refine aq (zzA (zzU (f5.ak hX (by omega)) rfl (eG (by kernel_rfl) rfl (hlist b5 (by simp only[AT,aaP,abr]at *;omega)) ?_)));rintro _ H ⟨rfl,b8,f8⟩;have f8:=f5.trans f8;refine fV rfl (zzA ?_);refine rW b8 f8 41 (by have:=hwl;simp only[AT,aaP,abr]at *;omega) rfl fun _ H b9 f9=>?_;exact done (by rw[IA _ _ _ _ _ _ (by omega) hfr hn9 hab,EV _ (by omega) (by omega)];simp) b9 f9
    | refine zzL rfl ?_
      refine fV rfl (zzA ?_);refine tU b5 f5 [32,111,102,32] (by simp only[AT,aaP,abr]at *;omega) rfl fun _ H b6 f6=>?_;refine aq (zzA (zzU (f6.ak hX (by omega)) rfl (eG (by kernel_rfl) rfl (hlist b6 (by simp only[AT,aaP,abr]at *;omega)) ?_)));rintro _ H ⟨rfl,b8,f8⟩;have f8:=f6.trans f8;refine fV rfl (zzA ?_);refine rW b8 f8 41 (by have:=hwl;simp only[AT,aaP,abr]at *;omega) rfl fun _ H b9 f9=>?_;exact done (by rw[IA _ _ _ _ _ _ (by omega) hfr hn9 hab,EV _ (by omega) (by omega)];simp) b9 f9
  ·have e10:=tO e10;refine aq (zzA (zzU (f4.ak hX (by omega)) rfl (eG (by kernel_rfl) rfl (hlist b4 (by simp only[AT,aaP,abr]at *;omega)) ?_)));rintro _ H ⟨rfl,b8,f8⟩;have f8:=f4.trans f8;refine fV rfl (zzA ?_);refine rW b8 f8 41 (by have:=hwl;simp only[AT,aaP,abr]at *;omega) rfl fun _ H b9 f9=>?_;exact done (by rw[Rx _ _ _ _ _ _ _ _ (by omega),EV _ (by omega) (by omega)];simp) b9 f9
end
section
open Go Go.Aw Go.bo
def ym{k:(List AV→aa→Prop)→Prop}{f:List AV→aa→Prop}(s:List AV)(R:aa→Prop)(hk:∀F:List AV→aa→Prop,(∀H,R H→F s H)→k F)(q:∀H,R H→f s H):aG k f:=hk f q
def DT{ty sz:Nat}{zs cs:List AV}{K:AV→aa→Prop}(hz:bh z=zs)(hzs:zs.all bG=true)(hv:bh v=cs)(hl:zs.length=sz)(hc:cs.length=sz)(hs:cs.all bG=true)(q:K (.op H.length 0) (H++[.ak ⟨ty,cs,true⟩])):
 aV ty z H fun v1 g=>ao sz v1 v g fun g2=>K v1 g2:=by
 refine bT (h':=H++[.ak ⟨ty,zs,true⟩]) (n:=H.length) (cs:=zs) hz hzs rfl rfl ?_;refine aU (b:=⟨ty,zs,true⟩) (cs:=cs) (h':=H++[.ak ⟨ty,cs,true⟩]) rfl (by simp) rfl hv (show 0+cs.length≤zs.length by omega) hc hs ?_ q;have e:bX zs 0 cs=cs:=kY (by omega);rw[IF _ _ (bY _),Nat.sub_self];simp only[e];rfl
def YE(o:Nat)(h:o≤4):([.str [],.str [32],.str [32,62,32],.str [32,43,32],.str [32,126,32]]:List AV)[0+o*1]?=some (.str (qB.getD o [])):=by
 match o,h with
 | 0,_|1,_|2,_|3,_|4,_=>rfl
def GL{len sz id o:Nat}{K:AV→Prop}(ex:x=.op id o)(ei:i=.v (.int k n))(hn:n<len)(q:K (.op id (o+n*sz))):eU len sz x i K:=by
 subst ex;subst ei;exact⟨⟨by omega,by omega⟩,by rw[Mk];exact q⟩
def zXt(h:l[i]?=some x):cQ (l.take i)+zX x≤cQ l:=by
 induction l generalizing i with
 | nil=>simp at h
 | cons a l ih =>
   rw[cQ];cases i with
   | zero=>simp at h;subst h;simp[cQ]
   | succ i=>have:=ih (i:=i) (by simpa using h);rw[List.take_succ_cons,cQ];omega
def WU(l:List Cx)(i:Nat):mf ((dC l).take i)≤100*cQ (l.take i):=by
 have:=sD (l.take i)
 rwa [sE,←List.map_take,←sE]
def zPt(h:l[i]?=some x):gh (l.take i)+zP x≤gh l:=by
 induction l generalizing i with
 | nil=>simp at h
 | cons a l ih =>
   rw[gh];cases i with
   | zero=>simp at h;subst h;simp[gh]
   | succ i=>have:=ih (i:=i) (by simpa using h);rw[List.take_succ_cons,gh];omega
def WS(l:List Cp)(i:Nat):mf ((dS l).take i)≤100*gh (l.take i):=by
 have:=wa (l.take i)
 rwa [pv,←List.map_take,←pv]
def aan(h:l[i]?=some x):gL (l.take i)+zS x≤gL l:=by
 induction l generalizing i with
 | nil=>simp at h
 | cons a l ih =>
   rw[gL];cases i with
   | zero=>simp at h;subst h;simp[gL]
   | succ i=>have:=ih (i:=i) (by simpa using h);rw[List.take_succ_cons,gL];omega
def WT(l:List Sm)(i:Nat):mf ((gJ l).take i)≤100*gL (l.take i):=by
 have:=wb (l.take i)
 rwa [sB,←List.map_take,←sB]
def OD:fD []=[]:=rfl
variable [bp]
def Ml(hn:n≤2^28)(hS:OZ n):S9 n:=by
 intro l hz hg d has rel ok id h t b hb;rw[xI]at hg;rw[kV]at ok;have hxs:=sD l;have hlen:(dC l).length=l.length:=by rw[sE,aaQ]
 have hid:id<h.length:=by obtain⟨x,h1,_⟩:=b;exact iW h1
 refine (V21 _ _).bJ ?_;unfold Xu;refine zzf (n:=l.length) (by simp[cu]) fun hml=>?_;refine aZ (α:=Nat×aa) (fun p=>p.1≤l.length∧Bl id p.2 (t++fj ga (dC l) p.1)∧Fr id h p.2) (fun p=>[i_ p.1]) (fun p=>p.2) (fun p=>l.length-p.1) (0,h) ⟨by simp,by simpa[fj]using b,Fr.refl _ _⟩ (Wk.refl _ _ _ (bY _)) ?_;rintro⟨i,H⟩ ⟨hi,bH,fH⟩;simp only at hi bH fH;have hji:(fj ga (dC l) i).length≤100*cQ (l.take i):=aa7 (tw vI (dC l) i (by omega)) (WU l i)
 by_cases q:i<l.length
 ·obtain⟨x,hx⟩:∃x,l[i]?=some x:=⟨l[i],dO q⟩;obtain⟨ld,ps,cs⟩:=x;have okx:=rG ok hx;have gx:=rG hg hx;have zx:=zXt hx;rw[eS]at okx;rw[gX,xG]at gx;rw[zX]at zx;simp only[NO,Of]at okx;obtain⟨⟨⟨⟨⟨_,okl⟩,okc⟩,okp⟩,okcs⟩,okps⟩:=okx;rw[ml]at okps;have hps:=wa ps;have hpl:(dS ps).length=ps.length:=by rw[pv,aaQ]
  have hs3:=vI i;have hin:aJ ((i:Int)+1):=by unfold aJ maxLen at *;omega
  have hidH:id<H.length:=Up hid fH.1;refine zzC (zzL (oF (by omega)) (zZ rfl (cu l) rfl rfl hx (zzY rfl (DT (zs:=[u8 0,.v (.slice none 0 0),.v (.slice none 0 0)]) (cs:=[u1 ld,.sl 2 (dn ps),.sl 1 (cs.map fun c=>[u1 c])]) rfl rfl rfl rfl rfl rfl ?_))));have hV8:(H++[aK.ak ⟨39,[u1 ld,.sl 2 (dn ps),.sl 1 (cs.map fun c=>[u1 c])],true⟩])[H.length]?=some (.ak ⟨39,[u1 ld,.sl 2 (dn ps),.sl 1 (cs.map fun c=>[u1 c])],true⟩):=by simp
  have b1:=bH.app [aK.ak ⟨39,[u1 ld,.sl 2 (dn ps),.sl 1 (cs.map fun c=>[u1 c])],true⟩];have f1:=fH.trans (Fr.app id H [aK.ak ⟨39,[u1 ld,.sl 2 (dn ps),.sl 1 (cs.map fun c=>[u1 c])],true⟩]);generalize H++[aK.ak ⟨39,[u1 ld,.sl 2 (dn ps),.sl 1 (cs.map fun c=>[u1 c])],true⟩]=H1 at hV8 b1 f1 ⊢;refine ym [] (fun H' => Bl id H' (t++fj ga (dC l) i++ga i)∧Fr id H1 H') (fun F hF=>?_) ?_
  ·refine zzE ?_;refine cq rfl (fun e=>?_) fun e=>?_
   ·have e:i≠0:=by have:=oN e;omega
    refine fV rfl (zzA ?_);refine tU b1 (Fr.refl _ _) [44,32] (by simp only[AT,aaP,abr];omega) rfl fun _ H' b' f' => ?_;refine aq ?_;refine hF H' ⟨?_,f'⟩;rw[ga,if_neg e];exact b'
   ·have e:i=0:=by have:=tO e;omega
    refine aq ?_;refine hF H1 ⟨?_,Fr.refl _ _⟩;rw[ga,if_pos e,aaZ];exact b1
  rintro H2 ⟨b2,f2⟩;have hV8:=f2.ak hV8 (by omega);have f2:=f1.trans f2;refine ba rfl (DT (zs:=[.str [],.str [],.str [],.str [],.str []]) (cs:=[.str [],.str [32],.str [32,62,32],.str [32,43,32],.str [32,126,32]]) rfl rfl rfl rfl rfl rfl ?_);have hidH2:id<H2.length:=Up hid f2.1;have hV20:(H2++[aK.ak ⟨89,[.str [],.str [32],.str [32,62,32],.str [32,43,32],.str [32,126,32]],true⟩])[H2.length]?=some (.ak ⟨89,[.str [],.str [32],.str [32,62,32],.str [32,43,32],.str [32,126,32]],true⟩):=by simp
  have b3:=b2.app [aK.ak ⟨89,[.str [],.str [32],.str [32,62,32],.str [32,43,32],.str [32,126,32]],true⟩];have f3:=f2.trans (Fr.app id H2 [aK.ak ⟨89,[.str [],.str [32],.str [32,62,32],.str [32,43,32],.str [32,126,32]],true⟩]);have hV8:=(Fr.app id H2 [aK.ak ⟨89,[.str [],.str [32],.str [32,62,32],.str [32,43,32],.str [32,126,32]],true⟩]).ak hV8 (by omega);generalize H2++[aK.ak ⟨89,[.str [],.str [32],.str [32,62,32],.str [32,43,32],.str [32,126,32]],true⟩]=H3 at hV8 hV20 b3 f3 ⊢;have hld:=B1 ld.toNat;refine ym [] (fun H' => Bl id H' (t++fj ga (dC l) i++ga i++(if 1<ld then (qB.getD ld.toNat []).drop 1 else []))∧Fr id H3 H') (fun F hF=>?_) ?_
  ·refine zzA (zzU hV8 rfl (zzE ?_));refine cq rfl (fun e=>?_) fun e=>?_
   ·have e:1<ld:=by simpa using e
    obtain⟨c,rfl⟩:=Int.eq_ofNat_of_zero_le (show 0≤ld by omega);refine fV rfl (zzA (zzA (zzU hV8 rfl (GL (n:=c) rfl rfl (by omega) (zzU hV20 (YE c (by omega)) ?_)))));have hmk:1≤(qB.getD c []).length:=by
     match c,e,okl with
     | 2,_,_|3,_,_|4,_,_=>decide
     | 0,h,_|1,h,_=>exact absurd h (by decide)
     | c+5,_,h=>exact absurd h (by omega)
    refine oH (a:=1) (b:=(qB.getD c []).length) rfl rfl rfl hmk (bY _) (by rw[BY]) ?_;refine tU b3 (Fr.refl _ _) _ (by simp only[AT,List.length_drop,Mk]at *;omega) rfl fun _ H' b' f' => ?_;refine aq ?_;refine hF H' ⟨?_,f'⟩;rw[if_pos e];exact b'
   ·have e:¬1<ld:=by simpa using e
    refine aq ?_;refine hF H3 ⟨?_,Fr.refl _ _⟩;rw[if_neg e,aaZ];exact b3
  rintro H4 ⟨b4,f34⟩;have hA:(t++fj ga (dC l) i++ga i++(if 1<ld then (qB.getD ld.toNat []).drop 1 else [])).length≤t.length+100*cQ (l.take i)+6:=by
   rw[AT,AT,AT];split
   ·rw[List.length_drop];omega
   ·simp only[abr];omega
  have hfin:t++fj ga (dC l) (i+1)=(t++fj ga (dC l) i++ga i++(if 1<ld then (qB.getD ld.toNat []).drop 1 else []))++gm (gW cs) (dS ps):=by
   have:(dC l).getD i []=qe (.mk ld ps cs):=by rw[sE,nE,iN,hx];rfl
   rw[qO,this,qe];simp only[To]
  generalize t++fj ga (dC l) i++ga i++(if 1<ld then (qB.getD ld.toNat []).drop 1 else [])=A at b4 hA hfin;have hV8:=f34.ak hV8 (by omega);have hV20:=f34.ak hV20 (by omega);have f4:=f3.trans f34;refine zzA (zzU hV8 rfl ?_);refine zzf (n:=ps.length) (by simp[dv]) fun hpm=>?_;refine aZ (α:=Nat×aa) (fun p=>p.1≤ps.length∧Bl id p.2 (A++fj (gW cs) (dS ps) p.1)∧Fr id H4 p.2) (fun p=>[i_ p.1]) (fun p=>p.2) (fun p=>ps.length-p.1) (0,H4) ⟨by simp,by simpa[fj]using b4,Fr.refl _ _⟩ (Wk.refl _ _ _ (bY _)) ?_;rintro⟨k,H⟩ ⟨hk,bK,fK⟩;simp only at hk bK fK;have hjk:(fj (gW cs) (dS ps) k).length≤100*gh (ps.take k):=aa7 (tw (zH cs) (dS ps) k (by omega)) (WS ps k);refine zzC ?_
  by_cases q2:k<ps.length
  ·obtain⟨p,hp⟩:∃p,ps[k]?=some p:=⟨ps[k],dO q2⟩;obtain⟨tg,ss⟩:=p;have okp2:=rG okps hp;have gp:=rG gx hp;have zp:=zPt hp;rw[cN]at okp2;rw[gP,xH]at gp;rw[zP]at zp;simp only[NO]at okp2;have okss:=okp2.2;have oktg:=okp2.1.1.1;rw[kU]at okss;have hss:=wb ss;have hsl:(gJ ss).length=ss.length:=by rw[sB,aaQ]
   have hin2:aJ ((k:Int)+1):=by unfold aJ maxLen at *;omega
   have hin3:aJ ((k:Int)-1):=by unfold aJ maxLen at *;omega
   have hsp:=zH cs k;have hnm:=uy tg;have hV8k:=fK.ak hV8 (by omega);have hV20k:=fK.ak hV20 (by omega);refine zzL (oF (by omega)) (zZ rfl (dv ps) rfl rfl hp (zzY rfl (DT (zs:=[.str [],.v (.slice none 0 0)]) (cs:=[.str tg,.sl 9 (dQ ss)]) rfl rfl rfl rfl rfl rfl ?_)));have hidK:id<H.length:=Up (Up hid f4.1) fK.1;have hV47:(H++[aK.ak ⟨42,[.str tg,.sl 9 (dQ ss)],true⟩])[H.length]?=some (.ak ⟨42,[.str tg,.sl 9 (dQ ss)],true⟩):=by simp
   have b5:=bK.app [aK.ak ⟨42,[.str tg,.sl 9 (dQ ss)],true⟩];have fa:=Fr.app id H [aK.ak ⟨42,[.str tg,.sl 9 (dQ ss)],true⟩];have f5:=fK.trans fa;have hV8k:=fa.ak hV8k (by omega);have hV20k:=fa.ak hV20k (by omega);generalize H++[aK.ak ⟨42,[.str tg,.sl 9 (dQ ss)],true⟩]=H5 at hV47 b5 f5 hV8k hV20k ⊢;refine ym [] (fun H' => Bl id H' (A++fj (gW cs) (dS ps) k++gW cs k)∧Fr id H5 H') (fun F hF=>?_) ?_
   ·refine zzE ?_;refine cq rfl (fun e=>?_) fun e=>?_
    ·have e:k≠0:=by have:=oN e;omega
     obtain⟨c,hc⟩:∃c,cs[k-1]?=some c:=⟨cs[k-1]'(by omega),dO (by omega)⟩;have hc14:=rG okcs hc;simp only[Of]at hc14;obtain⟨c',rfl⟩:=Int.eq_ofNat_of_zero_le (show 0≤c by omega);refine fV rfl (zzA (zzA (zzU hV8k rfl (zze hin3 (zZ (n:=k-1) rfl rfl rfl (by omega) hc (zzW (GL (n:=c') rfl rfl (by omega) (zzU hV20k (YE c' (by omega)) ?_))))))));have es:gW cs k=qB.getD c' []:=by
      have:cs.getD (k-1) 0=((c':Nat):Int):=by rw[nE,hc];rfl
      rw[gW,if_neg e,this];rfl
     rw[es]at hF hsp;refine tU b5 (Fr.refl _ _) _ (by rw[AT];omega) rfl fun _ H' b' f' => ?_;refine aq ?_;exact hF H' ⟨b',f'⟩
    ·have e:k=0:=by have:=tO e;omega
     refine aq ?_;refine hF H5 ⟨?_,Fr.refl _ _⟩;rw[gW,if_pos e,aaZ];exact b5
   rintro H6 ⟨b6,f56⟩;have hV47:=f56.ak hV47 (by omega);have f6:=f5.trans f56;refine ym [] (fun H' => Bl id H' (A++fj (gW cs) (dS ps) k++gW cs k++(if tg=[42] then [42] else fD tg))∧Fr id H6 H') (fun F hF=>?_) ?_
   ·refine zzA (zzU hV47 rfl (zzI ?_));refine cq rfl (fun e0=>?_) fun e0=>?_
    ·have e0:=oN e0;subst e0;refine aq ?_;refine hF H6 ⟨?_,Fr.refl _ _⟩;rw[if_neg (by decide),OD,aaZ];exact b6
    ·have e0:=tO e0;refine zzI ?_;refine cq rfl (fun e=>?_) fun e=>?_
     ·have e:=oN e;refine fV rfl (zzA ?_);refine rW b6 (Fr.refl _ _) 42 (by rw[AT,AT];omega) rfl fun _ H' b' f' => ?_;refine aq ?_;refine hF H' ⟨?_,f'⟩;rw[if_pos e];exact b'
     ·have e:=tO e;have hsm:small tg=true:=by
       rw[abl,abl,Of,Of]at oktg;rcases oktg with (h|h)|h
       ·exact absurd h e0
       ·exact absurd h e
       ·exact h
      rw[small,NO]at hsm;have hnm2:=tC hsm.1;have e1:jz 1 tg=fD tg:=by simp[jz]
      refine zzA (zzU hV47 rfl (ba rfl ?_));refine AN b6 (Fr.refl _ _) 1 tg false (.inl ⟨rfl,rfl,e0⟩) hnm2.2 (by omega) (by rw[e1,AT,AT];omega) rfl fun _ H' b' f' => ?_;refine aq ?_;refine hF H' ⟨?_,f'⟩;rw[if_neg e,←e1];exact b'
   rintro H7 ⟨b7,f67⟩;have hV47:=f67.ak hV47 (by omega);have f7:=f6.trans f67;have hB:(A++fj (gW cs) (dS ps) k++gW cs k++(if tg=[42] then [42] else fD tg)).length≤t.length+100*cQ (l.take i)+100*gh (ps.take k)+10+4*tg.length:=by
    rw[AT,AT,AT];split
    ·simp only[aaP,abr];omega
    ·omega
   have hfin2:A++fj (gW cs) (dS ps) (k+1)=(A++fj (gW cs) (dS ps) k++gW cs k++(if tg=[42] then [42] else fD tg))++(gJ ss).flatten:=by
    have:(dS ps).getD k []=sA (.mk tg ss):=by rw[pv,nE,iN,hp];rfl
    rw[qO,this,sA];simp only[To]
   generalize A++fj (gW cs) (dS ps) k++gW cs k++(if tg=[42] then [42] else fD tg)=B at hB hfin2 b7;refine zzA (zzU hV47 rfl ?_);refine zzf (n:=ss.length) (by simp[dE]) fun hsm=>?_;refine aZ (α:=Nat×aa) (fun p=>p.1≤ss.length∧Bl id p.2 (B++((gJ ss).take p.1).flatten)∧Fr id H7 p.2) (fun p=>[i_ p.1]) (fun p=>p.2) (fun p=>ss.length-p.1) (0,H7) ⟨by simp,by simpa using b7,Fr.refl _ _⟩ (Wk.refl _ _ _ (bY _)) ?_;rintro⟨m,H⟩ ⟨hm,bM,fM⟩;simp only at hm bM fM;have hfm:(((gJ ss).take m).flatten).length≤100*gL (ss.take m):=aa7 (kp _) (WT ss m);refine zzC ?_
   by_cases q3:m<ss.length
   ·obtain⟨y,hy⟩:∃y,ss[m]?=some y:=⟨ss[m],dO q3⟩;have oky:=rG okss hy;have gy:=rG gp hy;have zy:=aan hy;have hin4:aJ ((m:Int)+1):=by unfold aJ maxLen at *;omega
    refine zzL (oF (by omega)) (zZ rfl (dE ss) rfl rfl hy (zzY (by cases y;rfl) (DT (zs:=[u8 0,.str [],u8 0,.str [],ff,i_ 0,i_ 0,ff,.v (.slice none 0 0)]) (cs:=du y) rfl rfl rfl rfl (by cases y;rfl) (by cases y;rfl) (zzV (b:=⟨46,du y,true⟩) (by simp) (by cases y;exact bY _) ?_))));have e9:(List.drop 0 (du y)).take 9=du y:=by cases y;rfl
    have fb:=Fr.app id H [aK.ak ⟨46,du y,true⟩];refine eG (by kernel_rfl) (by simp only[e9]) (hS y (by omega) gy d has oky id _ _ (bM.app _) (by rw[AT];omega)) ?_;rintro _ H' ⟨rfl,b',f'⟩;refine zzP hin4 (And.intro rfl ?_);have fE:=fM.trans (fb.trans f');refine⟨(m+1,H'),⟨by simp only;omega, ?_,fE⟩,Wk.refl _ _ _ fE.1,by simp only;omega⟩;have ey:(gJ ss)[m]?=some (jD y):=by rw[sB,iN,hy];rfl
    simp only;rw[By,ey,List.flatten_append];simp only[Option.toList_some,abq,List.flatten_nil,aaZ,←To];exact b'
   ·obtain rfl:m=ss.length:=by omega
    refine zzK (nO (by omega)) (zzP hin2 (And.intro rfl ?_));have fE:=f7.trans fM;refine⟨(k+1,H),⟨by simp only;omega, ?_,fE⟩,Wk.refl _ _ _ fE.1,by simp only;omega⟩;simp only;rw[hfin2];have e3:(gJ ss).take ss.length=gJ ss:=by rw[←hsl,BY]
    rw[e3]at bM;exact bM
  ·obtain rfl:k=ps.length:=by omega
   refine zzK (nO (by omega)) (zzP hin (And.intro rfl ?_));have fE:=f4.trans fK;refine⟨(i+1,H),⟨by simp only;omega, ?_,fE⟩,Wk.refl _ _ _ fE.1,by simp only;omega⟩;rw[hfin,gm,hpl];exact bK
 ·obtain rfl:i=l.length:=by omega
  refine zzC (zzK (nO (by omega)) ?_);refine⟨_,_,Wk.refl _ _ _ fH.1,rfl, ?_,fH⟩;rw[fg,gm,hlen];exact bH
end
end Go.Proofs.YtpcnidmmkknndaaGreatDoor
end
